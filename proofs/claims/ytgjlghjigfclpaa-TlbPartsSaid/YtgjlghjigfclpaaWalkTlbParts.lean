/- The walk of the law TlbParts. -/
import Derived.Test.YtgjlghjigfclpaaTlbM
set_option linter.all false
namespace Go.Proofs.Ytgjlghjigfclpaa
open Go.RowKit

/-- A slice of lines that is owned. -/
def LP (v : Value) (L : List Ln) : Thing := fun O w => w.ownsRow 0 34 4 v L.length (L.flatMap encL) ∧ ∀ k, v.ownBlock = some k → O k
theorem LP.ok (v : Value) (L : List Ln) : (LP v L).Ok :=
  ⟨fun h k hF => ⟨own_kept h.1 k (fun i hi => hF i (h.2 i hi)), h.2⟩, fun h => ⟨h.1, fun k hk => ⟨h.2 k hk, own_size h.1 hk⟩⟩, fun h hO => ⟨h.1, fun k hk => hO k (h.2 k hk)⟩⟩
/-- One more line behind the others. -/
theorem LP.more {v v' : Value} {L : List Ln} {x : Ln} {O : Nat → Prop} {w w' : World} (h : LP v L O w) (hown : w'.ownsRow 0 34 4 v' (L.length + 1) ((L ++ [x]).flatMap encL)) (hgr : w.grownBy w' v.ownBlock) (hid : ∀ k, v'.ownBlock = some k → v.ownBlock = some k ∨ w.heap.size ≤ k) :
    LP v' (L ++ [x]) (fun k => O k ∨ w.heap.size ≤ k) w' ∧ Kept O w w' :=
  ⟨⟨by rw [List.length_append]; exact hown, fun k hk => (hid k hk).imp (h.2 k) id⟩, (Kept.of_grown hgr).mono (fun i _ hi => h.2 i hi)⟩
theorem LP.fresh {v : Value} {L : List Ln} {w : World} {base : Nat} (h : w.ownsRow base 34 4 v L.length (L.flatMap encL)) : LP v L (fun k => base ≤ k) w := ⟨own_mono h (Nat.zero_le _), fun k hk => own_block h hk⟩
theorem LP.empty (w : World) : LP (.slice (some ⟨w.heap.size, 0, none⟩) 0 0) [] (fun k => w.heap.size ≤ k) (w.alloc (.cells #[] 34)) :=
  LP.fresh (L := []) (World.ownsRow_made w #[] 0 (Nat.le_refl _) (by unfold maxLen; omega) rfl)
theorem own_line {w : World} {base g n c : Nat} {F : List Ln} (h : w.ownsRow base 34 4 (.slice (some ⟨g, 0, none⟩) n c) n (F.flatMap encL)) {j : Nat} {y : Ln} (hy : F[j]? = some y) :
    w.cell? ⟨g, j * 4, none⟩ = some (.int .i64 y.sp) ∧ w.cell? ⟨g, j * 4 + 1, none⟩ = some (.int .i64 y.pg) ∧ w.cell? ⟨g, j * 4 + 2, none⟩ = some (.int .i64 y.fr) ∧ w.cell? ⟨g, j * 4 + 3, none⟩ = some (.int .i64 y.ri) := by
  have key : ∀ i v, i < 4 → (encL y)[i]? = some v → w.cell? ⟨g, j * 4 + i, none⟩ = some v := by
    intro i v hi hv
    have h1 := enc_get encL_len hy hi
    rw [hv] at h1
    have h2 := h.cells (g := g) rfl _ _ h1
    rw [addr_add, Nat.zero_add] at h2
    exact h2
  exact ⟨by simpa using key 0 _ (by omega) rfl, key 1 _ (by omega) rfl, key 2 _ (by omega) rfl, key 3 _ (by omega) rfl⟩
theorem seven {q : Nat} {x : Ln} {w W : World} (k : New w W) (h : w.heap[q]? = some (blkL x)) : W.cell? ⟨q, 0, none⟩ = some (.int .i64 x.sp) ∧ W.cell? ⟨q, 2, none⟩ = some (.int .i64 x.fr) :=
  ⟨cell_blk (k.heap h (fun h => h)) 0, cell_blk (k.heap h (fun h => h)) 2⟩

set_option maxRecDepth 100000 in
set_option maxHeartbeats 16000000 in
theorem walkTlbParts (w : World) (room : Int) (hwf : (Lit.int .i64 room).wf = true) (v : Value) (rows : List (List Value)) (hs : Src w v rows.length 4 rows.flatten) (hr : ∀ x ∈ rows, FlatOk [.int .i64, .int .i64, .int .i64, .int .i64] x) (hm : rows.length ≤ maxLen)
    (cx : List Value) (hcx : FlatOk [.int .i64, .int .i64, .int .i64, .int .i64] cx) :
    Calls Try.prog 8 #[.int .i64 room, v, .agg cx.toArray] w fun e w' => e = .returned (.bool true) ∧ Below w.heap.size w w' := by
  obtain ⟨x, rfl⟩ := line_of_flat hcx
  obtain ⟨L, hfl, hll⟩ := lines_of_rows hr
  rw [hfl] at hs
  obtain ⟨len, hlen⟩ : ∃ len, len = rows.length := ⟨_, rfl⟩
  rw [← hlen] at hs hm hll
  clear hr hfl hlen hcx
  obtain ⟨m, hmk, a0, a1⟩ := and_small room 4 (by decide)
  simp only [Int.reducePow, Int.reduceSub] at hmk a1
  obtain ⟨m, rfl⟩ := Int.eq_ofNat_of_zero_le a0
  obtain ⟨n, hn⟩ : ∃ n : Nat, n = 1 + m := ⟨_, rfl⟩
  have hw1 : IntKind.i64.wrap (1 + (m : Int)) = (n : Int) := by rw [IntKind.wrap_i64]; omega
  have hn1 : 1 ≤ n := by omega
  have hn8 : n ≤ 16 := by omega
  clear hn hwf a0 a1
  have Hs := Lib.hid hs
  obtain ⟨-, ao, c, rfl, hcells⟩ := hs.lines
  have Hll := Lib.hid hll
  have hlenm : len ≤ 9223372036854775807 := by have : maxLen = 9223372036854775807 := rfl; omega
  clear hs hll hcells hm
  show Calls Try.prog 8 #[.int .i64 room, .slice ao len c, aggL x] w _
  go_enter Try.func8, Try.ntmps8
  go_wp2_with fail
  refine (new_yes n _ hn1 (by omega)).mono ?_
  rintro e w1 ⟨rfl, hA, hk1⟩
  have hX1 := (Kept.of_below (B := 0) (Below.refl 0 w))
  have hX : BQ w.heap.size (blkL x) (fun k => w.heap.size ≤ k ∧ k < (w.alloc (blkL x)).heap.size) (w.alloc (blkL x)) := ⟨heap_alloc_new _ _, Nat.le_refl _, by simp⟩
  have hS0 : Sep (TP (w.alloc (blkL x)).heap.size n []) (BQ w.heap.size (blkL x)) (fun k => w.heap.size ≤ k) w1 :=
    Sep.fresh (BQ.ok _ _) ((BQ.ok _ _).mono hX (fun k hk => hk.1)) hA hk1 (fun k hk => by simp at hk; omega)
  have hk01 : New w w1 := ((Kept.refl _ w).alloc (blkL x)).trans hk1
  obtain ⟨b, hb⟩ : ∃ b, b = (w.alloc (blkL x)).heap.size := ⟨_, rfl⟩
  obtain ⟨q, hq⟩ : ∃ q, q = w.heap.size := ⟨_, rfl⟩
  have Hq := Lib.hid hq
  have hb' : w.heap.size + 1 = b := by rw [hb]; simp
  replace hS0 : Sep (TP b n []) (BQ q (blkL x)) (fun k => w.heap.size ≤ k) w1 := by rw [hb, hq]; exact hS0
  try rw [← hb]
  try simp only [hb']
  rw [← hq]
  clear hA hX hX1 hk1 hb hb' hq
  go_wp2_with fail
  go_loopw [9] (fun i wr => ∃ k : Nat, k ≤ 60 ∧ k ≤ len ∧ i = .int .i64 k ∧ New w wr ∧ Sep (TP b n (fillsE n (L.take k))) (BQ q (blkL x)) (fun k => w.heap.size ≤ k) wr) (fun i _ => 60 - (intOf i).toNat)
  case atStart => exact ⟨0, by omega, by omega, rfl, hk01, hS0⟩
  case round =>
    clear hS0 hk01
    obtain ⟨k, hk6, hk, rfl, hkr, hS⟩ := hrel
    by_cases h1 : k < len ∧ k < 60
    · obtain ⟨h1, h2⟩ := h1
      have h2' : (k : Int) < 60 := by omega
      have k0 : (0 : Int) ≤ k := by omega
      have k1 : (k : Int) < len := by omega
      obtain ⟨y, hy⟩ : ∃ y, L[k]? = some y := ⟨_, List.getElem?_eq_getElem (by have := Hll.out; omega)⟩
      obtain ⟨ao', c', he, hcl⟩ := (Hs.out.same hkr).lines.2
      cases he
      obtain ⟨B, Of, rfl, c0, c1, c2, c3⟩ := hcl k y hy
      have hla := fillsE_length n hn1 (L.take k)
      have Hy := Lib.hid hy
      obtain ⟨O1, O2, g1, g2, g3, g4⟩ := hS
      have G3 := Lib.hid g3
      have G4 := Lib.hid g4
      clear hcl hy g3 g4
      go_wp2_with fail
      refine (fill_any b n _ (fillsE n (L.take (k + 1))) y wr g1 hla hn1 (by omega) (fillsE_take Hy.out).symm).mono ?_
      rintro e w3 ⟨rfl, hA3, hk3⟩
      obtain ⟨hS3, hk3'⟩ := Sep.step (P' := TP b n (fillsE n (L.take (k + 1)))) (BQ.ok _ _) g2 G3.out G4.out hA3 hk3 (fun k hk => Nat.le_trans hkr.size hk)
      have hkr3 := hkr.new hk3' (fun i hi => hi)
      clear g1 g2 G3 G4 hA3 hk3 hk3' c0 c1 c2 c3
      go_wp2_with fail
      go_roundw
      case rel => exact ⟨k + 1, by omega, by omega, by go_num, hkr3, hS3⟩
      case measure => simp [intOf]; omega
    · obtain ⟨F, hF⟩ : ∃ F, F = fillsE n (L.take k) := ⟨_, rfl⟩
      have hF8 : F.length ≤ 1000 := by have := fillsE_length n hn1 (L.take k); rw [hF]; omega
      have hF16 : F.length ≤ 16 := by have := fillsE_length n hn1 (L.take k); rw [hF]; omega
      rw [← hF] at hS
      clear hF
      obtain ⟨mF, hmF⟩ : ∃ mF, mF = F.length := ⟨_, rfl⟩
      have HmF := Lib.hid hmF
      have hm16 : mF ≤ 16 := by omega
      clear hmF
      by_cases h3 : k < len
      · have h2' : ¬ ((k : Int) < 60) := by omega
        obtain ⟨_, ht⟩ := Sep.one hS
        go_wp2_with fail
        refine (lines_any b n F wr ht hF8).mono ?_
        rintro e w3 ⟨v3, rfl, hown3, hk3⟩
        have hS3 := Sep.fresh (N := LP v3 F) (Sep.ok (TP.ok b n F) (BQ.ok q (blkL x))) hS (LP.fresh hown3) hk3 (fun k hk => Nat.le_trans hkr.size hk)
        have hkw := hkr.trans hk3
        obtain ⟨a3, c3, hv3, -⟩ := Src.of_own hown3
        rw [← HmF.out] at hv3
        subst hv3
        clear hown3 hk3 ht hS hkr
        obtain ⟨_, ht⟩ := Sep.any hS3
        obtain ⟨_, ht⟩ := Sep.one ht
        go_wp2_with fail
        refine (copy_any b n F w3 ht hF8).mono ?_
        rintro e w4 ⟨bc, rfl, hN4, hk4⟩
        have hS4 := Sep.fresh (N := TP bc n F) (Sep.ok (LP.ok _ F) (Sep.ok (TP.ok b n F) (BQ.ok q (blkL x)))) hS3 hN4 hk4 (fun k hk => Nat.le_trans hkw.size hk)
        replace hkw := hkw.trans hk4
        clear hN4 hk4 ht hS3
        have hS4' := hS4.turn
        go_wp2_with fail
        have hS5 := Sep.fresh (N := LP (.slice (some ⟨w4.heap.size, 0, none⟩) 0 0) []) (Sep.ok (LP.ok _ F) (Sep.ok (TP.ok bc n F) (Sep.ok (TP.ok b n F) (BQ.ok q (blkL x))))) hS4' (LP.empty w4) ((Kept.refl (fun _ => False) w4).alloc _) (fun k hk => Nat.le_trans hkw.size hk)
        replace hkw := hkw.alloc (.cells #[] 34)
        obtain ⟨w5, hw5⟩ : ∃ w5, w5 = w4.alloc (.cells #[] 34) := ⟨_, rfl⟩
        have Hw5 := Lib.hid hw5
        rw [← hw5] at hS5 hkw
        have hsz5 : w5.heap.size = w4.heap.size + 1 := by rw [hw5]; simp
        have hS6 := Sep.fresh (N := LP (.slice (some ⟨w5.heap.size, 0, none⟩) 0 0) []) (Sep.ok (LP.ok _ []) (Sep.ok (LP.ok _ F) (Sep.ok (TP.ok bc n F) (Sep.ok (TP.ok b n F) (BQ.ok q (blkL x)))))) hS5 (LP.empty w5) ((Kept.refl (fun _ => False) w5).alloc _) (fun k hk => Nat.le_trans hkw.size hk)
        have hS7 := hS6.turn
        replace hkw := hkw.alloc (.cells #[] 34)
        rw [hsz5, hw5] at hS7
        rw [hw5] at hkw
        clear hS4 hS4' hS5 hS6 hw5 Hw5 hsz5
        go_loopw [12, 13, 14] (fun va vb i wi => ∃ (j ma mb : Nat) (A B : List Ln) (aa ab : Option Addr) (ca cb : Nat), j ≤ mF ∧ i = .int .i64 j ∧ va = .slice aa ma ca ∧ vb = .slice ab mb cb ∧ Hid (A = dropS x.sp (F.take j) ∧ B = dropF x.fr (F.take j) ∧ ma = A.length ∧ mb = B.length) ∧
          Sep (LP (.slice aa ma ca) A) (Sep (LP (.slice ab mb cb) B) (Sep (LP (.slice a3 mF c3) F) (Sep (TP bc n F) (Sep (TP b n F) (BQ q (blkL x)))))) (fun k => w.heap.size ≤ k) wi ∧ New w wi) (fun _ _ i _ => mF - (intOf i).toNat)
        case atStart => exact ⟨0, 0, 0, [], [], _, _, 0, 0, by omega, rfl, rfl, rfl, ⟨rfl, rfl, rfl, rfl⟩, hS7, hkw⟩
        case round =>
          clear hS7 hkw
          obtain ⟨j, ma, mb, A, B, aa, ab, ca, cb, hj, rfl, rfl, rfl, HAB, hS, hkr⟩ := hrel
          by_cases hjm : j < mF
          · obtain ⟨y, hy⟩ : ∃ y, F[j]? = some y := ⟨_, List.getElem?_eq_getElem (by rw [← HmF.out]; exact hjm)⟩
            have Hy := Lib.hid hy
            have hmab : ma ≤ 1000 ∧ mb ≤ 1000 := by
              obtain ⟨e1, e2, e3, e4⟩ := HAB.out
              have h1 : (dropS x.sp (F.take j)).length ≤ (F.take j).length := List.length_filter_le _ _
              have h2 : (dropF x.fr (F.take j)).length ≤ (F.take j).length := List.length_filter_le _ _
              rw [List.length_take] at h1 h2
              rw [e3, e4, e1, e2]
              omega
            obtain ⟨hma8, hmb8⟩ := hmab
            have hstS : dropS x.sp (F.take (j + 1)) = A ++ dropS x.sp [y] := by
              rw [List.take_add_one, Hy.out, HAB.out.1]; simp [dropS]
            have hstF : dropF x.fr (F.take (j + 1)) = B ++ dropF x.fr [y] := by
              rw [List.take_add_one, Hy.out, HAB.out.2.1]; simp [dropF]
            have HstS := Lib.hid hstS
            have HstF := Lib.hid hstF
            have Hma := Lib.hid HAB.out.2.2.1
            have Hmb := Lib.hid HAB.out.2.2.2
            have j0 : (0 : Int) ≤ j := by omega
            have j1 : (j : Int) < mF := by omega
            clear hstS hstF hy
            obtain ⟨_, hzz⟩ := Sep.any hS
            obtain ⟨_, hzz⟩ := Sep.any hzz
            obtain ⟨_, hzz⟩ := Sep.one hzz
            obtain ⟨gp, cap, hvp, -, -, -⟩ := Row.of_ownS hzz.1 (by rw [← HmF.out]; omega)
            simp only [Value.slice.injEq] at hvp
            obtain ⟨rfl, -, rfl⟩ := hvp
            clear hzz
            obtain ⟨_, hzp⟩ := Sep.any hS
            obtain ⟨_, hzp⟩ := Sep.any hzp
            obtain ⟨_, hrwp⟩ := Sep.one hzp
            obtain ⟨_, hzp⟩ := Sep.any hzp
            obtain ⟨_, hzp⟩ := Sep.any hzp
            obtain ⟨_, hzp⟩ := Sep.any hzp
            have hbxp : wr.heap[q]? = some (blkL x) := hzp.1
            have hrwp' := hrwp.1
            rw [← HmF.out] at hrwp'
            obtain ⟨r0p, r1p, r2p, r3p⟩ := own_line hrwp' Hy.out
            have x0p := cell_blk hbxp 0
            have x2p := cell_blk hbxp 2
            clear hzp hrwp hbxp hrwp'
            obtain ⟨i34, hi, hz0, hz1, hz2⟩ := info_parts info34
            by_cases e1 : y.sp = x.sp
            · have e1b : (y.sp != x.sp) = false := by simpa using e1
              have E1 := Lib.hid e1
              clear e1
              go_wp2_with fail
              go_quiet (fail)
              obtain ⟨W1, hW1⟩ : ∃ W1, W1 = wr.drewN nq := ⟨_, rfl⟩
              have hkW1 : New wr W1 := by rw [hW1]; exact (Kept.refl _ _).drewN _
              rw [← hW1]
              have hS2 := (Sep.ok (LP.ok _ A) (Sep.ok (LP.ok _ B) (Sep.ok (LP.ok _ F) (Sep.ok (TP.ok bc n F) (Sep.ok (TP.ok b n F) (BQ.ok q (blkL x))))))).kept hS hkW1 (fun _ _ h => h)
              have hkr2 := hkr.trans hkW1
              clear hW1 hS r0p r1p r2p r3p x0p x2p
              obtain ⟨_, hzs⟩ := Sep.any hS2
              obtain ⟨_, hzs⟩ := Sep.any hzs
              obtain ⟨_, hrws⟩ := Sep.one hzs
              obtain ⟨_, hzs⟩ := Sep.any hzs
              obtain ⟨_, hzs⟩ := Sep.any hzs
              obtain ⟨_, hzs⟩ := Sep.any hzs
              have hbxs : W1.heap[q]? = some (blkL x) := hzs.1
              have hrws' := hrws.1
              rw [← HmF.out] at hrws'
              obtain ⟨r0s, r1s, r2s, r3s⟩ := own_line hrws' Hy.out
              have x0s := cell_blk hbxs 0
              have x2s := cell_blk hbxs 2
              clear hzs hrws hbxs hrws'
              by_cases e2 : y.fr = x.fr
              · have e2b : (y.fr != x.fr) = false := by simpa using e2
                have E2 := Lib.hid e2
                clear e2
                go_wp2_with fail
                go_quiet (fail)
                obtain ⟨W3, hW3⟩ : ∃ W3, W3 = W1.drewN nq := ⟨_, rfl⟩
                have hkW3 : New W1 W3 := by rw [hW3]; exact (Kept.refl _ _).drewN _
                rw [← hW3]
                have hS8 := (Sep.ok (LP.ok _ _) (Sep.ok (LP.ok _ B) (Sep.ok (LP.ok _ F) (Sep.ok (TP.ok bc n F) (Sep.ok (TP.ok b n F) (BQ.ok q (blkL x))))))).kept hS2 hkW3 (fun _ _ h => h)
                have hkr8 := hkr2.trans hkW3
                clear r0s r1s r2s r3s x0s x2s
                clear hW3
                go_wp2_with fail
                go_roundw
                case rel => exact ⟨j + 1, ma, mb, A, B, aa, ab, ca, cb, by omega, by go_num, rfl, rfl, ⟨by rw [HstS.out]; simp [dropS, E1.out], by rw [HstF.out]; simp [dropF, E2.out], Hma.out, Hmb.out⟩, hS8, hkr8⟩
                case measure => simp [intOf]; omega
              · have e2b : (y.fr != x.fr) = true := by simpa using e2
                have E2 := Lib.hid e2
                clear e2
                go_wp2_with fail
                go_quiet (fail)
                obtain ⟨W3, hW3⟩ : ∃ W3, W3 = W1.drewN nq := ⟨_, rfl⟩
                have hkW3 : New W1 W3 := by rw [hW3]; exact (Kept.refl _ _).drewN _
                rw [← hW3]
                have hS8 := ((Sep.ok (LP.ok _ _) (Sep.ok (LP.ok _ B) (Sep.ok (LP.ok _ F) (Sep.ok (TP.ok bc n F) (Sep.ok (TP.ok b n F) (BQ.ok q (blkL x))))))).kept hS2 hkW3 (fun _ _ h => h)).turn
                have hkr8 := hkr2.trans hkW3
                have r0t := cell_kept hkW3 r0s (fun h => h)
                have r1t := cell_kept hkW3 r1s (fun h => h)
                have r2t := cell_kept hkW3 r2s (fun h => h)
                have r3t := cell_kept hkW3 r3s (fun h => h)
                clear r0s r1s r2s r3s x0s x2s
                clear hW3
                have hk9v : New W3 (W3.alloc (blkL y)) := (Kept.refl _ _).alloc _
                obtain ⟨O1v, O2v, p1v, p2v, p3v, p4v⟩ := hS8
                have P2v := Lib.hid ((Sep.ok (LP.ok (.slice aa ma ca) A) (Sep.ok (LP.ok _ F) (Sep.ok (TP.ok bc n F) (Sep.ok (TP.ok b n F) (BQ.ok q (blkL x)))))).kept p2v hk9v (fun _ _ h => h))
                have P1v := Lib.hid ((LP.ok (.slice ab mb cb) B).kept p1v hk9v (fun _ _ h => h))
                have P3v := Lib.hid p3v
                have P4v := Lib.hid p4v
                have Hlitv := Lib.hid (Src.lit W3 #[.int .i64 y.sp, .int .i64 y.pg, .int .i64 y.fr, .int .i64 y.ri] 34 1 4 rfl)
                clear p1v p2v p3v p4v
                go_wp2_with (at_builtin; refine wpList_append_src2 rfl _ _ 27 rfl 0 34 i34 (aggL ⟨0, 0, 0, 0⟩) 4 32 Try.underlying27 hi hz0 hz1 hz2 rfl (by decide) (.slice ab mb cb) mb (B.flatMap encL) rfl (by have := P1v.out.1; rw [← Hmb.out] at this; exact this) _ 1 _ rfl Hlitv.out (by simp [Value.oneCell']) (by simp [maxLen]; omega) (by omega) (by simp) ?_; intro vv w9 hownv hgrv hidv; obtain ⟨aov, cov, hvv, _⟩ := Src.of_own hownv; rw [hvv])
                rw [hvv] at hownv hidv
                have hmorev := LP.more (x := y) P1v.out (by rw [← Hmb.out, encL_snoc]; exact hownv) hgrv hidv
                obtain ⟨hS9, hkstv⟩ := Sep.step (P' := LP (.slice aov (mb + 1) cov) (B ++ [y])) (Sep.ok (LP.ok (.slice aa ma ca) A) (Sep.ok (LP.ok _ F) (Sep.ok (TP.ok bc n F) (Sep.ok (TP.ok b n F) (BQ.ok q (blkL x)))))) P2v.out P3v.out P4v.out hmorev.1 hmorev.2 (fun k hk => Nat.le_trans (hkr8.trans hk9v).size hk)
                have hkrv : New w w9 := (hkr8.trans hk9v).new hkstv (fun i hi => hi)
                clear P1v P2v P3v P4v Hlitv hownv hgrv hidv hvv hmorev hkstv hk9v
                clear r0t r1t r2t r3t
                go_roundw
                case rel => exact ⟨j + 1, ma, mb + 1, A, B ++ [y], aa, aov, ca, cov, by omega, by go_num, rfl, rfl, ⟨by rw [HstS.out]; simp [dropS, E1.out], by rw [HstF.out]; simp [dropF, E2.out], Hma.out, by rw [Hmb.out]; simp⟩, hS9.turn, hkrv⟩
                case measure => simp [intOf]; omega
            · have e1b : (y.sp != x.sp) = true := by simpa using e1
              have E1 := Lib.hid e1
              clear e1
              go_wp2_with fail
              go_quiet (fail)
              obtain ⟨W1, hW1⟩ : ∃ W1, W1 = wr.drewN nq := ⟨_, rfl⟩
              have hkW1 : New wr W1 := by rw [hW1]; exact (Kept.refl _ _).drewN _
              rw [← hW1]
              have hS2 := (Sep.ok (LP.ok _ A) (Sep.ok (LP.ok _ B) (Sep.ok (LP.ok _ F) (Sep.ok (TP.ok bc n F) (Sep.ok (TP.ok b n F) (BQ.ok q (blkL x))))))).kept hS hkW1 (fun _ _ h => h)
              have hkr2 := hkr.trans hkW1
              have r0t := cell_kept hkW1 r0p (fun h => h)
              have r1t := cell_kept hkW1 r1p (fun h => h)
              have r2t := cell_kept hkW1 r2p (fun h => h)
              have r3t := cell_kept hkW1 r3p (fun h => h)
              clear hW1 hS r0p r1p r2p r3p x0p x2p
              have hk9u : New W1 (W1.alloc (blkL y)) := (Kept.refl _ _).alloc _
              obtain ⟨O1u, O2u, p1u, p2u, p3u, p4u⟩ := hS2
              have P2u := Lib.hid ((Sep.ok (LP.ok (.slice ab mb cb) B) (Sep.ok (LP.ok _ F) (Sep.ok (TP.ok bc n F) (Sep.ok (TP.ok b n F) (BQ.ok q (blkL x)))))).kept p2u hk9u (fun _ _ h => h))
              have P1u := Lib.hid ((LP.ok (.slice aa ma ca) A).kept p1u hk9u (fun _ _ h => h))
              have P3u := Lib.hid p3u
              have P4u := Lib.hid p4u
              have Hlitu := Lib.hid (Src.lit W1 #[.int .i64 y.sp, .int .i64 y.pg, .int .i64 y.fr, .int .i64 y.ri] 34 1 4 rfl)
              clear p1u p2u p3u p4u
              go_wp2_with (at_builtin; refine wpList_append_src2 rfl _ _ 27 rfl 0 34 i34 (aggL ⟨0, 0, 0, 0⟩) 4 32 Try.underlying27 hi hz0 hz1 hz2 rfl (by decide) (.slice aa ma ca) ma (A.flatMap encL) rfl (by have := P1u.out.1; rw [← Hma.out] at this; exact this) _ 1 _ rfl Hlitu.out (by simp [Value.oneCell']) (by simp [maxLen]; omega) (by omega) (by simp) ?_; intro vu w5 hownu hgru hidu; obtain ⟨aou, cou, hvu, _⟩ := Src.of_own hownu; rw [hvu])
              rw [hvu] at hownu hidu
              have hmoreu := LP.more (x := y) P1u.out (by rw [← Hma.out, encL_snoc]; exact hownu) hgru hidu
              obtain ⟨hS5, hkstu⟩ := Sep.step (P' := LP (.slice aou (ma + 1) cou) (A ++ [y])) (Sep.ok (LP.ok (.slice ab mb cb) B) (Sep.ok (LP.ok _ F) (Sep.ok (TP.ok bc n F) (Sep.ok (TP.ok b n F) (BQ.ok q (blkL x)))))) P2u.out P3u.out P4u.out hmoreu.1 hmoreu.2 (fun k hk => Nat.le_trans (hkr2.trans hk9u).size hk)
              have hkru : New w w5 := (hkr2.trans hk9u).new hkstu (fun i hi => hi)
              clear P1u P2u P3u P4u Hlitu hownu hgru hidu hvu hmoreu hkstu hk9u
              clear r0t r1t r2t r3t
              obtain ⟨_, hzs⟩ := Sep.any hS5
              obtain ⟨_, hzs⟩ := Sep.any hzs
              obtain ⟨_, hrws⟩ := Sep.one hzs
              obtain ⟨_, hzs⟩ := Sep.any hzs
              obtain ⟨_, hzs⟩ := Sep.any hzs
              obtain ⟨_, hzs⟩ := Sep.any hzs
              have hbxs : w5.heap[q]? = some (blkL x) := hzs.1
              have hrws' := hrws.1
              rw [← HmF.out] at hrws'
              obtain ⟨r0s, r1s, r2s, r3s⟩ := own_line hrws' Hy.out
              have x0s := cell_blk hbxs 0
              have x2s := cell_blk hbxs 2
              clear hzs hrws hbxs hrws'
              by_cases e2 : y.fr = x.fr
              · have e2b : (y.fr != x.fr) = false := by simpa using e2
                have E2 := Lib.hid e2
                clear e2
                go_wp2_with fail
                go_quiet (fail)
                obtain ⟨W3, hW3⟩ : ∃ W3, W3 = w5.drewN nq := ⟨_, rfl⟩
                have hkW3 : New w5 W3 := by rw [hW3]; exact (Kept.refl _ _).drewN _
                rw [← hW3]
                have hS8 := (Sep.ok (LP.ok _ _) (Sep.ok (LP.ok _ B) (Sep.ok (LP.ok _ F) (Sep.ok (TP.ok bc n F) (Sep.ok (TP.ok b n F) (BQ.ok q (blkL x))))))).kept hS5 hkW3 (fun _ _ h => h)
                have hkr8 := hkru.trans hkW3
                clear r0s r1s r2s r3s x0s x2s
                clear hW3
                go_wp2_with fail
                go_roundw
                case rel => exact ⟨j + 1, (ma + 1), mb, (A ++ [y]), B, aou, ab, cou, cb, by omega, by go_num, rfl, rfl, ⟨by rw [HstS.out]; simp [dropS, E1.out], by rw [HstF.out]; simp [dropF, E2.out], by rw [Hma.out]; simp, Hmb.out⟩, hS8, hkr8⟩
                case measure => simp [intOf]; omega
              · have e2b : (y.fr != x.fr) = true := by simpa using e2
                have E2 := Lib.hid e2
                clear e2
                go_wp2_with fail
                go_quiet (fail)
                obtain ⟨W3, hW3⟩ : ∃ W3, W3 = w5.drewN nq := ⟨_, rfl⟩
                have hkW3 : New w5 W3 := by rw [hW3]; exact (Kept.refl _ _).drewN _
                rw [← hW3]
                have hS8 := ((Sep.ok (LP.ok _ _) (Sep.ok (LP.ok _ B) (Sep.ok (LP.ok _ F) (Sep.ok (TP.ok bc n F) (Sep.ok (TP.ok b n F) (BQ.ok q (blkL x))))))).kept hS5 hkW3 (fun _ _ h => h)).turn
                have hkr8 := hkru.trans hkW3
                have r0t := cell_kept hkW3 r0s (fun h => h)
                have r1t := cell_kept hkW3 r1s (fun h => h)
                have r2t := cell_kept hkW3 r2s (fun h => h)
                have r3t := cell_kept hkW3 r3s (fun h => h)
                clear r0s r1s r2s r3s x0s x2s
                clear hW3
                have hk9v : New W3 (W3.alloc (blkL y)) := (Kept.refl _ _).alloc _
                obtain ⟨O1v, O2v, p1v, p2v, p3v, p4v⟩ := hS8
                have P2v := Lib.hid ((Sep.ok (LP.ok (.slice aou (ma + 1) cou) (A ++ [y])) (Sep.ok (LP.ok _ F) (Sep.ok (TP.ok bc n F) (Sep.ok (TP.ok b n F) (BQ.ok q (blkL x)))))).kept p2v hk9v (fun _ _ h => h))
                have P1v := Lib.hid ((LP.ok (.slice ab mb cb) B).kept p1v hk9v (fun _ _ h => h))
                have P3v := Lib.hid p3v
                have P4v := Lib.hid p4v
                have Hlitv := Lib.hid (Src.lit W3 #[.int .i64 y.sp, .int .i64 y.pg, .int .i64 y.fr, .int .i64 y.ri] 34 1 4 rfl)
                clear p1v p2v p3v p4v
                go_wp2_with (at_builtin; refine wpList_append_src2 rfl _ _ 27 rfl 0 34 i34 (aggL ⟨0, 0, 0, 0⟩) 4 32 Try.underlying27 hi hz0 hz1 hz2 rfl (by decide) (.slice ab mb cb) mb (B.flatMap encL) rfl (by have := P1v.out.1; rw [← Hmb.out] at this; exact this) _ 1 _ rfl Hlitv.out (by simp [Value.oneCell']) (by simp [maxLen]; omega) (by omega) (by simp) ?_; intro vv w9 hownv hgrv hidv; obtain ⟨aov, cov, hvv, _⟩ := Src.of_own hownv; rw [hvv])
                rw [hvv] at hownv hidv
                have hmorev := LP.more (x := y) P1v.out (by rw [← Hmb.out, encL_snoc]; exact hownv) hgrv hidv
                obtain ⟨hS9, hkstv⟩ := Sep.step (P' := LP (.slice aov (mb + 1) cov) (B ++ [y])) (Sep.ok (LP.ok (.slice aou (ma + 1) cou) (A ++ [y])) (Sep.ok (LP.ok _ F) (Sep.ok (TP.ok bc n F) (Sep.ok (TP.ok b n F) (BQ.ok q (blkL x)))))) P2v.out P3v.out P4v.out hmorev.1 hmorev.2 (fun k hk => Nat.le_trans (hkr8.trans hk9v).size hk)
                have hkrv : New w w9 := (hkr8.trans hk9v).new hkstv (fun i hi => hi)
                clear P1v P2v P3v P4v Hlitv hownv hgrv hidv hvv hmorev hkstv hk9v
                clear r0t r1t r2t r3t
                go_roundw
                case rel => exact ⟨j + 1, (ma + 1), mb + 1, (A ++ [y]), B ++ [y], aou, aov, cou, cov, by omega, by go_num, rfl, rfl, ⟨by rw [HstS.out]; simp [dropS, E1.out], by rw [HstF.out]; simp [dropF, E2.out], by rw [Hma.out]; simp, by rw [Hmb.out]; simp⟩, hS9.turn, hkrv⟩
                case measure => simp [intOf]; omega
          · obtain rfl : j = mF := by omega
            obtain ⟨eA, eB, eMa, eMb⟩ := HAB.out
            rw [HmF.out, List.take_length] at eA eB
            have HA := Lib.hid eA
            have HB := Lib.hid eB
            have hlA : A.length ≤ F.length := by rw [eA]; exact List.length_filter_le _ _
            have hlB : B.length ≤ F.length := by rw [eB]; exact List.length_filter_le _ _
            obtain ⟨dA, hdA⟩ : ∃ d, A.length + d = F.length := ⟨F.length - A.length, by omega⟩
            obtain ⟨dB, hdB⟩ : ∃ d, B.length + d = F.length := ⟨F.length - B.length, by omega⟩
            have HdA := Lib.hid hdA
            have HdB := Lib.hid hdB
            have HMa := Lib.hid eMa
            have HMb := Lib.hid eMb
            have w1' : IntKind.i64.wrap ((j : Int) - ma) = (dA : Int) := by rw [IntKind.wrap_i64]; have := HmF.out; omega
            have w2' : IntKind.i64.wrap ((j : Int) - mb) = (dB : Int) := by rw [IntKind.wrap_i64]; have := HmF.out; omega
            have hA8 : A.length ≤ 1000 := by omega
            have hB8 : B.length ≤ 1000 := by omega
            have hma8 : ma ≤ 1000 := by omega
            have hmb8 : mb ≤ 1000 := by omega
            have hdr : New wr wr.drew := (Kept.refl _ _).drew
            have hSt : Sep (TP b n F) (Sep (LP (.slice aa ma ca) A) (Sep (LP (.slice ab mb cb) B) (Sep (LP (.slice a3 j c3) F) (Sep (TP bc n F) (BQ q (blkL x)))))) (fun k => w.heap.size ≤ k) wr :=
              (hS.inr (fun _ h => (h.inr (fun _ h => (h.inr (fun _ h => h.turn)).turn)).turn)).turn
            have hSd := (Sep.ok (TP.ok b n F) (Sep.ok (LP.ok _ A) (Sep.ok (LP.ok _ B) (Sep.ok (LP.ok _ F) (Sep.ok (TP.ok bc n F) (BQ.ok q (blkL x))))))).kept hSt hdr (fun _ _ h => h)
            have hkrd := hkr.trans hdr
            have hbxd : wr.heap[q]? = some (blkL x) := by
              obtain ⟨_, hz⟩ := Sep.any hSt
              obtain ⟨_, hz⟩ := Sep.any hz
              obtain ⟨_, hz⟩ := Sep.any hz
              obtain ⟨_, hz⟩ := Sep.any hz
              obtain ⟨_, hz⟩ := Sep.any hz
              exact hz.1
            have y0 := seven hdr hbxd
            obtain ⟨O1, O2, g1, g2, g3, g4⟩ := hSd
            have G3 := Lib.hid g3
            have G4 := Lib.hid g4
            have z0 := cell_blk hbxd 0
            have z2 := cell_blk hbxd 2
            clear eA eB eMa eMb hlA hlB hdA hdB hS hSt g3 g4 hkr
            go_wp2_with fail
            go_region_held3 (fun W => W.cell? ⟨q, 0, none⟩ = some (.int .i64 x.sp) ∧ W.cell? ⟨q, 2, none⟩ = some (.int .i64 x.fr))
              (first | exact y0 | exact y1 | exact y2)
              (first
              | (go_at_call 19; refine (space_any b n F A x.sp dA _ g1 hF8 HA.out.symm HdA.out).mono ?_; rintro e w3 ⟨rfl, hA3, hk3⟩; obtain ⟨hS3, hk3'⟩ := Sep.step (P' := TP b n A) (Sep.ok (LP.ok _ A) (Sep.ok (LP.ok _ B) (Sep.ok (LP.ok _ F) (Sep.ok (TP.ok bc n F) (BQ.ok q (blkL x)))))) g2 G3.out G4.out (Tb.mono hA3 (fun _ h => .inl h)) hk3 (fun k hk => Nat.le_trans hkrd.size hk); have hkr3 := hkrd.new hk3' (fun i hi => hi); have hS3' := (hS3.inr (fun _ h => (h.inr (fun _ h => (h.inr (fun _ h => h.turn)).turn)).turn)).turn; obtain ⟨_, hz⟩ := Sep.any hS3'; obtain ⟨_, hz⟩ := Sep.any hz; obtain ⟨_, hz⟩ := Sep.any hz; obtain ⟨_, hz⟩ := Sep.any hz; obtain ⟨_, hz⟩ := Sep.any hz; have y1 := seven (Kept.refl _ _) hz.1; obtain ⟨Q1, Q2, q1, q2, q3, q4⟩ := hS3')
              | (go_at_call 21; refine (frame_any bc n F B x.fr dB _ q1 hF8 HB.out.symm HdB.out).mono ?_; rintro e w4 ⟨rfl, hA4, hk4⟩; obtain ⟨hS4, hk4'⟩ := Sep.step (P' := TP bc n B) (Sep.ok (TP.ok b n A) (Sep.ok (LP.ok _ A) (Sep.ok (LP.ok _ B) (Sep.ok (LP.ok _ F) (BQ.ok q (blkL x)))))) q2 q3 q4 (Tb.mono hA4 (fun _ h => .inl h)) hk4 (fun k hk => Nat.le_trans hkr3.size hk); have hkr4 := hkr3.new hk4' (fun i hi => hi); obtain ⟨_, hz4⟩ := Sep.any hS4; obtain ⟨_, hz4⟩ := Sep.any hz4; obtain ⟨_, hz4⟩ := Sep.any hz4; obtain ⟨_, hz4⟩ := Sep.any hz4; obtain ⟨_, hz4⟩ := Sep.any hz4; have y2 := seven (Kept.refl _ _) hz4.1))
            obtain ⟨_, gc⟩ := Sep.one hS4
            obtain ⟨_, hz⟩ := Sep.any hS4
            obtain ⟨_, gt⟩ := Sep.one hz
            obtain ⟨_, hz⟩ := Sep.any hz
            obtain ⟨_, gA⟩ := Sep.one hz
            obtain ⟨_, hz⟩ := Sep.any hz
            obtain ⟨_, gB⟩ := Sep.one hz
            have gA' := gA.1
            have gB' := gB.1
            rw [← HMa.out] at gA'
            rw [← HMb.out] at gB'
            have GA := Lib.hid gA'
            have GB := Lib.hid gB'
            clear hS3 hS4 hz y0 y1 y2 g1 g2 G3 G4 hA3 hk3 hk3' hkr3 hA4 hk4 hk4' q1 q2 q3 q4 gA gB gA' gB' z0 z2 hbxd hz4 hkrd
            go_wp2_with fail
            refine (lines_any b n A _ gt hA8).mono ?_
            rintro e w5 ⟨v5, rfl, hown, hkx⟩
            obtain ⟨ao5, c5, hv5, -⟩ := Src.of_own hown
            rw [← HMa.out] at hv5 hown
            subst hv5
            have hsame := same_any _ _ ma A w5 (Src.of_own hown) (Src.of_own (own_same GA.out hkx)) (by omega)
            have Hsame := Lib.hid hsame
            replace gc := Tb.same gc hkx
            have GB5 := Lib.hid (own_same GB.out hkx)
            have hkr5 := hkr4.trans hkx
            clear hown hsame hkx gt hkr4 GA GB
            go_wp2_with fail
            refine Hsame.out.mono ?_
            rintro e w6 ⟨rfl, qd, rfl⟩
            have hdq : New w5 (w5.drewN qd) := (Kept.refl _ _).drewN _
            replace gc := Tb.same gc hdq
            have GB6 := Lib.hid (own_same GB5.out hdq)
            have hkr6 := hkr5.trans hdq
            clear hkr5 GB5 Hsame
            go_wp2_with fail
            refine (lines_any bc n B _ gc hB8).mono ?_
            rintro e w7 ⟨v7, rfl, hown, hkx⟩
            obtain ⟨ao7, c7, hv7, -⟩ := Src.of_own hown
            rw [← HMb.out] at hv7 hown
            subst hv7
            have hsame := same_any _ _ mb B w7 (Src.of_own hown) (Src.of_own (own_same GB6.out hkx)) (by omega)
            have Hsame := Lib.hid hsame
            have hkr7 := hkr6.trans hkx
            clear hown hsame hkx gc hkr6 GB6
            go_wp2_with fail
            refine Hsame.out.mono ?_
            rintro e w8 ⟨rfl, qd2, rfl⟩
            have hkr8 := hkr7.drewN qd2
            go_wp2_with fail
            refine (fixed_any _).mono ?_
            rintro e w9 ⟨rfl, hk9⟩
            go_wp2_with fail
            go_ret
            exact ⟨rfl, none_below (hkr8.trans hk9)⟩
      · have h3' : ¬ ((k : Int) < len) := by omega
        obtain ⟨_, ht⟩ := Sep.one hS
        go_wp2_with fail
        refine (lines_any b n F wr ht hF8).mono ?_
        rintro e w3 ⟨v3, rfl, hown3, hk3⟩
        have hS3 := Sep.fresh (N := LP v3 F) (Sep.ok (TP.ok b n F) (BQ.ok q (blkL x))) hS (LP.fresh hown3) hk3 (fun k hk => Nat.le_trans hkr.size hk)
        have hkw := hkr.trans hk3
        obtain ⟨a3, c3, hv3, -⟩ := Src.of_own hown3
        rw [← HmF.out] at hv3
        subst hv3
        clear hown3 hk3 ht hS hkr
        obtain ⟨_, ht⟩ := Sep.any hS3
        obtain ⟨_, ht⟩ := Sep.one ht
        go_wp2_with fail
        refine (copy_any b n F w3 ht hF8).mono ?_
        rintro e w4 ⟨bc, rfl, hN4, hk4⟩
        have hS4 := Sep.fresh (N := TP bc n F) (Sep.ok (LP.ok _ F) (Sep.ok (TP.ok b n F) (BQ.ok q (blkL x)))) hS3 hN4 hk4 (fun k hk => Nat.le_trans hkw.size hk)
        replace hkw := hkw.trans hk4
        clear hN4 hk4 ht hS3
        have hS4' := hS4.turn
        go_wp2_with fail
        have hS5 := Sep.fresh (N := LP (.slice (some ⟨w4.heap.size, 0, none⟩) 0 0) []) (Sep.ok (LP.ok _ F) (Sep.ok (TP.ok bc n F) (Sep.ok (TP.ok b n F) (BQ.ok q (blkL x))))) hS4' (LP.empty w4) ((Kept.refl (fun _ => False) w4).alloc _) (fun k hk => Nat.le_trans hkw.size hk)
        replace hkw := hkw.alloc (.cells #[] 34)
        obtain ⟨w5, hw5⟩ : ∃ w5, w5 = w4.alloc (.cells #[] 34) := ⟨_, rfl⟩
        have Hw5 := Lib.hid hw5
        rw [← hw5] at hS5 hkw
        have hsz5 : w5.heap.size = w4.heap.size + 1 := by rw [hw5]; simp
        have hS6 := Sep.fresh (N := LP (.slice (some ⟨w5.heap.size, 0, none⟩) 0 0) []) (Sep.ok (LP.ok _ []) (Sep.ok (LP.ok _ F) (Sep.ok (TP.ok bc n F) (Sep.ok (TP.ok b n F) (BQ.ok q (blkL x)))))) hS5 (LP.empty w5) ((Kept.refl (fun _ => False) w5).alloc _) (fun k hk => Nat.le_trans hkw.size hk)
        have hS7 := hS6.turn
        replace hkw := hkw.alloc (.cells #[] 34)
        rw [hsz5, hw5] at hS7
        rw [hw5] at hkw
        clear hS4 hS4' hS5 hS6 hw5 Hw5 hsz5
        go_loopw [12, 13, 14] (fun va vb i wi => ∃ (j ma mb : Nat) (A B : List Ln) (aa ab : Option Addr) (ca cb : Nat), j ≤ mF ∧ i = .int .i64 j ∧ va = .slice aa ma ca ∧ vb = .slice ab mb cb ∧ Hid (A = dropS x.sp (F.take j) ∧ B = dropF x.fr (F.take j) ∧ ma = A.length ∧ mb = B.length) ∧
          Sep (LP (.slice aa ma ca) A) (Sep (LP (.slice ab mb cb) B) (Sep (LP (.slice a3 mF c3) F) (Sep (TP bc n F) (Sep (TP b n F) (BQ q (blkL x)))))) (fun k => w.heap.size ≤ k) wi ∧ New w wi) (fun _ _ i _ => mF - (intOf i).toNat)
        case atStart => exact ⟨0, 0, 0, [], [], _, _, 0, 0, by omega, rfl, rfl, rfl, ⟨rfl, rfl, rfl, rfl⟩, hS7, hkw⟩
        case round =>
          clear hS7 hkw
          obtain ⟨j, ma, mb, A, B, aa, ab, ca, cb, hj, rfl, rfl, rfl, HAB, hS, hkr⟩ := hrel
          by_cases hjm : j < mF
          · obtain ⟨y, hy⟩ : ∃ y, F[j]? = some y := ⟨_, List.getElem?_eq_getElem (by rw [← HmF.out]; exact hjm)⟩
            have Hy := Lib.hid hy
            have hmab : ma ≤ 1000 ∧ mb ≤ 1000 := by
              obtain ⟨e1, e2, e3, e4⟩ := HAB.out
              have h1 : (dropS x.sp (F.take j)).length ≤ (F.take j).length := List.length_filter_le _ _
              have h2 : (dropF x.fr (F.take j)).length ≤ (F.take j).length := List.length_filter_le _ _
              rw [List.length_take] at h1 h2
              rw [e3, e4, e1, e2]
              omega
            obtain ⟨hma8, hmb8⟩ := hmab
            have hstS : dropS x.sp (F.take (j + 1)) = A ++ dropS x.sp [y] := by
              rw [List.take_add_one, Hy.out, HAB.out.1]; simp [dropS]
            have hstF : dropF x.fr (F.take (j + 1)) = B ++ dropF x.fr [y] := by
              rw [List.take_add_one, Hy.out, HAB.out.2.1]; simp [dropF]
            have HstS := Lib.hid hstS
            have HstF := Lib.hid hstF
            have Hma := Lib.hid HAB.out.2.2.1
            have Hmb := Lib.hid HAB.out.2.2.2
            have j0 : (0 : Int) ≤ j := by omega
            have j1 : (j : Int) < mF := by omega
            clear hstS hstF hy
            obtain ⟨_, hzz⟩ := Sep.any hS
            obtain ⟨_, hzz⟩ := Sep.any hzz
            obtain ⟨_, hzz⟩ := Sep.one hzz
            obtain ⟨gp, cap, hvp, -, -, -⟩ := Row.of_ownS hzz.1 (by rw [← HmF.out]; omega)
            simp only [Value.slice.injEq] at hvp
            obtain ⟨rfl, -, rfl⟩ := hvp
            clear hzz
            obtain ⟨_, hzp⟩ := Sep.any hS
            obtain ⟨_, hzp⟩ := Sep.any hzp
            obtain ⟨_, hrwp⟩ := Sep.one hzp
            obtain ⟨_, hzp⟩ := Sep.any hzp
            obtain ⟨_, hzp⟩ := Sep.any hzp
            obtain ⟨_, hzp⟩ := Sep.any hzp
            have hbxp : wr.heap[q]? = some (blkL x) := hzp.1
            have hrwp' := hrwp.1
            rw [← HmF.out] at hrwp'
            obtain ⟨r0p, r1p, r2p, r3p⟩ := own_line hrwp' Hy.out
            have x0p := cell_blk hbxp 0
            have x2p := cell_blk hbxp 2
            clear hzp hrwp hbxp hrwp'
            obtain ⟨i34, hi, hz0, hz1, hz2⟩ := info_parts info34
            by_cases e1 : y.sp = x.sp
            · have e1b : (y.sp != x.sp) = false := by simpa using e1
              have E1 := Lib.hid e1
              clear e1
              go_wp2_with fail
              go_quiet (fail)
              obtain ⟨W1, hW1⟩ : ∃ W1, W1 = wr.drewN nq := ⟨_, rfl⟩
              have hkW1 : New wr W1 := by rw [hW1]; exact (Kept.refl _ _).drewN _
              rw [← hW1]
              have hS2 := (Sep.ok (LP.ok _ A) (Sep.ok (LP.ok _ B) (Sep.ok (LP.ok _ F) (Sep.ok (TP.ok bc n F) (Sep.ok (TP.ok b n F) (BQ.ok q (blkL x))))))).kept hS hkW1 (fun _ _ h => h)
              have hkr2 := hkr.trans hkW1
              clear hW1 hS r0p r1p r2p r3p x0p x2p
              obtain ⟨_, hzs⟩ := Sep.any hS2
              obtain ⟨_, hzs⟩ := Sep.any hzs
              obtain ⟨_, hrws⟩ := Sep.one hzs
              obtain ⟨_, hzs⟩ := Sep.any hzs
              obtain ⟨_, hzs⟩ := Sep.any hzs
              obtain ⟨_, hzs⟩ := Sep.any hzs
              have hbxs : W1.heap[q]? = some (blkL x) := hzs.1
              have hrws' := hrws.1
              rw [← HmF.out] at hrws'
              obtain ⟨r0s, r1s, r2s, r3s⟩ := own_line hrws' Hy.out
              have x0s := cell_blk hbxs 0
              have x2s := cell_blk hbxs 2
              clear hzs hrws hbxs hrws'
              by_cases e2 : y.fr = x.fr
              · have e2b : (y.fr != x.fr) = false := by simpa using e2
                have E2 := Lib.hid e2
                clear e2
                go_wp2_with fail
                go_quiet (fail)
                obtain ⟨W3, hW3⟩ : ∃ W3, W3 = W1.drewN nq := ⟨_, rfl⟩
                have hkW3 : New W1 W3 := by rw [hW3]; exact (Kept.refl _ _).drewN _
                rw [← hW3]
                have hS8 := (Sep.ok (LP.ok _ _) (Sep.ok (LP.ok _ B) (Sep.ok (LP.ok _ F) (Sep.ok (TP.ok bc n F) (Sep.ok (TP.ok b n F) (BQ.ok q (blkL x))))))).kept hS2 hkW3 (fun _ _ h => h)
                have hkr8 := hkr2.trans hkW3
                clear r0s r1s r2s r3s x0s x2s
                clear hW3
                go_wp2_with fail
                go_roundw
                case rel => exact ⟨j + 1, ma, mb, A, B, aa, ab, ca, cb, by omega, by go_num, rfl, rfl, ⟨by rw [HstS.out]; simp [dropS, E1.out], by rw [HstF.out]; simp [dropF, E2.out], Hma.out, Hmb.out⟩, hS8, hkr8⟩
                case measure => simp [intOf]; omega
              · have e2b : (y.fr != x.fr) = true := by simpa using e2
                have E2 := Lib.hid e2
                clear e2
                go_wp2_with fail
                go_quiet (fail)
                obtain ⟨W3, hW3⟩ : ∃ W3, W3 = W1.drewN nq := ⟨_, rfl⟩
                have hkW3 : New W1 W3 := by rw [hW3]; exact (Kept.refl _ _).drewN _
                rw [← hW3]
                have hS8 := ((Sep.ok (LP.ok _ _) (Sep.ok (LP.ok _ B) (Sep.ok (LP.ok _ F) (Sep.ok (TP.ok bc n F) (Sep.ok (TP.ok b n F) (BQ.ok q (blkL x))))))).kept hS2 hkW3 (fun _ _ h => h)).turn
                have hkr8 := hkr2.trans hkW3
                have r0t := cell_kept hkW3 r0s (fun h => h)
                have r1t := cell_kept hkW3 r1s (fun h => h)
                have r2t := cell_kept hkW3 r2s (fun h => h)
                have r3t := cell_kept hkW3 r3s (fun h => h)
                clear r0s r1s r2s r3s x0s x2s
                clear hW3
                have hk9v : New W3 (W3.alloc (blkL y)) := (Kept.refl _ _).alloc _
                obtain ⟨O1v, O2v, p1v, p2v, p3v, p4v⟩ := hS8
                have P2v := Lib.hid ((Sep.ok (LP.ok (.slice aa ma ca) A) (Sep.ok (LP.ok _ F) (Sep.ok (TP.ok bc n F) (Sep.ok (TP.ok b n F) (BQ.ok q (blkL x)))))).kept p2v hk9v (fun _ _ h => h))
                have P1v := Lib.hid ((LP.ok (.slice ab mb cb) B).kept p1v hk9v (fun _ _ h => h))
                have P3v := Lib.hid p3v
                have P4v := Lib.hid p4v
                have Hlitv := Lib.hid (Src.lit W3 #[.int .i64 y.sp, .int .i64 y.pg, .int .i64 y.fr, .int .i64 y.ri] 34 1 4 rfl)
                clear p1v p2v p3v p4v
                go_wp2_with (at_builtin; refine wpList_append_src2 rfl _ _ 27 rfl 0 34 i34 (aggL ⟨0, 0, 0, 0⟩) 4 32 Try.underlying27 hi hz0 hz1 hz2 rfl (by decide) (.slice ab mb cb) mb (B.flatMap encL) rfl (by have := P1v.out.1; rw [← Hmb.out] at this; exact this) _ 1 _ rfl Hlitv.out (by simp [Value.oneCell']) (by simp [maxLen]; omega) (by omega) (by simp) ?_; intro vv w9 hownv hgrv hidv; obtain ⟨aov, cov, hvv, _⟩ := Src.of_own hownv; rw [hvv])
                rw [hvv] at hownv hidv
                have hmorev := LP.more (x := y) P1v.out (by rw [← Hmb.out, encL_snoc]; exact hownv) hgrv hidv
                obtain ⟨hS9, hkstv⟩ := Sep.step (P' := LP (.slice aov (mb + 1) cov) (B ++ [y])) (Sep.ok (LP.ok (.slice aa ma ca) A) (Sep.ok (LP.ok _ F) (Sep.ok (TP.ok bc n F) (Sep.ok (TP.ok b n F) (BQ.ok q (blkL x)))))) P2v.out P3v.out P4v.out hmorev.1 hmorev.2 (fun k hk => Nat.le_trans (hkr8.trans hk9v).size hk)
                have hkrv : New w w9 := (hkr8.trans hk9v).new hkstv (fun i hi => hi)
                clear P1v P2v P3v P4v Hlitv hownv hgrv hidv hvv hmorev hkstv hk9v
                clear r0t r1t r2t r3t
                go_roundw
                case rel => exact ⟨j + 1, ma, mb + 1, A, B ++ [y], aa, aov, ca, cov, by omega, by go_num, rfl, rfl, ⟨by rw [HstS.out]; simp [dropS, E1.out], by rw [HstF.out]; simp [dropF, E2.out], Hma.out, by rw [Hmb.out]; simp⟩, hS9.turn, hkrv⟩
                case measure => simp [intOf]; omega
            · have e1b : (y.sp != x.sp) = true := by simpa using e1
              have E1 := Lib.hid e1
              clear e1
              go_wp2_with fail
              go_quiet (fail)
              obtain ⟨W1, hW1⟩ : ∃ W1, W1 = wr.drewN nq := ⟨_, rfl⟩
              have hkW1 : New wr W1 := by rw [hW1]; exact (Kept.refl _ _).drewN _
              rw [← hW1]
              have hS2 := (Sep.ok (LP.ok _ A) (Sep.ok (LP.ok _ B) (Sep.ok (LP.ok _ F) (Sep.ok (TP.ok bc n F) (Sep.ok (TP.ok b n F) (BQ.ok q (blkL x))))))).kept hS hkW1 (fun _ _ h => h)
              have hkr2 := hkr.trans hkW1
              have r0t := cell_kept hkW1 r0p (fun h => h)
              have r1t := cell_kept hkW1 r1p (fun h => h)
              have r2t := cell_kept hkW1 r2p (fun h => h)
              have r3t := cell_kept hkW1 r3p (fun h => h)
              clear hW1 hS r0p r1p r2p r3p x0p x2p
              have hk9u : New W1 (W1.alloc (blkL y)) := (Kept.refl _ _).alloc _
              obtain ⟨O1u, O2u, p1u, p2u, p3u, p4u⟩ := hS2
              have P2u := Lib.hid ((Sep.ok (LP.ok (.slice ab mb cb) B) (Sep.ok (LP.ok _ F) (Sep.ok (TP.ok bc n F) (Sep.ok (TP.ok b n F) (BQ.ok q (blkL x)))))).kept p2u hk9u (fun _ _ h => h))
              have P1u := Lib.hid ((LP.ok (.slice aa ma ca) A).kept p1u hk9u (fun _ _ h => h))
              have P3u := Lib.hid p3u
              have P4u := Lib.hid p4u
              have Hlitu := Lib.hid (Src.lit W1 #[.int .i64 y.sp, .int .i64 y.pg, .int .i64 y.fr, .int .i64 y.ri] 34 1 4 rfl)
              clear p1u p2u p3u p4u
              go_wp2_with (at_builtin; refine wpList_append_src2 rfl _ _ 27 rfl 0 34 i34 (aggL ⟨0, 0, 0, 0⟩) 4 32 Try.underlying27 hi hz0 hz1 hz2 rfl (by decide) (.slice aa ma ca) ma (A.flatMap encL) rfl (by have := P1u.out.1; rw [← Hma.out] at this; exact this) _ 1 _ rfl Hlitu.out (by simp [Value.oneCell']) (by simp [maxLen]; omega) (by omega) (by simp) ?_; intro vu w5 hownu hgru hidu; obtain ⟨aou, cou, hvu, _⟩ := Src.of_own hownu; rw [hvu])
              rw [hvu] at hownu hidu
              have hmoreu := LP.more (x := y) P1u.out (by rw [← Hma.out, encL_snoc]; exact hownu) hgru hidu
              obtain ⟨hS5, hkstu⟩ := Sep.step (P' := LP (.slice aou (ma + 1) cou) (A ++ [y])) (Sep.ok (LP.ok (.slice ab mb cb) B) (Sep.ok (LP.ok _ F) (Sep.ok (TP.ok bc n F) (Sep.ok (TP.ok b n F) (BQ.ok q (blkL x)))))) P2u.out P3u.out P4u.out hmoreu.1 hmoreu.2 (fun k hk => Nat.le_trans (hkr2.trans hk9u).size hk)
              have hkru : New w w5 := (hkr2.trans hk9u).new hkstu (fun i hi => hi)
              clear P1u P2u P3u P4u Hlitu hownu hgru hidu hvu hmoreu hkstu hk9u
              clear r0t r1t r2t r3t
              obtain ⟨_, hzs⟩ := Sep.any hS5
              obtain ⟨_, hzs⟩ := Sep.any hzs
              obtain ⟨_, hrws⟩ := Sep.one hzs
              obtain ⟨_, hzs⟩ := Sep.any hzs
              obtain ⟨_, hzs⟩ := Sep.any hzs
              obtain ⟨_, hzs⟩ := Sep.any hzs
              have hbxs : w5.heap[q]? = some (blkL x) := hzs.1
              have hrws' := hrws.1
              rw [← HmF.out] at hrws'
              obtain ⟨r0s, r1s, r2s, r3s⟩ := own_line hrws' Hy.out
              have x0s := cell_blk hbxs 0
              have x2s := cell_blk hbxs 2
              clear hzs hrws hbxs hrws'
              by_cases e2 : y.fr = x.fr
              · have e2b : (y.fr != x.fr) = false := by simpa using e2
                have E2 := Lib.hid e2
                clear e2
                go_wp2_with fail
                go_quiet (fail)
                obtain ⟨W3, hW3⟩ : ∃ W3, W3 = w5.drewN nq := ⟨_, rfl⟩
                have hkW3 : New w5 W3 := by rw [hW3]; exact (Kept.refl _ _).drewN _
                rw [← hW3]
                have hS8 := (Sep.ok (LP.ok _ _) (Sep.ok (LP.ok _ B) (Sep.ok (LP.ok _ F) (Sep.ok (TP.ok bc n F) (Sep.ok (TP.ok b n F) (BQ.ok q (blkL x))))))).kept hS5 hkW3 (fun _ _ h => h)
                have hkr8 := hkru.trans hkW3
                clear r0s r1s r2s r3s x0s x2s
                clear hW3
                go_wp2_with fail
                go_roundw
                case rel => exact ⟨j + 1, (ma + 1), mb, (A ++ [y]), B, aou, ab, cou, cb, by omega, by go_num, rfl, rfl, ⟨by rw [HstS.out]; simp [dropS, E1.out], by rw [HstF.out]; simp [dropF, E2.out], by rw [Hma.out]; simp, Hmb.out⟩, hS8, hkr8⟩
                case measure => simp [intOf]; omega
              · have e2b : (y.fr != x.fr) = true := by simpa using e2
                have E2 := Lib.hid e2
                clear e2
                go_wp2_with fail
                go_quiet (fail)
                obtain ⟨W3, hW3⟩ : ∃ W3, W3 = w5.drewN nq := ⟨_, rfl⟩
                have hkW3 : New w5 W3 := by rw [hW3]; exact (Kept.refl _ _).drewN _
                rw [← hW3]
                have hS8 := ((Sep.ok (LP.ok _ _) (Sep.ok (LP.ok _ B) (Sep.ok (LP.ok _ F) (Sep.ok (TP.ok bc n F) (Sep.ok (TP.ok b n F) (BQ.ok q (blkL x))))))).kept hS5 hkW3 (fun _ _ h => h)).turn
                have hkr8 := hkru.trans hkW3
                have r0t := cell_kept hkW3 r0s (fun h => h)
                have r1t := cell_kept hkW3 r1s (fun h => h)
                have r2t := cell_kept hkW3 r2s (fun h => h)
                have r3t := cell_kept hkW3 r3s (fun h => h)
                clear r0s r1s r2s r3s x0s x2s
                clear hW3
                have hk9v : New W3 (W3.alloc (blkL y)) := (Kept.refl _ _).alloc _
                obtain ⟨O1v, O2v, p1v, p2v, p3v, p4v⟩ := hS8
                have P2v := Lib.hid ((Sep.ok (LP.ok (.slice aou (ma + 1) cou) (A ++ [y])) (Sep.ok (LP.ok _ F) (Sep.ok (TP.ok bc n F) (Sep.ok (TP.ok b n F) (BQ.ok q (blkL x)))))).kept p2v hk9v (fun _ _ h => h))
                have P1v := Lib.hid ((LP.ok (.slice ab mb cb) B).kept p1v hk9v (fun _ _ h => h))
                have P3v := Lib.hid p3v
                have P4v := Lib.hid p4v
                have Hlitv := Lib.hid (Src.lit W3 #[.int .i64 y.sp, .int .i64 y.pg, .int .i64 y.fr, .int .i64 y.ri] 34 1 4 rfl)
                clear p1v p2v p3v p4v
                go_wp2_with (at_builtin; refine wpList_append_src2 rfl _ _ 27 rfl 0 34 i34 (aggL ⟨0, 0, 0, 0⟩) 4 32 Try.underlying27 hi hz0 hz1 hz2 rfl (by decide) (.slice ab mb cb) mb (B.flatMap encL) rfl (by have := P1v.out.1; rw [← Hmb.out] at this; exact this) _ 1 _ rfl Hlitv.out (by simp [Value.oneCell']) (by simp [maxLen]; omega) (by omega) (by simp) ?_; intro vv w9 hownv hgrv hidv; obtain ⟨aov, cov, hvv, _⟩ := Src.of_own hownv; rw [hvv])
                rw [hvv] at hownv hidv
                have hmorev := LP.more (x := y) P1v.out (by rw [← Hmb.out, encL_snoc]; exact hownv) hgrv hidv
                obtain ⟨hS9, hkstv⟩ := Sep.step (P' := LP (.slice aov (mb + 1) cov) (B ++ [y])) (Sep.ok (LP.ok (.slice aou (ma + 1) cou) (A ++ [y])) (Sep.ok (LP.ok _ F) (Sep.ok (TP.ok bc n F) (Sep.ok (TP.ok b n F) (BQ.ok q (blkL x)))))) P2v.out P3v.out P4v.out hmorev.1 hmorev.2 (fun k hk => Nat.le_trans (hkr8.trans hk9v).size hk)
                have hkrv : New w w9 := (hkr8.trans hk9v).new hkstv (fun i hi => hi)
                clear P1v P2v P3v P4v Hlitv hownv hgrv hidv hvv hmorev hkstv hk9v
                clear r0t r1t r2t r3t
                go_roundw
                case rel => exact ⟨j + 1, (ma + 1), mb + 1, (A ++ [y]), B ++ [y], aou, aov, cou, cov, by omega, by go_num, rfl, rfl, ⟨by rw [HstS.out]; simp [dropS, E1.out], by rw [HstF.out]; simp [dropF, E2.out], by rw [Hma.out]; simp, by rw [Hmb.out]; simp⟩, hS9.turn, hkrv⟩
                case measure => simp [intOf]; omega
          · obtain rfl : j = mF := by omega
            obtain ⟨eA, eB, eMa, eMb⟩ := HAB.out
            rw [HmF.out, List.take_length] at eA eB
            have HA := Lib.hid eA
            have HB := Lib.hid eB
            have hlA : A.length ≤ F.length := by rw [eA]; exact List.length_filter_le _ _
            have hlB : B.length ≤ F.length := by rw [eB]; exact List.length_filter_le _ _
            obtain ⟨dA, hdA⟩ : ∃ d, A.length + d = F.length := ⟨F.length - A.length, by omega⟩
            obtain ⟨dB, hdB⟩ : ∃ d, B.length + d = F.length := ⟨F.length - B.length, by omega⟩
            have HdA := Lib.hid hdA
            have HdB := Lib.hid hdB
            have HMa := Lib.hid eMa
            have HMb := Lib.hid eMb
            have w1' : IntKind.i64.wrap ((j : Int) - ma) = (dA : Int) := by rw [IntKind.wrap_i64]; have := HmF.out; omega
            have w2' : IntKind.i64.wrap ((j : Int) - mb) = (dB : Int) := by rw [IntKind.wrap_i64]; have := HmF.out; omega
            have hA8 : A.length ≤ 1000 := by omega
            have hB8 : B.length ≤ 1000 := by omega
            have hma8 : ma ≤ 1000 := by omega
            have hmb8 : mb ≤ 1000 := by omega
            have hdr : New wr wr.drew := (Kept.refl _ _).drew
            have hSt : Sep (TP b n F) (Sep (LP (.slice aa ma ca) A) (Sep (LP (.slice ab mb cb) B) (Sep (LP (.slice a3 j c3) F) (Sep (TP bc n F) (BQ q (blkL x)))))) (fun k => w.heap.size ≤ k) wr :=
              (hS.inr (fun _ h => (h.inr (fun _ h => (h.inr (fun _ h => h.turn)).turn)).turn)).turn
            have hSd := (Sep.ok (TP.ok b n F) (Sep.ok (LP.ok _ A) (Sep.ok (LP.ok _ B) (Sep.ok (LP.ok _ F) (Sep.ok (TP.ok bc n F) (BQ.ok q (blkL x))))))).kept hSt hdr (fun _ _ h => h)
            have hkrd := hkr.trans hdr
            have hbxd : wr.heap[q]? = some (blkL x) := by
              obtain ⟨_, hz⟩ := Sep.any hSt
              obtain ⟨_, hz⟩ := Sep.any hz
              obtain ⟨_, hz⟩ := Sep.any hz
              obtain ⟨_, hz⟩ := Sep.any hz
              obtain ⟨_, hz⟩ := Sep.any hz
              exact hz.1
            have y0 := seven hdr hbxd
            obtain ⟨O1, O2, g1, g2, g3, g4⟩ := hSd
            have G3 := Lib.hid g3
            have G4 := Lib.hid g4
            have z0 := cell_blk hbxd 0
            have z2 := cell_blk hbxd 2
            clear eA eB eMa eMb hlA hlB hdA hdB hS hSt g3 g4 hkr
            go_wp2_with fail
            go_region_held3 (fun W => W.cell? ⟨q, 0, none⟩ = some (.int .i64 x.sp) ∧ W.cell? ⟨q, 2, none⟩ = some (.int .i64 x.fr))
              (first | exact y0 | exact y1 | exact y2)
              (first
              | (go_at_call 19; refine (space_any b n F A x.sp dA _ g1 hF8 HA.out.symm HdA.out).mono ?_; rintro e w3 ⟨rfl, hA3, hk3⟩; obtain ⟨hS3, hk3'⟩ := Sep.step (P' := TP b n A) (Sep.ok (LP.ok _ A) (Sep.ok (LP.ok _ B) (Sep.ok (LP.ok _ F) (Sep.ok (TP.ok bc n F) (BQ.ok q (blkL x)))))) g2 G3.out G4.out (Tb.mono hA3 (fun _ h => .inl h)) hk3 (fun k hk => Nat.le_trans hkrd.size hk); have hkr3 := hkrd.new hk3' (fun i hi => hi); have hS3' := (hS3.inr (fun _ h => (h.inr (fun _ h => (h.inr (fun _ h => h.turn)).turn)).turn)).turn; obtain ⟨_, hz⟩ := Sep.any hS3'; obtain ⟨_, hz⟩ := Sep.any hz; obtain ⟨_, hz⟩ := Sep.any hz; obtain ⟨_, hz⟩ := Sep.any hz; obtain ⟨_, hz⟩ := Sep.any hz; have y1 := seven (Kept.refl _ _) hz.1; obtain ⟨Q1, Q2, q1, q2, q3, q4⟩ := hS3')
              | (go_at_call 21; refine (frame_any bc n F B x.fr dB _ q1 hF8 HB.out.symm HdB.out).mono ?_; rintro e w4 ⟨rfl, hA4, hk4⟩; obtain ⟨hS4, hk4'⟩ := Sep.step (P' := TP bc n B) (Sep.ok (TP.ok b n A) (Sep.ok (LP.ok _ A) (Sep.ok (LP.ok _ B) (Sep.ok (LP.ok _ F) (BQ.ok q (blkL x)))))) q2 q3 q4 (Tb.mono hA4 (fun _ h => .inl h)) hk4 (fun k hk => Nat.le_trans hkr3.size hk); have hkr4 := hkr3.new hk4' (fun i hi => hi); obtain ⟨_, hz4⟩ := Sep.any hS4; obtain ⟨_, hz4⟩ := Sep.any hz4; obtain ⟨_, hz4⟩ := Sep.any hz4; obtain ⟨_, hz4⟩ := Sep.any hz4; obtain ⟨_, hz4⟩ := Sep.any hz4; have y2 := seven (Kept.refl _ _) hz4.1))
            obtain ⟨_, gc⟩ := Sep.one hS4
            obtain ⟨_, hz⟩ := Sep.any hS4
            obtain ⟨_, gt⟩ := Sep.one hz
            obtain ⟨_, hz⟩ := Sep.any hz
            obtain ⟨_, gA⟩ := Sep.one hz
            obtain ⟨_, hz⟩ := Sep.any hz
            obtain ⟨_, gB⟩ := Sep.one hz
            have gA' := gA.1
            have gB' := gB.1
            rw [← HMa.out] at gA'
            rw [← HMb.out] at gB'
            have GA := Lib.hid gA'
            have GB := Lib.hid gB'
            clear hS3 hS4 hz y0 y1 y2 g1 g2 G3 G4 hA3 hk3 hk3' hkr3 hA4 hk4 hk4' q1 q2 q3 q4 gA gB gA' gB' z0 z2 hbxd hz4 hkrd
            go_wp2_with fail
            refine (lines_any b n A _ gt hA8).mono ?_
            rintro e w5 ⟨v5, rfl, hown, hkx⟩
            obtain ⟨ao5, c5, hv5, -⟩ := Src.of_own hown
            rw [← HMa.out] at hv5 hown
            subst hv5
            have hsame := same_any _ _ ma A w5 (Src.of_own hown) (Src.of_own (own_same GA.out hkx)) (by omega)
            have Hsame := Lib.hid hsame
            replace gc := Tb.same gc hkx
            have GB5 := Lib.hid (own_same GB.out hkx)
            have hkr5 := hkr4.trans hkx
            clear hown hsame hkx gt hkr4 GA GB
            go_wp2_with fail
            refine Hsame.out.mono ?_
            rintro e w6 ⟨rfl, qd, rfl⟩
            have hdq : New w5 (w5.drewN qd) := (Kept.refl _ _).drewN _
            replace gc := Tb.same gc hdq
            have GB6 := Lib.hid (own_same GB5.out hdq)
            have hkr6 := hkr5.trans hdq
            clear hkr5 GB5 Hsame
            go_wp2_with fail
            refine (lines_any bc n B _ gc hB8).mono ?_
            rintro e w7 ⟨v7, rfl, hown, hkx⟩
            obtain ⟨ao7, c7, hv7, -⟩ := Src.of_own hown
            rw [← HMb.out] at hv7 hown
            subst hv7
            have hsame := same_any _ _ mb B w7 (Src.of_own hown) (Src.of_own (own_same GB6.out hkx)) (by omega)
            have Hsame := Lib.hid hsame
            have hkr7 := hkr6.trans hkx
            clear hown hsame hkx gc hkr6 GB6
            go_wp2_with fail
            refine Hsame.out.mono ?_
            rintro e w8 ⟨rfl, qd2, rfl⟩
            have hkr8 := hkr7.drewN qd2
            go_wp2_with fail
            refine (fixed_any _).mono ?_
            rintro e w9 ⟨rfl, hk9⟩
            go_wp2_with fail
            go_ret
            exact ⟨rfl, none_below (hkr8.trans hk9)⟩
end Go.Proofs.Ytgjlghjigfclpaa

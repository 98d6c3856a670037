/- The walk of the law TlbLast. -/
import Derived.Test.YtgjlghjigfclpaaTlbM
set_option linter.all false
namespace Go.Proofs.Ytgjlghjigfclpaa
open Go.RowKit

theorem two9 {w W : World} {B o : Nat} {a b : Int} (k : New w W) (h1 : w.cell? ⟨B, o, none⟩ = some (.int .i64 a)) (h2 : w.cell? ⟨B, o + 1, none⟩ = some (.int .i64 b)) : W.cell? ⟨B, o, none⟩ = some (.int .i64 a) ∧ W.cell? ⟨B, o + 1, none⟩ = some (.int .i64 b) :=
  ⟨cell_kept k h1 (fun h => h), cell_kept k h2 (fun h => h)⟩
theorem four9 {w W : World} {q B o o' : Nat} {a b c d : Int} (k : New w W) (h0 : w.heap[q]? = some (.cells #[.int .i64 a, .int .i64 b] 32 (0, 0))) (h1 : w.cell? ⟨B, o, none⟩ = some (.int .i64 c)) (h2 : w.cell? ⟨B, o', none⟩ = some (.int .i64 d)) :
    W.cell? ⟨q, 0, none⟩ = some (.int .i64 a) ∧ W.cell? ⟨q, 1, none⟩ = some (.int .i64 b) ∧ W.cell? ⟨B, o, none⟩ = some (.int .i64 c) ∧ W.cell? ⟨B, o', none⟩ = some (.int .i64 d) :=
  ⟨cell_blk (k.heap h0 (fun h => h)) 0, cell_blk (k.heap h0 (fun h => h)) 1, cell_kept k h1 (fun h => h), cell_kept k h2 (fun h => h)⟩

set_option maxRecDepth 100000 in
set_option maxHeartbeats 16000000 in
theorem walkTlbLast (w : World) (room : Int) (hwf : (Lit.int .i64 room).wf = true) (v : Value) (rows : List (List Value)) (hs : Src w v rows.length 4 rows.flatten) (hr : ∀ x ∈ rows, FlatOk [.int .i64, .int .i64, .int .i64, .int .i64] x) (hm : rows.length ≤ maxLen)
    (cx : List Value) (hcx : FlatOk [.int .i64, .int .i64, .int .i64, .int .i64] cx) :
    Calls Try.prog 7 #[.int .i64 room, v, .agg cx.toArray] w fun e w' => e = .returned (.bool true) ∧ Below w.heap.size w w' := by
  obtain ⟨x, rfl⟩ := line_of_flat hcx
  obtain ⟨L, hfl, hll⟩ := lines_of_rows hr
  rw [hfl] at hs
  obtain ⟨len, hlen⟩ : ∃ len, len = rows.length := ⟨_, rfl⟩
  rw [← hlen] at hs hm hll
  clear hr hfl hlen hcx
  obtain ⟨m, hmk, a0, a1⟩ := and_small room 4 (by decide)
  simp only [Int.reducePow, Int.reduceSub] at hmk a1
  obtain ⟨m, rfl⟩ := Int.eq_ofNat_of_zero_le a0
  obtain ⟨n, hn⟩ : ∃ n : Nat, n = 1 + m := ⟨_, rfl⟩
  have hw1 : IntKind.i64.wrap (1 + (m : Int)) = (n : Int) := by rw [IntKind.wrap_i64]; omega
  have hn1 : 1 ≤ n := by omega
  have hn8 : n ≤ 16 := by omega
  clear hn hwf a0 a1
  have Hs := Lib.hid hs
  obtain ⟨-, ao, c, rfl, hcells⟩ := hs.lines
  have Hll := Lib.hid hll
  have hlenm : len ≤ 9223372036854775807 := by have : maxLen = 9223372036854775807 := rfl; omega
  clear hs hll hcells hm
  show Calls Try.prog 7 #[.int .i64 room, .slice ao len c, aggL x] w _
  go_enter Try.func7, Try.ntmps7
  go_wp2_with fail
  refine (new_yes n _ hn1 (by omega)).mono ?_
  rintro e w1 ⟨rfl, hA, hk1⟩
  have hX1 := (Kept.of_below (B := 0) (Below.refl 0 w))
  have hX : BQ w.heap.size (blkL x) (fun k => w.heap.size ≤ k ∧ k < (w.alloc (blkL x)).heap.size) (w.alloc (blkL x)) := ⟨heap_alloc_new _ _, Nat.le_refl _, by simp⟩
  have hS0 : Sep (TP (w.alloc (blkL x)).heap.size n []) (BQ w.heap.size (blkL x)) (fun k => w.heap.size ≤ k) w1 :=
    Sep.fresh (BQ.ok _ _) ((BQ.ok _ _).mono hX (fun k hk => hk.1)) hA hk1 (fun k hk => by simp at hk; omega)
  have hk01 : New w w1 := ((Kept.refl _ w).alloc (blkL x)).trans hk1
  obtain ⟨b, hb⟩ : ∃ b, b = (w.alloc (blkL x)).heap.size := ⟨_, rfl⟩
  obtain ⟨q, hq⟩ : ∃ q, q = w.heap.size := ⟨_, rfl⟩
  have Hq := Lib.hid hq
  have hb' : w.heap.size + 1 = b := by rw [hb]; simp
  replace hS0 : Sep (TP b n []) (BQ q (blkL x)) (fun k => w.heap.size ≤ k) w1 := by rw [hb, hq]; exact hS0
  try rw [← hb]
  try simp only [hb']
  rw [← hq]
  clear hA hX hX1 hk1 hb hb' hq
  go_wp2_with fail
  go_loopw [10] (fun i wr => ∃ k : Nat, k ≤ 60 ∧ k ≤ len ∧ i = .int .i64 k ∧ New w wr ∧ Sep (TP b n (fillsE n (L.take k))) (BQ q (blkL x)) (fun k => w.heap.size ≤ k) wr) (fun i _ => 60 - (intOf i).toNat)
  case atStart => exact ⟨0, by omega, by omega, rfl, hk01, hS0⟩
  case round =>
    clear hS0 hk01
    obtain ⟨k, hk6, hk, rfl, hkr, hS⟩ := hrel
    by_cases h1 : k < len ∧ k < 60
    · obtain ⟨h1, h2⟩ := h1
      have h2' : (k : Int) < 60 := by omega
      have k0 : (0 : Int) ≤ k := by omega
      have k1 : (k : Int) < len := by omega
      obtain ⟨y, hy⟩ : ∃ y, L[k]? = some y := ⟨_, List.getElem?_eq_getElem (by have := Hll.out; omega)⟩
      obtain ⟨ao', c', he, hcl⟩ := (Hs.out.same hkr).lines.2
      cases he
      obtain ⟨B, Of, rfl, c0, c1, c2, c3⟩ := hcl k y hy
      have hla := fillsE_length n hn1 (L.take k)
      obtain ⟨M, hM, hMx⟩ := fillE_last2 n (fillsE n (L.take k)) y
      have HM := Lib.hid hM
      have HMx := Lib.hid hMx
      have hL2 := fillsE_take (room := n) hy
      rw [hM] at hL2
      have HL2 := Lib.hid hL2
      have Hy := Lib.hid hy
      obtain ⟨O1, O2, g1, g2, g3, g4⟩ := hS
      have G3 := Lib.hid g3
      have G4 := Lib.hid g4
      clear hcl hM hMx hL2 hy g3 g4
      go_wp2_with fail
      refine (fill_any b n _ (M ++ [y]) y wr g1 hla hn1 (by omega) HM.out).mono ?_
      rintro e w3 ⟨rfl, hA3, hk3⟩
      obtain ⟨hS3, hk3'⟩ := Sep.step (P' := TP b n (M ++ [y])) (BQ.ok _ _) g2 G3.out G4.out hA3 hk3 (fun k hk => Nat.le_trans hkr.size hk)
      have hlm : (M ++ [y]).length ≤ n := by rw [← HM.out]; exact length_fillE n _ y hla hn1
      have hkr3 := hkr.new hk3' (fun i hi => hi)
      obtain ⟨ao', c', he, hcl⟩ := (Hs.out.same hkr3).lines.2
      cases he
      obtain ⟨B', Of', he, c0', c1', c2', c3'⟩ := hcl k y Hy.out
      cases he
      clear hcl g1 g2 G3 G4 hA3 hk3 hk3' c0 c1 c2 c3
      obtain ⟨Ot, gt⟩ := Sep.one hS3
      have gt' : Tb Ot w3 b n (M ++ [y]) := gt
      have hd3 : New w3 w3.drew := (Kept.refl _ _).drew
      have hlook := fun (W : World) (k : New w3 W) => look_any b n (M ++ [y]) y.sp y.pg y.fr y.ri true W (gt'.same k) (by omega) (lookE_last2 M y HMx.out)
      have Hlook := Lib.hid hlook
      have hda : New w3 (w3.alloc (.cells #[.int .i64 0, .int .i64 0] 32)).drew := ((Kept.refl _ _).alloc _).drew
      have hbz : (w3.alloc (.cells #[.int .i64 0, .int .i64 0] 32)).drew.heap[w3.heap.size]? = some (.cells #[.int .i64 0, .int .i64 0] 32 (0, 0)) := heap_alloc_new w3 _
      clear hlook gt gt'
      go_wp2_with fail
      go_region_held3 (fun W => W.cell? ⟨B, Of + k * 4, none⟩ = some (.int .i64 y.sp) ∧ W.cell? ⟨B, Of + k * 4 + 1, none⟩ = some (.int .i64 y.pg))
        (first | exact two9 hd3 c0' c1' | exact two9 hda c0' c1' | exact two9 hk34 c0' c1' | exact two9 hk35 c0' c1' | exact two9 (hk34.alloc _) c0' c1' | exact two9 ((hk34.alloc _).setCell (.inl hk34.size) _ |>.setCell (.inl hk34.size) _) c0' c1' | exact two9 (hk35.setCell (.inl (Nat.le_refl _)) _ |>.setCell (.inl (Nat.le_refl _)) _) c0' c1')
        (first
          | (go_at_call 14; refine (Hlook.out _ hd3).mono ?_; rintro e w4 ⟨rfl, hk4⟩; have hk34 := hd3.trans hk4)
          | (go_at_call 14; refine (Hlook.out _ hda).mono ?_; rintro e w4 ⟨rfl, hk4⟩; have hk35 := hda.trans hk4; have hz := hk4.heap hbz (fun h => h); have z0 := cell_blk hz 0; have z1 := cell_blk hz 1; have zf0 := free_blk hz 0; have zf1 := free_blk hz 1))
      · obtain ⟨W, hW⟩ : ∃ W, W = w4.alloc (.cells #[.int .i64 y.fr, .int .i64 y.ri] 32) := ⟨_, rfl⟩
        rw [← hW]
        have hbx0 : W.heap[w4.heap.size]? = some (.cells #[.int .i64 y.fr, .int .i64 y.ri] 32 (0, 0)) := by rw [hW]; exact heap_alloc_new _ _
        have hkW : New w3 W := by rw [hW]; exact hk34.alloc _
        have hS4 := (Sep.ok (TP.ok b n (M ++ [y])) (BQ.ok q (blkL x))).kept hS3 hkW (fun _ _ h => h)
        have hkr4 := hkr3.trans hkW
        have e2 := cell_kept hkW.drew c2' (fun h => h)
        have e3 := cell_kept hkW.drew c3' (fun h => h)
        obtain ⟨Ot, gt⟩ := Sep.one hS4
        have gt' : Tb Ot W b n (M ++ [y]) := gt
        have hkd : New W W.drew := (Kept.refl _ _).drew
        have hlines := lines_any b n (M ++ [y]) W.drew (gt'.same hkd) (by omega)
        have Hlines := Lib.hid hlines
        have hbx : W.drew.heap[w4.heap.size]? = some (.cells #[.int .i64 y.fr, .int .i64 y.ri] 32 (0, 0)) := hbx0
        have hfour := fun (W' : World) (k : New W.drew W') => four9 k hbx e2 e3
        have hkr0 : New W.drew W.drew := Kept.refl _ _
        obtain ⟨la, hla2⟩ : ∃ la, la = (M ++ [y]).length := ⟨_, rfl⟩
        have Hla2 := Lib.hid hla2
        have hlan : ¬ ((n : Int) < la) := by omega
        have hlan2 : ¬ (n < la) := by omega
        clear hlines gt gt' hla2 hW c0' c1' c2' c3' hS3 hkr3 Hlook hda hbz hbx0 hbx e2 e3
        go_wp2_with fail
        go_region_held3 (fun W' => W'.cell? ⟨w4.heap.size, 0, none⟩ = some (.int .i64 y.fr) ∧ W'.cell? ⟨w4.heap.size, 1, none⟩ = some (.int .i64 y.ri) ∧ W'.cell? ⟨B, Of + k * 4 + 2, none⟩ = some (.int .i64 y.fr) ∧ W'.cell? ⟨B, Of + k * 4 + 3, none⟩ = some (.int .i64 y.ri))
          (first | exact hfour _ hkr0 | exact hfour _ hk5)
          (first | (go_at_call 11; refine Hlines.out.mono ?_; rintro e w5 ⟨v5, rfl, hown5, hk5⟩; obtain ⟨ao5, c5, hv5, _⟩ := Src.of_own hown5; rw [← Hla2.out] at hv5; rw [hv5]))
        have hk45 := hkd.trans hk5
        have hS5 := (Sep.ok (TP.ok b n (M ++ [y])) (BQ.ok q (blkL x))).kept hS4 hk45 (fun _ _ h => h)
        have hkr5 := hkr4.trans hk45
        rw [← HL2.out] at hS5
        clear hown5 hv5 Hlines hfour hS4 hkr4
        go_wp2_with fail
        go_roundw
        case rel => exact ⟨k + 1, by omega, by omega, by go_num, hkr5, hS5⟩
        case measure => simp [intOf]; omega
      · obtain ⟨W, hW⟩ : ∃ W, W = (w4.setCell ⟨w3.heap.size, 0, none⟩ (.int .i64 y.fr)).setCell ⟨w3.heap.size, 1, none⟩ (.int .i64 y.ri) := ⟨_, rfl⟩
        rw [← hW]
        have hbx0 : W.heap[w3.heap.size]? = some (.cells #[.int .i64 y.fr, .int .i64 y.ri] 32 (0, 0)) := by rw [hW]; exact heap_setCell_same _ _ 1 _ _ _ (heap_setCell_same _ _ 0 _ _ _ hz)
        have hkW : New w3 W := by rw [hW]; exact hk35.setCell (.inl (Nat.le_refl _)) _ |>.setCell (.inl (Nat.le_refl _)) _
        have hS4 := (Sep.ok (TP.ok b n (M ++ [y])) (BQ.ok q (blkL x))).kept hS3 hkW (fun _ _ h => h)
        have hkr4 := hkr3.trans hkW
        have e2 := cell_kept hkW.drew c2' (fun h => h)
        have e3 := cell_kept hkW.drew c3' (fun h => h)
        obtain ⟨Ot, gt⟩ := Sep.one hS4
        have gt' : Tb Ot W b n (M ++ [y]) := gt
        have hkd : New W W.drew := (Kept.refl _ _).drew
        have hlines := lines_any b n (M ++ [y]) W.drew (gt'.same hkd) (by omega)
        have Hlines := Lib.hid hlines
        have hbx : W.drew.heap[w3.heap.size]? = some (.cells #[.int .i64 y.fr, .int .i64 y.ri] 32 (0, 0)) := hbx0
        have hfour := fun (W' : World) (k : New W.drew W') => four9 k hbx e2 e3
        have hkr0 : New W.drew W.drew := Kept.refl _ _
        obtain ⟨la, hla2⟩ : ∃ la, la = (M ++ [y]).length := ⟨_, rfl⟩
        have Hla2 := Lib.hid hla2
        have hlan : ¬ ((n : Int) < la) := by omega
        have hlan2 : ¬ (n < la) := by omega
        clear hlines gt gt' hla2 hW c0' c1' c2' c3' hS3 hkr3 Hlook hda hbz hbx0 hbx e2 e3
        go_wp2_with fail
        go_region_held3 (fun W' => W'.cell? ⟨w3.heap.size, 0, none⟩ = some (.int .i64 y.fr) ∧ W'.cell? ⟨w3.heap.size, 1, none⟩ = some (.int .i64 y.ri) ∧ W'.cell? ⟨B, Of + k * 4 + 2, none⟩ = some (.int .i64 y.fr) ∧ W'.cell? ⟨B, Of + k * 4 + 3, none⟩ = some (.int .i64 y.ri))
          (first | exact hfour _ hkr0 | exact hfour _ hk5)
          (first | (go_at_call 11; refine Hlines.out.mono ?_; rintro e w5 ⟨v5, rfl, hown5, hk5⟩; obtain ⟨ao5, c5, hv5, _⟩ := Src.of_own hown5; rw [← Hla2.out] at hv5; rw [hv5]))
        have hk45 := hkd.trans hk5
        have hS5 := (Sep.ok (TP.ok b n (M ++ [y])) (BQ.ok q (blkL x))).kept hS4 hk45 (fun _ _ h => h)
        have hkr5 := hkr4.trans hk45
        rw [← HL2.out] at hS5
        clear hown5 hv5 Hlines hfour hS4 hkr4
        go_wp2_with fail
        go_roundw
        case rel => exact ⟨k + 1, by omega, by omega, by go_num, hkr5, hS5⟩
        case measure => simp [intOf]; omega
    · have hla := fillsE_length n hn1 (L.take k)
      obtain ⟨M, hM, hMx⟩ := fillE_last2 n (fillsE n (L.take k)) x
      have hl1 : (M ++ [x]).length ≤ n := by rw [← hM]; exact length_fillE n _ x hla hn1
      have hlS := dropS_less M x
      have hlF := dropF_less M x
      obtain ⟨L1, hL1⟩ : ∃ L1, L1 = M ++ [x] := ⟨_, rfl⟩
      obtain ⟨LS, hLS⟩ : ∃ LS, LS = dropS x.sp L1 := ⟨_, rfl⟩
      obtain ⟨LF, hLF⟩ : ∃ LF, LF = dropF x.fr L1 := ⟨_, rfl⟩
      have f1 : fillE n (fillsE n (L.take k)) x = L1 := by rw [hL1]; exact hM
      have f2 : dropP x.sp x.pg L1 = M := by rw [hL1]; exact dropP_last M x hMx
      have f3 : lookE x.sp x.pg M = (0, 0, false) := by rw [← f2]; exact look_dropP _ _ _
      have f4 : lookE x.sp x.pg LS = (0, 0, false) := by rw [hLS]; exact look_dropS _ _ _
      have f5 : lookE x.sp x.pg LF = (0, 0, false) := by rw [hLF, hL1]; exact look_dropF M x hMx
      have l1 : L1.length = M.length + 1 := by rw [hL1]; simp
      rw [← hL1] at hl1
      rw [← hL1, ← hLS] at hlS
      rw [← hL1, ← hLF] at hlF
      obtain ⟨dS, hdS⟩ : ∃ d, LS.length + d = L1.length := ⟨L1.length - LS.length, by omega⟩
      obtain ⟨dF, hdF⟩ : ∃ d, LF.length + d = L1.length := ⟨L1.length - LF.length, by omega⟩
      have hdS1 : 1 ≤ dS := by omega
      have hdF1 : 1 ≤ dF := by omega
      have hdS2 : ¬ ((dS : Int) < 1) := by omega
      have hdF2 : ¬ ((dF : Int) < 1) := by omega
      have hdS3 : ¬ (dS < 1) := by omega
      have hdF3 : ¬ (dF < 1) := by omega
      have hisd : true = decide (M.length < L1.length) := by rw [l1]; simp
      obtain ⟨ml, hml⟩ : ∃ ml, ml = M.length := ⟨_, rfl⟩
      obtain ⟨l1n, hl1n⟩ : ∃ l1n, l1n = L1.length := ⟨_, rfl⟩
      have hsub : IntKind.i64.wrap ((l1n : Int) - 1) = (ml : Int) := by rw [IntKind.wrap_i64]; omega
      have hM8 : M.length ≤ 1000 := by omega
      have hS8 : LS.length ≤ 1000 := by omega
      have hF8 : LF.length ≤ 1000 := by omega
      have h18 : L1.length ≤ 1000 := by omega
      have F1 := Lib.hid f1
      have F2 := Lib.hid f2
      have F3 := Lib.hid f3
      have F4 := Lib.hid f4
      have F5 := Lib.hid f5
      have HLS := Lib.hid hLS.symm
      have HLF := Lib.hid hLF.symm
      have HdS := Lib.hid hdS
      have HdF := Lib.hid hdF
      have Hisd := Lib.hid hisd
      have Hml := Lib.hid hml
      have Hl1n := Lib.hid hl1n
      clear hM hMx hlS hlF hL1 hLS hLF f1 f2 f3 f4 f5 l1 hl1 hdS hdF hisd hml hl1n
      obtain ⟨O1, O2, g1, g2, g3, g4⟩ := hS
      have G3 := Lib.hid g3
      have G4 := Lib.hid g4
      clear g3 g4
      by_cases h3 : k < len
      · have h2' : ¬ ((k : Int) < 60) := by omega
        have hbx := g2.1
        have x0 := cell_blk hbx 0
        have x1 := cell_blk hbx 1
        have x2 := cell_blk hbx 2
        have x3 := cell_blk hbx 3
        clear hbx
        go_wp2_with fail
        refine (fill_any b n _ L1 x wr g1 hla hn1 (by omega) F1.out).mono ?_
        rintro e w3 ⟨rfl, hA, hkx⟩
        obtain ⟨hS3, hkst⟩ := Sep.step (P' := TP b n L1) (BQ.ok q (blkL x)) g2 G3.out G4.out hA hkx (fun k hk => Nat.le_trans hkr.size hk)
        have hkw := hkr.new hkst (fun i hi => hi)
        clear g1 g2 G3 G4 hA hkx hkst x0 x1 x2 x3 hkr
        obtain ⟨_, ht⟩ := Sep.one hS3
        go_wp2_with fail
        refine (copy_any b n L1 _ ht h18).mono ?_
        rintro e w4 ⟨ba, rfl, hN, hkx⟩
        have hS4 := Sep.fresh (N := TP ba n L1) (Sep.ok (TP.ok b n L1) (BQ.ok q (blkL x))) hS3 hN hkx (fun k hk => Nat.le_trans hkw.size hk)
        replace hkw := hkw.trans hkx
        clear hN hkx ht hS3
        obtain ⟨_, ht⟩ := Sep.any hS4
        obtain ⟨_, ht⟩ := Sep.one ht
        go_wp2_with fail
        refine (copy_any b n L1 _ ht h18).mono ?_
        rintro e w5 ⟨bb, rfl, hN, hkx⟩
        have hS5 := Sep.fresh (N := TP bb n L1) (Sep.ok (TP.ok ba n L1) (Sep.ok (TP.ok b n L1) (BQ.ok q (blkL x)))) hS4 hN hkx (fun k hk => Nat.le_trans hkw.size hk)
        replace hkw := hkw.trans hkx
        clear hN hkx ht hS4
        obtain ⟨_, ht⟩ := Sep.any hS5
        obtain ⟨_, ht⟩ := Sep.any ht
        obtain ⟨_, ht⟩ := Sep.one ht
        go_wp2_with fail
        refine (copy_any b n L1 _ ht h18).mono ?_
        rintro e w6 ⟨bc, rfl, hN, hkx⟩
        have hS6 := Sep.fresh (N := TP bc n L1) (Sep.ok (TP.ok bb n L1) (Sep.ok (TP.ok ba n L1) (Sep.ok (TP.ok b n L1) (BQ.ok q (blkL x))))) hS5 hN hkx (fun k hk => Nat.le_trans hkw.size hk)
        replace hkw := hkw.trans hkx
        clear hN hkx ht hS5
        have hS7 := hS6.third
        clear hS6
        obtain ⟨_, hb1⟩ := Sep.any hS7
        obtain ⟨_, hb1⟩ := Sep.any hb1
        obtain ⟨_, hb1⟩ := Sep.any hb1
        obtain ⟨_, hb1⟩ := Sep.any hb1
        have hbx : _ = some (blkL x) := hb1.1
        have x0 := cell_blk hbx 0
        have x1 := cell_blk hbx 1
        have x2 := cell_blk hbx 2
        have x3 := cell_blk hbx 3
        clear hbx hb1
        obtain ⟨O1, O2, g1, g2, g3, g4⟩ := hS7
        have G3 := Lib.hid g3
        have G4 := Lib.hid g4
        clear g3 g4
        go_wp2_with fail
        refine (drop2_any ba n L1 M x.sp x.pg _ g1 h18 F2.out true Hisd.out).mono ?_
        rintro e w7 ⟨rfl, hA, hkx⟩
        obtain ⟨hS8, hkst⟩ := Sep.step (P' := TP ba n M) (Sep.ok (TP.ok bc n L1) (Sep.ok (TP.ok bb n L1) (Sep.ok (TP.ok b n L1) (BQ.ok q (blkL x))))) g2 G3.out G4.out (Tb.mono hA (fun _ h => .inl h)) hkx (fun k hk => Nat.le_trans hkw.size hk)
        replace hkw := hkw.new hkst (fun i hi => hi)
        clear g1 g2 G3 G4 hA hkx hkst
        clear x0 x1 x2 x3
        have hS8' := hS8.third
        clear hS8
        obtain ⟨_, hb1⟩ := Sep.any hS8'
        obtain ⟨_, hb1⟩ := Sep.any hb1
        obtain ⟨_, hb1⟩ := Sep.any hb1
        obtain ⟨_, hb1⟩ := Sep.any hb1
        have hbx : _ = some (blkL x) := hb1.1
        have x0 := cell_blk hbx 0
        have x1 := cell_blk hbx 1
        have x2 := cell_blk hbx 2
        have x3 := cell_blk hbx 3
        clear hbx hb1
        obtain ⟨O1, O2, g1, g2, g3, g4⟩ := hS8'
        have G3 := Lib.hid g3
        have G4 := Lib.hid g4
        clear g3 g4
        go_wp2_with fail
        refine (space_any bb n L1 LS x.sp dS _ g1 h18 HLS.out HdS.out).mono ?_
        rintro e w8 ⟨rfl, hA, hkx⟩
        obtain ⟨hS9, hkst⟩ := Sep.step (P' := TP bb n LS) (Sep.ok (TP.ok ba n M) (Sep.ok (TP.ok bc n L1) (Sep.ok (TP.ok b n L1) (BQ.ok q (blkL x))))) g2 G3.out G4.out (Tb.mono hA (fun _ h => .inl h)) hkx (fun k hk => Nat.le_trans hkw.size hk)
        replace hkw := hkw.new hkst (fun i hi => hi)
        clear g1 g2 G3 G4 hA hkx hkst
        clear x0 x1 x2 x3
        have hS9' := hS9.third
        clear hS9
        obtain ⟨_, hb1⟩ := Sep.any hS9'
        obtain ⟨_, hb1⟩ := Sep.any hb1
        obtain ⟨_, hb1⟩ := Sep.any hb1
        obtain ⟨_, hb1⟩ := Sep.any hb1
        have hbx : _ = some (blkL x) := hb1.1
        have x0 := cell_blk hbx 0
        have x1 := cell_blk hbx 1
        have x2 := cell_blk hbx 2
        have x3 := cell_blk hbx 3
        clear hbx hb1
        obtain ⟨O1, O2, g1, g2, g3, g4⟩ := hS9'
        have G3 := Lib.hid g3
        have G4 := Lib.hid g4
        clear g3 g4
        go_wp2_with fail
        refine (frame_any bc n L1 LF x.fr dF _ g1 h18 HLF.out HdF.out).mono ?_
        rintro e w9 ⟨rfl, hA, hkx⟩
        obtain ⟨hSa, hkst⟩ := Sep.step (P' := TP bc n LF) (Sep.ok (TP.ok bb n LS) (Sep.ok (TP.ok ba n M) (Sep.ok (TP.ok b n L1) (BQ.ok q (blkL x))))) g2 G3.out G4.out (Tb.mono hA (fun _ h => .inl h)) hkx (fun k hk => Nat.le_trans hkw.size hk)
        replace hkw := hkw.new hkst (fun i hi => hi)
        clear g1 g2 G3 G4 hA hkx hkst
        clear x0 x1 x2 x3
        obtain ⟨_, hb1⟩ := Sep.any hSa
        obtain ⟨_, hb1⟩ := Sep.any hb1
        obtain ⟨_, hb1⟩ := Sep.any hb1
        obtain ⟨_, hb1⟩ := Sep.any hb1
        have hbx : _ = some (blkL x) := hb1.1
        have x0 := cell_blk hbx 0
        have x1 := cell_blk hbx 1
        have x2 := cell_blk hbx 2
        have x3 := cell_blk hbx 3
        clear hbx hb1
        obtain ⟨_, gc⟩ := Sep.one hSa
        obtain ⟨_, hSb⟩ := Sep.any hSa
        obtain ⟨_, gb⟩ := Sep.one hSb
        obtain ⟨_, hSc⟩ := Sep.any hSb
        obtain ⟨_, ga⟩ := Sep.one hSc
        obtain ⟨_, hSd⟩ := Sep.any hSc
        obtain ⟨_, gt⟩ := Sep.one hSd
        clear hSa hSb hSc hSd
        go_wp2_with fail
        refine (look_any ba n M x.sp x.pg 0 0 false _ ga hM8 F3.out).mono ?_
        rintro e u1 ⟨rfl, hkx⟩
        have hky := hkx.alloc (.cells #[.int .i64 0, .int .i64 0] 32)
        replace x0 := cell_kept hky x0 (fun h => h)
        replace x1 := cell_kept hky x1 (fun h => h)
        replace ga := Tb.same ga hky
        replace gb := Tb.same gb hky
        replace gc := Tb.same gc hky
        replace gt := Tb.same gt hky
        replace hkw := hkw.trans hky
        clear hkx hky x2 x3
        go_wp2_with fail
        refine (look_any bb n LS x.sp x.pg 0 0 false _ gb hS8 F4.out).mono ?_
        rintro e u2 ⟨rfl, hkx⟩
        have hky := hkx.alloc (.cells #[.int .i64 0, .int .i64 0] 32)
        replace x0 := cell_kept hky x0 (fun h => h)
        replace x1 := cell_kept hky x1 (fun h => h)
        replace ga := Tb.same ga hky
        replace gc := Tb.same gc hky
        replace gt := Tb.same gt hky
        replace hkw := hkw.trans hky
        clear hkx hky gb
        go_wp2_with fail
        refine (look_any bc n LF x.sp x.pg 0 0 false _ gc hF8 F5.out).mono ?_
        rintro e u3 ⟨rfl, hkx⟩
        have hky := hkx.alloc (.cells #[.int .i64 0, .int .i64 0] 32)
        replace ga := Tb.same ga hky
        replace gt := Tb.same gt hky
        replace hkw := hkw.trans hky
        clear hkx hky gc x0 x1
        go_wp2_with fail
        refine (lines_any ba n M _ ga hM8).mono ?_
        rintro e u4 ⟨v4, rfl, hown, hkx⟩
        obtain ⟨ao4, c4, hv4, -⟩ := Src.of_own hown
        rw [← Hml.out] at hv4
        replace gt := Tb.same gt hkx
        replace hkw := hkw.trans hkx
        clear hown hkx ga
        subst hv4
        go_wp2_with fail
        refine (lines_any b n L1 _ gt h18).mono ?_
        rintro e u5 ⟨v5, rfl, hown, hkx⟩
        obtain ⟨ao5, c5, hv5, -⟩ := Src.of_own hown
        rw [← Hl1n.out] at hv5
        replace hkw := hkw.trans hkx
        clear hown hkx gt
        subst hv5
        go_wp2_with fail
        refine (fixed_any _).mono ?_
        rintro e u6 ⟨rfl, hkx⟩
        go_wp2_with fail
        go_ret
        exact ⟨rfl, none_below (hkw.trans hkx)⟩
      · have h3' : ¬ ((k : Int) < len) := by omega
        have hbx := g2.1
        have x0 := cell_blk hbx 0
        have x1 := cell_blk hbx 1
        have x2 := cell_blk hbx 2
        have x3 := cell_blk hbx 3
        clear hbx
        go_wp2_with fail
        refine (fill_any b n _ L1 x wr g1 hla hn1 (by omega) F1.out).mono ?_
        rintro e w3 ⟨rfl, hA, hkx⟩
        obtain ⟨hS3, hkst⟩ := Sep.step (P' := TP b n L1) (BQ.ok q (blkL x)) g2 G3.out G4.out hA hkx (fun k hk => Nat.le_trans hkr.size hk)
        have hkw := hkr.new hkst (fun i hi => hi)
        clear g1 g2 G3 G4 hA hkx hkst x0 x1 x2 x3 hkr
        obtain ⟨_, ht⟩ := Sep.one hS3
        go_wp2_with fail
        refine (copy_any b n L1 _ ht h18).mono ?_
        rintro e w4 ⟨ba, rfl, hN, hkx⟩
        have hS4 := Sep.fresh (N := TP ba n L1) (Sep.ok (TP.ok b n L1) (BQ.ok q (blkL x))) hS3 hN hkx (fun k hk => Nat.le_trans hkw.size hk)
        replace hkw := hkw.trans hkx
        clear hN hkx ht hS3
        obtain ⟨_, ht⟩ := Sep.any hS4
        obtain ⟨_, ht⟩ := Sep.one ht
        go_wp2_with fail
        refine (copy_any b n L1 _ ht h18).mono ?_
        rintro e w5 ⟨bb, rfl, hN, hkx⟩
        have hS5 := Sep.fresh (N := TP bb n L1) (Sep.ok (TP.ok ba n L1) (Sep.ok (TP.ok b n L1) (BQ.ok q (blkL x)))) hS4 hN hkx (fun k hk => Nat.le_trans hkw.size hk)
        replace hkw := hkw.trans hkx
        clear hN hkx ht hS4
        obtain ⟨_, ht⟩ := Sep.any hS5
        obtain ⟨_, ht⟩ := Sep.any ht
        obtain ⟨_, ht⟩ := Sep.one ht
        go_wp2_with fail
        refine (copy_any b n L1 _ ht h18).mono ?_
        rintro e w6 ⟨bc, rfl, hN, hkx⟩
        have hS6 := Sep.fresh (N := TP bc n L1) (Sep.ok (TP.ok bb n L1) (Sep.ok (TP.ok ba n L1) (Sep.ok (TP.ok b n L1) (BQ.ok q (blkL x))))) hS5 hN hkx (fun k hk => Nat.le_trans hkw.size hk)
        replace hkw := hkw.trans hkx
        clear hN hkx ht hS5
        have hS7 := hS6.third
        clear hS6
        obtain ⟨_, hb1⟩ := Sep.any hS7
        obtain ⟨_, hb1⟩ := Sep.any hb1
        obtain ⟨_, hb1⟩ := Sep.any hb1
        obtain ⟨_, hb1⟩ := Sep.any hb1
        have hbx : _ = some (blkL x) := hb1.1
        have x0 := cell_blk hbx 0
        have x1 := cell_blk hbx 1
        have x2 := cell_blk hbx 2
        have x3 := cell_blk hbx 3
        clear hbx hb1
        obtain ⟨O1, O2, g1, g2, g3, g4⟩ := hS7
        have G3 := Lib.hid g3
        have G4 := Lib.hid g4
        clear g3 g4
        go_wp2_with fail
        refine (drop2_any ba n L1 M x.sp x.pg _ g1 h18 F2.out true Hisd.out).mono ?_
        rintro e w7 ⟨rfl, hA, hkx⟩
        obtain ⟨hS8, hkst⟩ := Sep.step (P' := TP ba n M) (Sep.ok (TP.ok bc n L1) (Sep.ok (TP.ok bb n L1) (Sep.ok (TP.ok b n L1) (BQ.ok q (blkL x))))) g2 G3.out G4.out (Tb.mono hA (fun _ h => .inl h)) hkx (fun k hk => Nat.le_trans hkw.size hk)
        replace hkw := hkw.new hkst (fun i hi => hi)
        clear g1 g2 G3 G4 hA hkx hkst
        clear x0 x1 x2 x3
        have hS8' := hS8.third
        clear hS8
        obtain ⟨_, hb1⟩ := Sep.any hS8'
        obtain ⟨_, hb1⟩ := Sep.any hb1
        obtain ⟨_, hb1⟩ := Sep.any hb1
        obtain ⟨_, hb1⟩ := Sep.any hb1
        have hbx : _ = some (blkL x) := hb1.1
        have x0 := cell_blk hbx 0
        have x1 := cell_blk hbx 1
        have x2 := cell_blk hbx 2
        have x3 := cell_blk hbx 3
        clear hbx hb1
        obtain ⟨O1, O2, g1, g2, g3, g4⟩ := hS8'
        have G3 := Lib.hid g3
        have G4 := Lib.hid g4
        clear g3 g4
        go_wp2_with fail
        refine (space_any bb n L1 LS x.sp dS _ g1 h18 HLS.out HdS.out).mono ?_
        rintro e w8 ⟨rfl, hA, hkx⟩
        obtain ⟨hS9, hkst⟩ := Sep.step (P' := TP bb n LS) (Sep.ok (TP.ok ba n M) (Sep.ok (TP.ok bc n L1) (Sep.ok (TP.ok b n L1) (BQ.ok q (blkL x))))) g2 G3.out G4.out (Tb.mono hA (fun _ h => .inl h)) hkx (fun k hk => Nat.le_trans hkw.size hk)
        replace hkw := hkw.new hkst (fun i hi => hi)
        clear g1 g2 G3 G4 hA hkx hkst
        clear x0 x1 x2 x3
        have hS9' := hS9.third
        clear hS9
        obtain ⟨_, hb1⟩ := Sep.any hS9'
        obtain ⟨_, hb1⟩ := Sep.any hb1
        obtain ⟨_, hb1⟩ := Sep.any hb1
        obtain ⟨_, hb1⟩ := Sep.any hb1
        have hbx : _ = some (blkL x) := hb1.1
        have x0 := cell_blk hbx 0
        have x1 := cell_blk hbx 1
        have x2 := cell_blk hbx 2
        have x3 := cell_blk hbx 3
        clear hbx hb1
        obtain ⟨O1, O2, g1, g2, g3, g4⟩ := hS9'
        have G3 := Lib.hid g3
        have G4 := Lib.hid g4
        clear g3 g4
        go_wp2_with fail
        refine (frame_any bc n L1 LF x.fr dF _ g1 h18 HLF.out HdF.out).mono ?_
        rintro e w9 ⟨rfl, hA, hkx⟩
        obtain ⟨hSa, hkst⟩ := Sep.step (P' := TP bc n LF) (Sep.ok (TP.ok bb n LS) (Sep.ok (TP.ok ba n M) (Sep.ok (TP.ok b n L1) (BQ.ok q (blkL x))))) g2 G3.out G4.out (Tb.mono hA (fun _ h => .inl h)) hkx (fun k hk => Nat.le_trans hkw.size hk)
        replace hkw := hkw.new hkst (fun i hi => hi)
        clear g1 g2 G3 G4 hA hkx hkst
        clear x0 x1 x2 x3
        obtain ⟨_, hb1⟩ := Sep.any hSa
        obtain ⟨_, hb1⟩ := Sep.any hb1
        obtain ⟨_, hb1⟩ := Sep.any hb1
        obtain ⟨_, hb1⟩ := Sep.any hb1
        have hbx : _ = some (blkL x) := hb1.1
        have x0 := cell_blk hbx 0
        have x1 := cell_blk hbx 1
        have x2 := cell_blk hbx 2
        have x3 := cell_blk hbx 3
        clear hbx hb1
        obtain ⟨_, gc⟩ := Sep.one hSa
        obtain ⟨_, hSb⟩ := Sep.any hSa
        obtain ⟨_, gb⟩ := Sep.one hSb
        obtain ⟨_, hSc⟩ := Sep.any hSb
        obtain ⟨_, ga⟩ := Sep.one hSc
        obtain ⟨_, hSd⟩ := Sep.any hSc
        obtain ⟨_, gt⟩ := Sep.one hSd
        clear hSa hSb hSc hSd
        go_wp2_with fail
        refine (look_any ba n M x.sp x.pg 0 0 false _ ga hM8 F3.out).mono ?_
        rintro e u1 ⟨rfl, hkx⟩
        have hky := hkx.alloc (.cells #[.int .i64 0, .int .i64 0] 32)
        replace x0 := cell_kept hky x0 (fun h => h)
        replace x1 := cell_kept hky x1 (fun h => h)
        replace ga := Tb.same ga hky
        replace gb := Tb.same gb hky
        replace gc := Tb.same gc hky
        replace gt := Tb.same gt hky
        replace hkw := hkw.trans hky
        clear hkx hky x2 x3
        go_wp2_with fail
        refine (look_any bb n LS x.sp x.pg 0 0 false _ gb hS8 F4.out).mono ?_
        rintro e u2 ⟨rfl, hkx⟩
        have hky := hkx.alloc (.cells #[.int .i64 0, .int .i64 0] 32)
        replace x0 := cell_kept hky x0 (fun h => h)
        replace x1 := cell_kept hky x1 (fun h => h)
        replace ga := Tb.same ga hky
        replace gc := Tb.same gc hky
        replace gt := Tb.same gt hky
        replace hkw := hkw.trans hky
        clear hkx hky gb
        go_wp2_with fail
        refine (look_any bc n LF x.sp x.pg 0 0 false _ gc hF8 F5.out).mono ?_
        rintro e u3 ⟨rfl, hkx⟩
        have hky := hkx.alloc (.cells #[.int .i64 0, .int .i64 0] 32)
        replace ga := Tb.same ga hky
        replace gt := Tb.same gt hky
        replace hkw := hkw.trans hky
        clear hkx hky gc x0 x1
        go_wp2_with fail
        refine (lines_any ba n M _ ga hM8).mono ?_
        rintro e u4 ⟨v4, rfl, hown, hkx⟩
        obtain ⟨ao4, c4, hv4, -⟩ := Src.of_own hown
        rw [← Hml.out] at hv4
        replace gt := Tb.same gt hkx
        replace hkw := hkw.trans hkx
        clear hown hkx ga
        subst hv4
        go_wp2_with fail
        refine (lines_any b n L1 _ gt h18).mono ?_
        rintro e u5 ⟨v5, rfl, hown, hkx⟩
        obtain ⟨ao5, c5, hv5, -⟩ := Src.of_own hown
        rw [← Hl1n.out] at hv5
        replace hkw := hkw.trans hkx
        clear hown hkx gt
        subst hv5
        go_wp2_with fail
        refine (fixed_any _).mono ?_
        rintro e u6 ⟨rfl, hkx⟩
        go_wp2_with fail
        go_ret
        exact ⟨rfl, none_below (hkw.trans hkx)⟩
end Go.Proofs.Ytgjlghjigfclpaa

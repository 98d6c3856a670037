/- The walk of the law NotifyDoes. -/
import Derived.Test.YtaaoegfdhpploaaNotT
set_option linter.all false
namespace Go.Proofs.Ytaaoegfdhpploaa
open Go.RowKit

abbrev TRB (b b2 q : Nat) (Bs L Bs2 L2 : List Int) (o : Obj) : Thing := Sep (TN b Bs L) (Sep (RQ b2 Bs2 L2) (BQ q o))
theorem TRB.ok (b2 q : Nat) (Bs2 L2 : List Int) (o : Obj) : (Sep (RQ b2 Bs2 L2) (BQ q o)).Ok := Sep.ok (RQ.ok _ _ _) (BQ.ok _ _)
theorem TRB.one {b b2 q : Nat} {Bs' L' Bs2 L2 : List Int} {o : Obj} {O1 O2 : Nat → Prop} {B : Nat} {w w' : World} (h2 : Sep (RQ b2 Bs2 L2) (BQ q o) O2 w) (h3 : ∀ k, O1 k → B ≤ k ∧ ¬ O2 k) (h4 : ∀ k, O2 k → B ≤ k)
    (h : TN b Bs' L' (fun k => O1 k ∨ w.heap.size ≤ k) w') (hk : Kept O1 w w') (hB : B ≤ w.heap.size) : TRB b b2 q Bs' L' Bs2 L2 o (fun k => B ≤ k) w' ∧ Kept (fun k => B ≤ k) w w' :=
  Sep.step (P' := TN b Bs' L') (TRB.ok _ _ _ _ _) h2 h3 h4 h hk (fun k hk => Nat.le_trans hB hk)
theorem TRB.two {b b2 q : Nat} {Bs L Bs2' L2' : List Int} {o : Obj} {O1 O2 : Nat → Prop} {B : Nat} {w w' : World} (h2 : Sep (TN b Bs L) (BQ q o) O2 w) (h3 : ∀ k, O1 k → B ≤ k ∧ ¬ O2 k) (h4 : ∀ k, O2 k → B ≤ k)
    (h : RQ b2 Bs2' L2' (fun k => O1 k ∨ w.heap.size ≤ k) w') (hk : Kept O1 w w') (hB : B ≤ w.heap.size) : TRB b b2 q Bs L Bs2' L2' o (fun k => B ≤ k) w' ∧ Kept (fun k => B ≤ k) w w' :=
  let ⟨h1, h2⟩ := Sep.step (P' := RQ b2 Bs2' L2') (Sep.ok (TN.ok _ _ _) (BQ.ok _ _)) h2 h3 h4 h hk (fun k hk => Nat.le_trans hB hk)
  ⟨h1.turn, h2⟩
theorem TRB.box {b b2 q : Nat} {Bs L Bs2 L2 : List Int} {o : Obj} {O : Nat → Prop} {w : World} (h : TRB b b2 q Bs L Bs2 L2 o O w) : w.heap[q]? = some o := let ⟨_, _, _, ⟨_, _, _, h2, _, _⟩, _, _⟩ := h; h2.1

set_option maxRecDepth 100000 in
set_option maxHeartbeats 16000000 in
theorem walkNotifyDoes (w : World) (v : Value) (rows : List (List Value)) (hs : Src w v rows.length 4 rows.flatten) (hr : ∀ x ∈ rows, FlatOk [.int .i64, .int .u64, .int .i64, .bool] x) (hm : rows.length ≤ maxLen) :
    Calls Try.prog 8 #[v] w fun e w' => e = .returned (.bool true) ∧ Below w.heap.size w w' := by
  unfold maxLen at hm
  obtain ⟨ao, c, rfl, hc⟩ := hs.rows rfl rfl hr (by decide)
  have Hc := Lib.hid hc
  clear hc hs
  obtain ⟨len, hlen⟩ : ∃ len, len = rows.length := ⟨_, rfl⟩
  rw [← hlen] at hm Hc ⊢
  clear hlen hr
  go_enter Try.func8, Try.ntmps8
  go_wp2_with fail
  refine (new_any w).mono ?_
  rintro e w1 ⟨rfl, hA, hk1⟩
  have hA1 : TN w.heap.size [] [] (fun k => w.heap.size ≤ k ∧ k < w1.heap.size) w1 := hA.sized
  have hR1 : RQ w1.heap.size [] [] (fun k => w1.heap.size ≤ k) (w1.alloc (.cells #[.slice none 0 0, .slice none 0 0] 46)) := ⟨_, _, heap_alloc_new _ _, ⟨by simp, .inl ⟨rfl, rfl⟩⟩, ⟨by simp, .inl ⟨rfl, rfl⟩⟩, Nat.le_refl _, fun k hk => by simp [Value.ownBlock] at hk, fun k hk => by simp [Value.ownBlock] at hk⟩
  have hAB := Sep.fresh (N := RQ w1.heap.size [] []) (TN.ok w.heap.size [] []) ((TN.ok _ _ _).mono hA1 (O' := fun k => w.heap.size ≤ k) (fun k hk => hk.1)) hR1 ((Kept.refl (fun _ => False) w1).alloc _) (fun k hk => by have := hk1.size; omega)
  have hk02 := hk1.alloc (.cells #[.slice none 0 0, .slice none 0 0] 46)
  obtain ⟨b0, hb0⟩ : ∃ b0, b0 = w.heap.size := ⟨_, rfl⟩
  obtain ⟨b2, hb2⟩ : ∃ b2, b2 = w1.heap.size := ⟨_, rfl⟩
  have hAB' : Sep (TN b0 [] []) (RQ b2 [] []) (fun k => w.heap.size ≤ k) (w1.alloc (.cells #[.slice none 0 0, .slice none 0 0] 46)) := by rw [hb0, hb2]; exact hAB.swap
  rw [← hb0]
  clear hA hA1 hR1 hAB hb0 hk1
  go_wp2_with fail
  try rw [← hb2]
  clear hb2
  go_loopw [3, 5] (fun p i wr => ∃ (j b : Nat) (Bs L : List Int), j ≤ len ∧ j ≤ 80 ∧ p = .pointer (some ⟨b, 0, none⟩) ∧ i = .int .i64 j ∧ Bs.length ≤ j ∧ L.length ≤ j ∧ (Bs = [] ∨ L = []) ∧ Sep (TN b Bs L) (RQ b2 Bs L) (fun k => w.heap.size ≤ k) wr ∧ New w wr) (fun _ i _ => 80 - (intOf i).toNat)
  case atStart => exact ⟨0, _, [], [], by omega, by omega, rfl, rfl, by simp, by simp, .inl rfl, hAB', hk02⟩
  case round =>
    clear hAB' hk02
    obtain ⟨j, b, Bs, L, hjl, hj80, rfl, rfl, hBj, hLj, hinv, hS, hk⟩ := hrel
    by_cases h1 : j < len
    · by_cases h2 : j < 80
      · have h2z : (j : Int) < 80 := by omega
        obtain ⟨B, O, x, rfl, hx, _, hcell⟩ := Hc.out j h1
        obtain ⟨kind, _, rfl, _, hx⟩ := hx.int
        obtain ⟨bg, _, rfl, hbg, hx⟩ := hx.int
        obtain ⟨who, _, rfl, _, hx⟩ := hx.int
        obtain ⟨wa, r9, rfl, hx9⟩ := hx.bool
        obtain rfl := hx9.nil
        have e0 := hcell 0 (.int .i64 kind) rfl
        have e1 := hcell 1 (.int .u64 bg) rfl
        have e2 := hcell 2 (.int .i64 who) rfl
        have e3 := hcell 3 (.bool wa) rfl
        clear hcell hx hx9 hbg
        simp only [Nat.add_zero] at e0
        replace e0 := cell_kept hk e0 (fun h => h)
        replace e1 := cell_kept hk e1 (fun h => h)
        replace e2 := cell_kept hk e2 (fun h => h)
        replace e3 := cell_kept hk e3 (fun h => h)
        have hszr := hk.size
        have Hinv := Lib.hid hinv
        have hT0 : ∀ kd : Int, TRB b b2 wr.heap.size Bs L Bs L (.cells #[.int .i64 kd, .int .u64 bg, .int .i64 who, .bool wa] 27) (fun k => w.heap.size ≤ k) (wr.alloc (.cells #[.int .i64 kd, .int .u64 bg, .int .i64 who, .bool wa] 27)) := by
          intro kd
          have hf := Sep.fresh (N := BQ wr.heap.size (.cells #[.int .i64 kd, .int .u64 bg, .int .i64 who, .bool wa] 27)) (Sep.ok (TN.ok b Bs L) (RQ.ok b2 Bs L)) hS ⟨heap_alloc_new _ _, Nat.le_refl _⟩ ((Kept.refl (fun _ => False) wr).alloc (.cells #[.int .i64 kd, .int .u64 bg, .int .i64 who, .bool wa] 27)) (fun k hk => by omega)
          exact hf.turn.inr (fun O h => h.swap)
        have HT0 := Lib.hid hT0
        have hk0 : ∀ o, New w (wr.alloc o) := fun o => hk.alloc o
        have Hk0 := Lib.hid hk0
        have hL8 : L.length ≤ 1000 := by omega
        have hB8 : Bs.length ≤ 1000 := by omega
        clear hT0 hS hk hk0 hinv
        by_cases hk0 : kind = 0
        · have hkd := hk0
          clear hk0
          subst hkd
          have hT := HT0.out 0
          have hkw := Hk0.out (.cells #[.int .i64 0, .int .u64 bg, .int .i64 who, .bool wa] 27)
          clear HT0 Hk0
          obtain ⟨bt, hbt⟩ : ∃ bt, bt = b := ⟨_, rfl⟩
          subst hbt
          obtain ⟨r1, r2, r3, B2, L2, he⟩ : ∃ r1 r2 r3 B2 L2, sigE Bs L bg = ((r1, r2, r3), B2, L2) := ⟨_, _, _, _, _, rfl⟩
          obtain ⟨hl1, hl2, hl3⟩ := sigE_len he
          have hI2 := Lib.hid (hl3 Hinv.out)
          have hB2l : B2.length ≤ j + 1 := by omega
          have hL2l : L2.length ≤ j + 1 := by omega
          have He := Lib.hid he
          clear he hl1 hl2 hl3
          have hbx := TRB.box hT
          have x0 := cell_blk hbx 0
          have x1 := cell_blk hbx 1
          have x2 := cell_blk hbx 2
          have x3 := cell_blk hbx 3
          clear hbx
          obtain ⟨O1, O2, g1, g2, g3, g4⟩ := hT
          have G3 := Lib.hid g3
          have G4 := Lib.hid g4
          clear g3 g4
          go_wp2_with fail
          refine (signal_st bt Bs L B2 L2 bg r1 r2 r3 _ g1 hL8 He.out).mono ?_
          rintro e w3 ⟨rfl, hA3, hk3⟩
          obtain ⟨hT3, hk3'⟩ := TRB.one (Bs' := B2) (L' := L2) g2 G3.out G4.out hA3 hk3 hkw.size
          replace hkw := hkw.new hk3' (fun i hi => hi)
          clear g1 g2 G3 G4 hA3 hk3 hk3'
          clear x0 x1 x2 x3
          have hbx := TRB.box hT3
          have x0 := cell_blk hbx 0
          have x1 := cell_blk hbx 1
          have x2 := cell_blk hbx 2
          have x3 := cell_blk hbx 3
          clear hbx
          obtain ⟨O1, O2, g1, g2, g3, g4⟩ := Sep.turn hT3
          have G3 := Lib.hid g3
          have G4 := Lib.hid g4
          clear g3 g4
          go_wp2_with fail
          refine (rsignal_st b2 Bs L B2 L2 bg r1 r2 r3 _ g1 hL8 hB8 He.out).mono ?_
          rintro e w4 ⟨rfl, hA4, hk4⟩
          obtain ⟨hT4, hk4'⟩ := TRB.two (Bs2' := B2) (L2' := L2) g2 G3.out G4.out hA4 hk4 hkw.size
          replace hkw := hkw.new hk4' (fun i hi => hi)
          clear hT3 g1 g2 G3 G4 hA4 hk4 hk4'
          clear x0 x1 x2 x3
          have hTR : Sep (TN bt B2 L2) (RQ b2 B2 L2) (fun k => w.heap.size ≤ k) w4 := hT4.inr (fun O h => Sep.snd (RQ.ok b2 B2 L2) h.swap)
          clear hT4
          obtain ⟨wd, hwd⟩ : ∃ wd, wd = orAll B2 := ⟨_, rfl⟩
          have Hwd := Lib.hid hwd
          clear hwd
          obtain ⟨O1, O2, g1, g2, g3, g4⟩ := hTR
          have G3 := Lib.hid g3
          have G4 := Lib.hid g4
          clear g3 g4
          by_cases hB0 : 0 < B2.length
          · have hd : decide (0 < B2.length) = true := decide_eq_true hB0
            have hL0 : L2 = [] := hI2.out.resolve_left (by intro e; rw [e] at hB0; simp at hB0)
            have g1' : Nt O1 w4 bt wd true L2 := by have := g1; unfold TN at this; rwa [hd, ← Hwd.out] at this
            have hm0 : L2.length = 0 := by rw [hL0]; rfl
            have Hd := Lib.hid hd.symm
            clear hd hL0 hB0
            go_wp2_with fail
            refine (word_any bt wd true L2 w4 g1').mono ?_
            rintro e w5 ⟨rfl, hk5⟩
            have g15 := Nt.same g1' hk5
            have g25 := Rn.same g2 hk5
            replace hkw := hkw.trans hk5
            clear g1 g2 g1' hk5
            go_wp2_with fail
            refine (rword_any b2 B2 L2 wd true w5 g25 (by omega) Hwd.out Hd.out).mono ?_
            rintro e w6 ⟨rfl, hk6⟩
            have g16 := Nt.same g15 hk6
            have g26 := Rn.same g25 hk6
            replace hkw := hkw.trans hk6
            clear g15 g25 hk6
            go_wp2_with fail
            refine (waits_any bt wd true L2 w6 g16 (by omega)).mono ?_
            rintro e w7 ⟨v7, rfl, hown7, hk7⟩
            have g17 : TN bt B2 L2 O1 w7 := by unfold TN; rw [← Hd.out, ← Hwd.out]; exact Nt.same g16 hk7
            have g27 := Rn.same g26 hk7
            have hS6 : Sep (TN bt B2 L2) (RQ b2 B2 L2) (fun k => w.heap.size ≤ k) w6 := ⟨O1, O2, (by unfold TN; rw [← Hd.out, ← Hwd.out]; exact g16), g26, G3.out, G4.out⟩
            obtain ⟨ao7, c7, hv7, -⟩ := Src.of_own hown7
            subst hv7
            have hC7 : Sep (CP ao7 L2.length) (Sep (TN bt B2 L2) (RQ b2 B2 L2)) (fun k => w.heap.size ≤ k) w7 :=
              Sep.fresh (Sep.ok (TN.ok _ _ _) (RQ.ok _ _ _)) hS6 (CP.of_own hown7) hk7 (fun k hk => Nat.le_trans hkw.size hk)
            replace hkw := hkw.trans hk7
            obtain ⟨ao8, c8, bo8, d8, hb8, -, hown8, -⟩ := Rn.cells g27
            have z4 := cell_blk hb8 1
            have hsame := nums_any (.slice ao7 L2.length c7) (.slice ao8 L2.length c8) L2.length L2 w7 (Src.of_own hown7) (Src.of_own hown8) (by omega)
            have Hsame := Lib.hid hsame
            obtain ⟨m2, hm2⟩ : ∃ m2, m2 = L2.length := ⟨_, rfl⟩
            have Hm2 := Lib.hid hm2
            have hm2b : m2 ≤ 81 := by omega
            rw [← hm2] at Hsame z4 hC7 hm0 ⊢
            have hm0i : ¬ (0 : Int) < m2 := by omega
            have hm0n : ¬ 0 < m2 := by omega
            clear hm0
            clear hm2 hsame hown7 hown8 hS6 hb8 g16 g26 g17 g27 hk7
            go_wp2_with fail
            refine Hsame.out.mono ?_
            rintro e w8 ⟨rfl, qd, rfl⟩
            have hC8 : Sep (CP ao7 m2) (Sep (TN bt B2 L2) (RQ b2 B2 L2)) (fun k => w.heap.size ≤ k) (w7.drewN qd) :=
              (Sep.ok (CP.ok _ _) (Sep.ok (TN.ok _ _ _) (RQ.ok _ _ _))).kept hC7 ((Kept.refl (fun _ => False) w7).drewN qd) (fun _ _ h => h)
            have hk8 := hkw.drewN qd
            clear z4 hC7 Hsame
            go_wp2_with fail
            go_loopw [26] (fun s wi => ∃ r : Nat, r ≤ m2 ∧ s = .int .i64 r ∧ Sep (CP ao7 m2) (Sep (TN bt B2 L2) (RQ b2 B2 L2)) (fun k => w.heap.size ≤ k) wi ∧ New w wi) (fun s _ => m2 - (intOf s).toNat)
            case atStart => exact ⟨0, by omega, rfl, hC8, hk8⟩
            case round =>
              clear hC8 hk8
              obtain ⟨r, hrm, rfl, hCr, hkr⟩ := hrel
              by_cases hrl : r < m2
              · exfalso; omega
              · go_wp2_with fail
                go_roundw
                case rel => exact ⟨j + 1, bt, B2, L2, by omega, by omega, rfl, by go_num, hB2l, hL2l, hI2.out, Sep.snd (Sep.ok (TN.ok bt B2 L2) (RQ.ok b2 B2 L2)) hCr, hkr⟩
                case measure => simp [intOf]; omega
          · have hd : decide (0 < B2.length) = false := decide_eq_false hB0
            have g1' : Nt O1 w4 bt wd false L2 := by have := g1; unfold TN at this; rwa [hd, ← Hwd.out] at this
            have hm0 : L2.length ≤ 1000 := by omega
            have Hd := Lib.hid hd.symm
            clear hd hB0
            go_wp2_with fail
            refine (word_any bt wd false L2 w4 g1').mono ?_
            rintro e w5 ⟨rfl, hk5⟩
            have g15 := Nt.same g1' hk5
            have g25 := Rn.same g2 hk5
            replace hkw := hkw.trans hk5
            clear g1 g2 g1' hk5
            go_wp2_with fail
            refine (rword_any b2 B2 L2 wd false w5 g25 (by omega) Hwd.out Hd.out).mono ?_
            rintro e w6 ⟨rfl, hk6⟩
            have g16 := Nt.same g15 hk6
            have g26 := Rn.same g25 hk6
            replace hkw := hkw.trans hk6
            clear g15 g25 hk6
            go_wp2_with fail
            refine (waits_any bt wd false L2 w6 g16 (by omega)).mono ?_
            rintro e w7 ⟨v7, rfl, hown7, hk7⟩
            have g17 : TN bt B2 L2 O1 w7 := by unfold TN; rw [← Hd.out, ← Hwd.out]; exact Nt.same g16 hk7
            have g27 := Rn.same g26 hk7
            have hS6 : Sep (TN bt B2 L2) (RQ b2 B2 L2) (fun k => w.heap.size ≤ k) w6 := ⟨O1, O2, (by unfold TN; rw [← Hd.out, ← Hwd.out]; exact g16), g26, G3.out, G4.out⟩
            obtain ⟨ao7, c7, hv7, -⟩ := Src.of_own hown7
            subst hv7
            have hC7 : Sep (CP ao7 L2.length) (Sep (TN bt B2 L2) (RQ b2 B2 L2)) (fun k => w.heap.size ≤ k) w7 :=
              Sep.fresh (Sep.ok (TN.ok _ _ _) (RQ.ok _ _ _)) hS6 (CP.of_own hown7) hk7 (fun k hk => Nat.le_trans hkw.size hk)
            replace hkw := hkw.trans hk7
            obtain ⟨ao8, c8, bo8, d8, hb8, -, hown8, -⟩ := Rn.cells g27
            have z4 := cell_blk hb8 1
            have hsame := nums_any (.slice ao7 L2.length c7) (.slice ao8 L2.length c8) L2.length L2 w7 (Src.of_own hown7) (Src.of_own hown8) (by omega)
            have Hsame := Lib.hid hsame
            obtain ⟨m2, hm2⟩ : ∃ m2, m2 = L2.length := ⟨_, rfl⟩
            have Hm2 := Lib.hid hm2
            have hm2b : m2 ≤ 81 := by omega
            rw [← hm2] at Hsame z4 hC7 hm0 ⊢
            clear hm0
            clear hm2 hsame hown7 hown8 hS6 hb8 g16 g26 g17 g27 hk7
            go_wp2_with fail
            refine Hsame.out.mono ?_
            rintro e w8 ⟨rfl, qd, rfl⟩
            have hC8 : Sep (CP ao7 m2) (Sep (TN bt B2 L2) (RQ b2 B2 L2)) (fun k => w.heap.size ≤ k) (w7.drewN qd) :=
              (Sep.ok (CP.ok _ _) (Sep.ok (TN.ok _ _ _) (RQ.ok _ _ _))).kept hC7 ((Kept.refl (fun _ => False) w7).drewN qd) (fun _ _ h => h)
            have hk8 := hkw.drewN qd
            clear z4 hC7 Hsame
            go_wp2_with fail
            go_loopw [26] (fun s wi => ∃ r : Nat, r ≤ m2 ∧ s = .int .i64 r ∧ Sep (CP ao7 m2) (Sep (TN bt B2 L2) (RQ b2 B2 L2)) (fun k => w.heap.size ≤ k) wi ∧ New w wi) (fun s _ => m2 - (intOf s).toNat)
            case atStart => exact ⟨0, by omega, rfl, hC8, hk8⟩
            case round =>
              clear hC8 hk8
              obtain ⟨r, hrm, rfl, hCr, hkr⟩ := hrel
              by_cases hrl : r < m2
              · obtain ⟨O5, O6, p1, p2, p3, p4⟩ := hCr
                obtain ⟨g9, cs, rfl, hgc, hcs, hOg⟩ := p1 (by omega)
                have P2 := Lib.hid p2
                have P3 := Lib.hid p3
                have P4 := Lib.hid p4
                obtain ⟨u, hu⟩ : ∃ u, cs[r]? = some u := ⟨_, Array.getElem?_eq_getElem (by omega)⟩
                have hcu : wr.cell? ⟨g9, r, none⟩ = some u := by rw [cell_blk hgc r]; exact hu
                have hfu := free_blk hgc r
                have hgc9 := heap_setCell_same wr g9 r cs 3 (.int .i64 99) hgc
                have hks : Kept O5 wr (wr.setCell ⟨g9, r, none⟩ (.int .i64 99)) := (Kept.refl O5 wr).setCell (.inr hOg) _
                have hst := Sep.step (P' := CP (some ⟨g9, 0, none⟩) m2) (Sep.ok (TN.ok bt B2 L2) (RQ.ok b2 B2 L2)) P2.out P3.out P4.out (fun _ => ⟨g9, _, rfl, hgc9, by simpa using hcs, .inl hOg⟩) hks (fun k hk => Nat.le_trans hkr.size hk)
                have hk9 := hkr.new hst.2 (fun i hi => hi)
                have Hst := Lib.hid hst.1
                clear p1 p2 p3 p4 hst hks hgc9 hgc hu P2 P3 P4 hkr
                go_wp2_with fail
                go_roundw
                case rel => exact ⟨r + 1, by omega, by go_num, Hst.out, hk9⟩
                case measure => simp [intOf]; omega
              · go_wp2_with fail
                go_roundw
                case rel => exact ⟨j + 1, bt, B2, L2, by omega, by omega, rfl, by go_num, hB2l, hL2l, hI2.out, Sep.snd (Sep.ok (TN.ok bt B2 L2) (RQ.ok b2 B2 L2)) hCr, hkr⟩
                case measure => simp [intOf]; omega
        have hk0b : (kind == 0) = false := by simpa using hk0
        by_cases hk1 : kind = 1
        · have hkd := hk1
          clear hk1
          subst hkd
          have hT := HT0.out 1
          have hkw := Hk0.out (.cells #[.int .i64 1, .int .u64 bg, .int .i64 who, .bool wa] 27)
          clear HT0 Hk0
          obtain ⟨bt, hbt⟩ : ∃ bt, bt = b := ⟨_, rfl⟩
          subst hbt
          obtain ⟨r1, r2, r3, B2, L2, he⟩ : ∃ r1 r2 r3 B2 L2, waitE Bs L who wa = ((r1, r2, r3), B2, L2) := ⟨_, _, _, _, _, rfl⟩
          obtain ⟨hl1, hl2, hl3⟩ := waitE_len he
          have hI2 := Lib.hid (hl3 Hinv.out)
          have hB2l : B2.length ≤ j + 1 := by omega
          have hL2l : L2.length ≤ j + 1 := by omega
          have He := Lib.hid he
          clear he hl1 hl2 hl3
          have hbx := TRB.box hT
          have x0 := cell_blk hbx 0
          have x1 := cell_blk hbx 1
          have x2 := cell_blk hbx 2
          have x3 := cell_blk hbx 3
          clear hbx
          obtain ⟨O1, O2, g1, g2, g3, g4⟩ := hT
          have G3 := Lib.hid g3
          have G4 := Lib.hid g4
          clear g3 g4
          go_wp2_with fail
          refine (wait_st bt Bs L B2 L2 who r1 r3 r2 wa _ g1 hL8 He.out).mono ?_
          rintro e w3 ⟨rfl, hA3, hk3⟩
          obtain ⟨hT3, hk3'⟩ := TRB.one (Bs' := B2) (L' := L2) g2 G3.out G4.out hA3 hk3 hkw.size
          replace hkw := hkw.new hk3' (fun i hi => hi)
          clear g1 g2 G3 G4 hA3 hk3 hk3'
          clear x0 x1 x2 x3
          have hbx := TRB.box hT3
          have x0 := cell_blk hbx 0
          have x1 := cell_blk hbx 1
          have x2 := cell_blk hbx 2
          have x3 := cell_blk hbx 3
          clear hbx
          obtain ⟨O1, O2, g1, g2, g3, g4⟩ := Sep.turn hT3
          have G3 := Lib.hid g3
          have G4 := Lib.hid g4
          clear g3 g4
          go_wp2_with fail
          refine (rwait_st b2 Bs L B2 L2 who r1 r3 r2 wa _ g1 hL8 hB8 He.out).mono ?_
          rintro e w4 ⟨rfl, hA4, hk4⟩
          obtain ⟨hT4, hk4'⟩ := TRB.two (Bs2' := B2) (L2' := L2) g2 G3.out G4.out hA4 hk4 hkw.size
          replace hkw := hkw.new hk4' (fun i hi => hi)
          clear hT3 g1 g2 G3 G4 hA4 hk4 hk4'
          clear x0 x1 x2 x3
          have hTR : Sep (TN bt B2 L2) (RQ b2 B2 L2) (fun k => w.heap.size ≤ k) w4 := hT4.inr (fun O h => Sep.snd (RQ.ok b2 B2 L2) h.swap)
          clear hT4
          obtain ⟨wd, hwd⟩ : ∃ wd, wd = orAll B2 := ⟨_, rfl⟩
          have Hwd := Lib.hid hwd
          clear hwd
          obtain ⟨O1, O2, g1, g2, g3, g4⟩ := hTR
          have G3 := Lib.hid g3
          have G4 := Lib.hid g4
          clear g3 g4
          by_cases hB0 : 0 < B2.length
          · have hd : decide (0 < B2.length) = true := decide_eq_true hB0
            have hL0 : L2 = [] := hI2.out.resolve_left (by intro e; rw [e] at hB0; simp at hB0)
            have g1' : Nt O1 w4 bt wd true L2 := by have := g1; unfold TN at this; rwa [hd, ← Hwd.out] at this
            have hm0 : L2.length = 0 := by rw [hL0]; rfl
            have Hd := Lib.hid hd.symm
            clear hd hL0 hB0
            go_wp2_with fail
            refine (word_any bt wd true L2 w4 g1').mono ?_
            rintro e w5 ⟨rfl, hk5⟩
            have g15 := Nt.same g1' hk5
            have g25 := Rn.same g2 hk5
            replace hkw := hkw.trans hk5
            clear g1 g2 g1' hk5
            go_wp2_with fail
            refine (rword_any b2 B2 L2 wd true w5 g25 (by omega) Hwd.out Hd.out).mono ?_
            rintro e w6 ⟨rfl, hk6⟩
            have g16 := Nt.same g15 hk6
            have g26 := Rn.same g25 hk6
            replace hkw := hkw.trans hk6
            clear g15 g25 hk6
            go_wp2_with fail
            refine (waits_any bt wd true L2 w6 g16 (by omega)).mono ?_
            rintro e w7 ⟨v7, rfl, hown7, hk7⟩
            have g17 : TN bt B2 L2 O1 w7 := by unfold TN; rw [← Hd.out, ← Hwd.out]; exact Nt.same g16 hk7
            have g27 := Rn.same g26 hk7
            have hS6 : Sep (TN bt B2 L2) (RQ b2 B2 L2) (fun k => w.heap.size ≤ k) w6 := ⟨O1, O2, (by unfold TN; rw [← Hd.out, ← Hwd.out]; exact g16), g26, G3.out, G4.out⟩
            obtain ⟨ao7, c7, hv7, -⟩ := Src.of_own hown7
            subst hv7
            have hC7 : Sep (CP ao7 L2.length) (Sep (TN bt B2 L2) (RQ b2 B2 L2)) (fun k => w.heap.size ≤ k) w7 :=
              Sep.fresh (Sep.ok (TN.ok _ _ _) (RQ.ok _ _ _)) hS6 (CP.of_own hown7) hk7 (fun k hk => Nat.le_trans hkw.size hk)
            replace hkw := hkw.trans hk7
            obtain ⟨ao8, c8, bo8, d8, hb8, -, hown8, -⟩ := Rn.cells g27
            have z4 := cell_blk hb8 1
            have hsame := nums_any (.slice ao7 L2.length c7) (.slice ao8 L2.length c8) L2.length L2 w7 (Src.of_own hown7) (Src.of_own hown8) (by omega)
            have Hsame := Lib.hid hsame
            obtain ⟨m2, hm2⟩ : ∃ m2, m2 = L2.length := ⟨_, rfl⟩
            have Hm2 := Lib.hid hm2
            have hm2b : m2 ≤ 81 := by omega
            rw [← hm2] at Hsame z4 hC7 hm0 ⊢
            have hm0i : ¬ (0 : Int) < m2 := by omega
            have hm0n : ¬ 0 < m2 := by omega
            clear hm0
            clear hm2 hsame hown7 hown8 hS6 hb8 g16 g26 g17 g27 hk7
            go_wp2_with fail
            refine Hsame.out.mono ?_
            rintro e w8 ⟨rfl, qd, rfl⟩
            have hC8 : Sep (CP ao7 m2) (Sep (TN bt B2 L2) (RQ b2 B2 L2)) (fun k => w.heap.size ≤ k) (w7.drewN qd) :=
              (Sep.ok (CP.ok _ _) (Sep.ok (TN.ok _ _ _) (RQ.ok _ _ _))).kept hC7 ((Kept.refl (fun _ => False) w7).drewN qd) (fun _ _ h => h)
            have hk8 := hkw.drewN qd
            clear z4 hC7 Hsame
            go_wp2_with fail
            go_loopw [26] (fun s wi => ∃ r : Nat, r ≤ m2 ∧ s = .int .i64 r ∧ Sep (CP ao7 m2) (Sep (TN bt B2 L2) (RQ b2 B2 L2)) (fun k => w.heap.size ≤ k) wi ∧ New w wi) (fun s _ => m2 - (intOf s).toNat)
            case atStart => exact ⟨0, by omega, rfl, hC8, hk8⟩
            case round =>
              clear hC8 hk8
              obtain ⟨r, hrm, rfl, hCr, hkr⟩ := hrel
              by_cases hrl : r < m2
              · exfalso; omega
              · go_wp2_with fail
                go_roundw
                case rel => exact ⟨j + 1, bt, B2, L2, by omega, by omega, rfl, by go_num, hB2l, hL2l, hI2.out, Sep.snd (Sep.ok (TN.ok bt B2 L2) (RQ.ok b2 B2 L2)) hCr, hkr⟩
                case measure => simp [intOf]; omega
          · have hd : decide (0 < B2.length) = false := decide_eq_false hB0
            have g1' : Nt O1 w4 bt wd false L2 := by have := g1; unfold TN at this; rwa [hd, ← Hwd.out] at this
            have hm0 : L2.length ≤ 1000 := by omega
            have Hd := Lib.hid hd.symm
            clear hd hB0
            go_wp2_with fail
            refine (word_any bt wd false L2 w4 g1').mono ?_
            rintro e w5 ⟨rfl, hk5⟩
            have g15 := Nt.same g1' hk5
            have g25 := Rn.same g2 hk5
            replace hkw := hkw.trans hk5
            clear g1 g2 g1' hk5
            go_wp2_with fail
            refine (rword_any b2 B2 L2 wd false w5 g25 (by omega) Hwd.out Hd.out).mono ?_
            rintro e w6 ⟨rfl, hk6⟩
            have g16 := Nt.same g15 hk6
            have g26 := Rn.same g25 hk6
            replace hkw := hkw.trans hk6
            clear g15 g25 hk6
            go_wp2_with fail
            refine (waits_any bt wd false L2 w6 g16 (by omega)).mono ?_
            rintro e w7 ⟨v7, rfl, hown7, hk7⟩
            have g17 : TN bt B2 L2 O1 w7 := by unfold TN; rw [← Hd.out, ← Hwd.out]; exact Nt.same g16 hk7
            have g27 := Rn.same g26 hk7
            have hS6 : Sep (TN bt B2 L2) (RQ b2 B2 L2) (fun k => w.heap.size ≤ k) w6 := ⟨O1, O2, (by unfold TN; rw [← Hd.out, ← Hwd.out]; exact g16), g26, G3.out, G4.out⟩
            obtain ⟨ao7, c7, hv7, -⟩ := Src.of_own hown7
            subst hv7
            have hC7 : Sep (CP ao7 L2.length) (Sep (TN bt B2 L2) (RQ b2 B2 L2)) (fun k => w.heap.size ≤ k) w7 :=
              Sep.fresh (Sep.ok (TN.ok _ _ _) (RQ.ok _ _ _)) hS6 (CP.of_own hown7) hk7 (fun k hk => Nat.le_trans hkw.size hk)
            replace hkw := hkw.trans hk7
            obtain ⟨ao8, c8, bo8, d8, hb8, -, hown8, -⟩ := Rn.cells g27
            have z4 := cell_blk hb8 1
            have hsame := nums_any (.slice ao7 L2.length c7) (.slice ao8 L2.length c8) L2.length L2 w7 (Src.of_own hown7) (Src.of_own hown8) (by omega)
            have Hsame := Lib.hid hsame
            obtain ⟨m2, hm2⟩ : ∃ m2, m2 = L2.length := ⟨_, rfl⟩
            have Hm2 := Lib.hid hm2
            have hm2b : m2 ≤ 81 := by omega
            rw [← hm2] at Hsame z4 hC7 hm0 ⊢
            clear hm0
            clear hm2 hsame hown7 hown8 hS6 hb8 g16 g26 g17 g27 hk7
            go_wp2_with fail
            refine Hsame.out.mono ?_
            rintro e w8 ⟨rfl, qd, rfl⟩
            have hC8 : Sep (CP ao7 m2) (Sep (TN bt B2 L2) (RQ b2 B2 L2)) (fun k => w.heap.size ≤ k) (w7.drewN qd) :=
              (Sep.ok (CP.ok _ _) (Sep.ok (TN.ok _ _ _) (RQ.ok _ _ _))).kept hC7 ((Kept.refl (fun _ => False) w7).drewN qd) (fun _ _ h => h)
            have hk8 := hkw.drewN qd
            clear z4 hC7 Hsame
            go_wp2_with fail
            go_loopw [26] (fun s wi => ∃ r : Nat, r ≤ m2 ∧ s = .int .i64 r ∧ Sep (CP ao7 m2) (Sep (TN bt B2 L2) (RQ b2 B2 L2)) (fun k => w.heap.size ≤ k) wi ∧ New w wi) (fun s _ => m2 - (intOf s).toNat)
            case atStart => exact ⟨0, by omega, rfl, hC8, hk8⟩
            case round =>
              clear hC8 hk8
              obtain ⟨r, hrm, rfl, hCr, hkr⟩ := hrel
              by_cases hrl : r < m2
              · obtain ⟨O5, O6, p1, p2, p3, p4⟩ := hCr
                obtain ⟨g9, cs, rfl, hgc, hcs, hOg⟩ := p1 (by omega)
                have P2 := Lib.hid p2
                have P3 := Lib.hid p3
                have P4 := Lib.hid p4
                obtain ⟨u, hu⟩ : ∃ u, cs[r]? = some u := ⟨_, Array.getElem?_eq_getElem (by omega)⟩
                have hcu : wr.cell? ⟨g9, r, none⟩ = some u := by rw [cell_blk hgc r]; exact hu
                have hfu := free_blk hgc r
                have hgc9 := heap_setCell_same wr g9 r cs 3 (.int .i64 99) hgc
                have hks : Kept O5 wr (wr.setCell ⟨g9, r, none⟩ (.int .i64 99)) := (Kept.refl O5 wr).setCell (.inr hOg) _
                have hst := Sep.step (P' := CP (some ⟨g9, 0, none⟩) m2) (Sep.ok (TN.ok bt B2 L2) (RQ.ok b2 B2 L2)) P2.out P3.out P4.out (fun _ => ⟨g9, _, rfl, hgc9, by simpa using hcs, .inl hOg⟩) hks (fun k hk => Nat.le_trans hkr.size hk)
                have hk9 := hkr.new hst.2 (fun i hi => hi)
                have Hst := Lib.hid hst.1
                clear p1 p2 p3 p4 hst hks hgc9 hgc hu P2 P3 P4 hkr
                go_wp2_with fail
                go_roundw
                case rel => exact ⟨r + 1, by omega, by go_num, Hst.out, hk9⟩
                case measure => simp [intOf]; omega
              · go_wp2_with fail
                go_roundw
                case rel => exact ⟨j + 1, bt, B2, L2, by omega, by omega, rfl, by go_num, hB2l, hL2l, hI2.out, Sep.snd (Sep.ok (TN.ok bt B2 L2) (RQ.ok b2 B2 L2)) hCr, hkr⟩
                case measure => simp [intOf]; omega
        have hk1b : (kind == 1) = false := by simpa using hk1
        by_cases hk2 : kind = 2
        · have hkd := hk2
          clear hk2
          subst hkd
          have hT := HT0.out 2
          have hkw := Hk0.out (.cells #[.int .i64 2, .int .u64 bg, .int .i64 who, .bool wa] 27)
          clear HT0 Hk0
          obtain ⟨bt, hbt⟩ : ∃ bt, bt = b := ⟨_, rfl⟩
          subst hbt
          obtain ⟨L2, hM⟩ : ∃ M, L.filter (fun y => !(y == who)) = M := ⟨_, rfl⟩
          have hMl : L2.length ≤ L.length := by rw [← hM]; exact List.length_filter_le _ _
          obtain ⟨rc, hrc⟩ : ∃ rc, rc = decide (L2.length < L.length) := ⟨_, rfl⟩
          have Hrc := Lib.hid hrc
          obtain ⟨B2, hB2⟩ : ∃ B2, B2 = Bs := ⟨_, rfl⟩
          subst hB2
          have hI2 : Hid (B2 = [] ∨ L2 = []) := Hinv.out.imp id (fun h => by rw [← hM, h]; rfl)
          have hB2l : B2.length ≤ j + 1 := by omega
          have hL2l : L2.length ≤ j + 1 := by omega
          have HM := Lib.hid hM
          clear hM hrc
          have hbx := TRB.box hT
          have x0 := cell_blk hbx 0
          have x1 := cell_blk hbx 1
          have x2 := cell_blk hbx 2
          have x3 := cell_blk hbx 3
          clear hbx
          obtain ⟨O1, O2, g1, g2, g3, g4⟩ := hT
          have G3 := Lib.hid g3
          have G4 := Lib.hid g4
          clear g3 g4
          go_wp2_with fail
          refine (cancel_any bt _ _ L L2 who rc _ g1 hL8 HM.out Hrc.out).mono ?_
          rintro e w3 ⟨rfl, hA3, hk3⟩
          obtain ⟨hT3, hk3'⟩ := TRB.one (Bs' := B2) (L' := L2) g2 G3.out G4.out (Nt.mono hA3 (fun _ h => .inl h)) hk3 hkw.size
          replace hkw := hkw.new hk3' (fun i hi => hi)
          clear g1 g2 G3 G4 hA3 hk3 hk3'
          clear x0 x1 x2 x3
          have hbx := TRB.box hT3
          have x0 := cell_blk hbx 0
          have x1 := cell_blk hbx 1
          have x2 := cell_blk hbx 2
          have x3 := cell_blk hbx 3
          clear hbx
          obtain ⟨O1, O2, g1, g2, g3, g4⟩ := Sep.turn hT3
          have G3 := Lib.hid g3
          have G4 := Lib.hid g4
          clear g3 g4
          go_wp2_with fail
          refine (rcancel_any b2 B2 L L2 who rc _ g1 hL8 HM.out Hrc.out).mono ?_
          rintro e w4 ⟨rfl, hA4, hk4⟩
          obtain ⟨hT4, hk4'⟩ := TRB.two (Bs2' := B2) (L2' := L2) g2 G3.out G4.out hA4 hk4 hkw.size
          replace hkw := hkw.new hk4' (fun i hi => hi)
          clear hT3 g1 g2 G3 G4 hA4 hk4 hk4'
          clear x0 x1 x2 x3
          have hTR : Sep (TN bt B2 L2) (RQ b2 B2 L2) (fun k => w.heap.size ≤ k) w4 := hT4.inr (fun O h => Sep.snd (RQ.ok b2 B2 L2) h.swap)
          clear hT4
          obtain ⟨wd, hwd⟩ : ∃ wd, wd = orAll B2 := ⟨_, rfl⟩
          have Hwd := Lib.hid hwd
          clear hwd
          obtain ⟨O1, O2, g1, g2, g3, g4⟩ := hTR
          have G3 := Lib.hid g3
          have G4 := Lib.hid g4
          clear g3 g4
          by_cases hB0 : 0 < B2.length
          · have hd : decide (0 < B2.length) = true := decide_eq_true hB0
            have hL0 : L2 = [] := hI2.out.resolve_left (by intro e; rw [e] at hB0; simp at hB0)
            have g1' : Nt O1 w4 bt wd true L2 := by have := g1; unfold TN at this; rwa [hd, ← Hwd.out] at this
            have hm0 : L2.length = 0 := by rw [hL0]; rfl
            have Hd := Lib.hid hd.symm
            clear hd hL0 hB0
            go_wp2_with fail
            refine (word_any bt wd true L2 w4 g1').mono ?_
            rintro e w5 ⟨rfl, hk5⟩
            have g15 := Nt.same g1' hk5
            have g25 := Rn.same g2 hk5
            replace hkw := hkw.trans hk5
            clear g1 g2 g1' hk5
            go_wp2_with fail
            refine (rword_any b2 B2 L2 wd true w5 g25 (by omega) Hwd.out Hd.out).mono ?_
            rintro e w6 ⟨rfl, hk6⟩
            have g16 := Nt.same g15 hk6
            have g26 := Rn.same g25 hk6
            replace hkw := hkw.trans hk6
            clear g15 g25 hk6
            go_wp2_with fail
            refine (waits_any bt wd true L2 w6 g16 (by omega)).mono ?_
            rintro e w7 ⟨v7, rfl, hown7, hk7⟩
            have g17 : TN bt B2 L2 O1 w7 := by unfold TN; rw [← Hd.out, ← Hwd.out]; exact Nt.same g16 hk7
            have g27 := Rn.same g26 hk7
            have hS6 : Sep (TN bt B2 L2) (RQ b2 B2 L2) (fun k => w.heap.size ≤ k) w6 := ⟨O1, O2, (by unfold TN; rw [← Hd.out, ← Hwd.out]; exact g16), g26, G3.out, G4.out⟩
            obtain ⟨ao7, c7, hv7, -⟩ := Src.of_own hown7
            subst hv7
            have hC7 : Sep (CP ao7 L2.length) (Sep (TN bt B2 L2) (RQ b2 B2 L2)) (fun k => w.heap.size ≤ k) w7 :=
              Sep.fresh (Sep.ok (TN.ok _ _ _) (RQ.ok _ _ _)) hS6 (CP.of_own hown7) hk7 (fun k hk => Nat.le_trans hkw.size hk)
            replace hkw := hkw.trans hk7
            obtain ⟨ao8, c8, bo8, d8, hb8, -, hown8, -⟩ := Rn.cells g27
            have z4 := cell_blk hb8 1
            have hsame := nums_any (.slice ao7 L2.length c7) (.slice ao8 L2.length c8) L2.length L2 w7 (Src.of_own hown7) (Src.of_own hown8) (by omega)
            have Hsame := Lib.hid hsame
            obtain ⟨m2, hm2⟩ : ∃ m2, m2 = L2.length := ⟨_, rfl⟩
            have Hm2 := Lib.hid hm2
            have hm2b : m2 ≤ 81 := by omega
            rw [← hm2] at Hsame z4 hC7 hm0 ⊢
            have hm0i : ¬ (0 : Int) < m2 := by omega
            have hm0n : ¬ 0 < m2 := by omega
            clear hm0
            clear hm2 hsame hown7 hown8 hS6 hb8 g16 g26 g17 g27 hk7
            go_wp2_with fail
            refine Hsame.out.mono ?_
            rintro e w8 ⟨rfl, qd, rfl⟩
            have hC8 : Sep (CP ao7 m2) (Sep (TN bt B2 L2) (RQ b2 B2 L2)) (fun k => w.heap.size ≤ k) (w7.drewN qd) :=
              (Sep.ok (CP.ok _ _) (Sep.ok (TN.ok _ _ _) (RQ.ok _ _ _))).kept hC7 ((Kept.refl (fun _ => False) w7).drewN qd) (fun _ _ h => h)
            have hk8 := hkw.drewN qd
            clear z4 hC7 Hsame
            go_wp2_with fail
            go_loopw [26] (fun s wi => ∃ r : Nat, r ≤ m2 ∧ s = .int .i64 r ∧ Sep (CP ao7 m2) (Sep (TN bt B2 L2) (RQ b2 B2 L2)) (fun k => w.heap.size ≤ k) wi ∧ New w wi) (fun s _ => m2 - (intOf s).toNat)
            case atStart => exact ⟨0, by omega, rfl, hC8, hk8⟩
            case round =>
              clear hC8 hk8
              obtain ⟨r, hrm, rfl, hCr, hkr⟩ := hrel
              by_cases hrl : r < m2
              · exfalso; omega
              · go_wp2_with fail
                go_roundw
                case rel => exact ⟨j + 1, bt, B2, L2, by omega, by omega, rfl, by go_num, hB2l, hL2l, hI2.out, Sep.snd (Sep.ok (TN.ok bt B2 L2) (RQ.ok b2 B2 L2)) hCr, hkr⟩
                case measure => simp [intOf]; omega
          · have hd : decide (0 < B2.length) = false := decide_eq_false hB0
            have g1' : Nt O1 w4 bt wd false L2 := by have := g1; unfold TN at this; rwa [hd, ← Hwd.out] at this
            have hm0 : L2.length ≤ 1000 := by omega
            have Hd := Lib.hid hd.symm
            clear hd hB0
            go_wp2_with fail
            refine (word_any bt wd false L2 w4 g1').mono ?_
            rintro e w5 ⟨rfl, hk5⟩
            have g15 := Nt.same g1' hk5
            have g25 := Rn.same g2 hk5
            replace hkw := hkw.trans hk5
            clear g1 g2 g1' hk5
            go_wp2_with fail
            refine (rword_any b2 B2 L2 wd false w5 g25 (by omega) Hwd.out Hd.out).mono ?_
            rintro e w6 ⟨rfl, hk6⟩
            have g16 := Nt.same g15 hk6
            have g26 := Rn.same g25 hk6
            replace hkw := hkw.trans hk6
            clear g15 g25 hk6
            go_wp2_with fail
            refine (waits_any bt wd false L2 w6 g16 (by omega)).mono ?_
            rintro e w7 ⟨v7, rfl, hown7, hk7⟩
            have g17 : TN bt B2 L2 O1 w7 := by unfold TN; rw [← Hd.out, ← Hwd.out]; exact Nt.same g16 hk7
            have g27 := Rn.same g26 hk7
            have hS6 : Sep (TN bt B2 L2) (RQ b2 B2 L2) (fun k => w.heap.size ≤ k) w6 := ⟨O1, O2, (by unfold TN; rw [← Hd.out, ← Hwd.out]; exact g16), g26, G3.out, G4.out⟩
            obtain ⟨ao7, c7, hv7, -⟩ := Src.of_own hown7
            subst hv7
            have hC7 : Sep (CP ao7 L2.length) (Sep (TN bt B2 L2) (RQ b2 B2 L2)) (fun k => w.heap.size ≤ k) w7 :=
              Sep.fresh (Sep.ok (TN.ok _ _ _) (RQ.ok _ _ _)) hS6 (CP.of_own hown7) hk7 (fun k hk => Nat.le_trans hkw.size hk)
            replace hkw := hkw.trans hk7
            obtain ⟨ao8, c8, bo8, d8, hb8, -, hown8, -⟩ := Rn.cells g27
            have z4 := cell_blk hb8 1
            have hsame := nums_any (.slice ao7 L2.length c7) (.slice ao8 L2.length c8) L2.length L2 w7 (Src.of_own hown7) (Src.of_own hown8) (by omega)
            have Hsame := Lib.hid hsame
            obtain ⟨m2, hm2⟩ : ∃ m2, m2 = L2.length := ⟨_, rfl⟩
            have Hm2 := Lib.hid hm2
            have hm2b : m2 ≤ 81 := by omega
            rw [← hm2] at Hsame z4 hC7 hm0 ⊢
            clear hm0
            clear hm2 hsame hown7 hown8 hS6 hb8 g16 g26 g17 g27 hk7
            go_wp2_with fail
            refine Hsame.out.mono ?_
            rintro e w8 ⟨rfl, qd, rfl⟩
            have hC8 : Sep (CP ao7 m2) (Sep (TN bt B2 L2) (RQ b2 B2 L2)) (fun k => w.heap.size ≤ k) (w7.drewN qd) :=
              (Sep.ok (CP.ok _ _) (Sep.ok (TN.ok _ _ _) (RQ.ok _ _ _))).kept hC7 ((Kept.refl (fun _ => False) w7).drewN qd) (fun _ _ h => h)
            have hk8 := hkw.drewN qd
            clear z4 hC7 Hsame
            go_wp2_with fail
            go_loopw [26] (fun s wi => ∃ r : Nat, r ≤ m2 ∧ s = .int .i64 r ∧ Sep (CP ao7 m2) (Sep (TN bt B2 L2) (RQ b2 B2 L2)) (fun k => w.heap.size ≤ k) wi ∧ New w wi) (fun s _ => m2 - (intOf s).toNat)
            case atStart => exact ⟨0, by omega, rfl, hC8, hk8⟩
            case round =>
              clear hC8 hk8
              obtain ⟨r, hrm, rfl, hCr, hkr⟩ := hrel
              by_cases hrl : r < m2
              · obtain ⟨O5, O6, p1, p2, p3, p4⟩ := hCr
                obtain ⟨g9, cs, rfl, hgc, hcs, hOg⟩ := p1 (by omega)
                have P2 := Lib.hid p2
                have P3 := Lib.hid p3
                have P4 := Lib.hid p4
                obtain ⟨u, hu⟩ : ∃ u, cs[r]? = some u := ⟨_, Array.getElem?_eq_getElem (by omega)⟩
                have hcu : wr.cell? ⟨g9, r, none⟩ = some u := by rw [cell_blk hgc r]; exact hu
                have hfu := free_blk hgc r
                have hgc9 := heap_setCell_same wr g9 r cs 3 (.int .i64 99) hgc
                have hks : Kept O5 wr (wr.setCell ⟨g9, r, none⟩ (.int .i64 99)) := (Kept.refl O5 wr).setCell (.inr hOg) _
                have hst := Sep.step (P' := CP (some ⟨g9, 0, none⟩) m2) (Sep.ok (TN.ok bt B2 L2) (RQ.ok b2 B2 L2)) P2.out P3.out P4.out (fun _ => ⟨g9, _, rfl, hgc9, by simpa using hcs, .inl hOg⟩) hks (fun k hk => Nat.le_trans hkr.size hk)
                have hk9 := hkr.new hst.2 (fun i hi => hi)
                have Hst := Lib.hid hst.1
                clear p1 p2 p3 p4 hst hks hgc9 hgc hu P2 P3 P4 hkr
                go_wp2_with fail
                go_roundw
                case rel => exact ⟨r + 1, by omega, by go_num, Hst.out, hk9⟩
                case measure => simp [intOf]; omega
              · go_wp2_with fail
                go_roundw
                case rel => exact ⟨j + 1, bt, B2, L2, by omega, by omega, rfl, by go_num, hB2l, hL2l, hI2.out, Sep.snd (Sep.ok (TN.ok bt B2 L2) (RQ.ok b2 B2 L2)) hCr, hkr⟩
                case measure => simp [intOf]; omega
        have hk2b : (kind == 2) = false := by simpa using hk2
        by_cases hk3 : kind = 3
        · have hkd := hk3
          clear hk3
          subst hkd
          have hT := HT0.out 3
          have hkw := Hk0.out (.cells #[.int .i64 3, .int .u64 bg, .int .i64 who, .bool wa] 27)
          clear HT0 Hk0
          obtain ⟨L2, hL2⟩ : ∃ L2, L2 = L := ⟨_, rfl⟩
          subst hL2
          obtain ⟨B2, hB2⟩ : ∃ B2, B2 = Bs := ⟨_, rfl⟩
          subst hB2
          have hI2 : Hid (B2 = [] ∨ L2 = []) := Hinv.out
          have hB2l : B2.length ≤ j + 1 := by omega
          have hL2l : L2.length ≤ j + 1 := by omega
          have hbx := TRB.box hT
          have x0 := cell_blk hbx 0
          have x1 := cell_blk hbx 1
          have x2 := cell_blk hbx 2
          have x3 := cell_blk hbx 3
          clear hbx
          obtain ⟨O1, O2, g1, -, -, -⟩ := id hT
          go_wp2_with fail
          refine (copy_any b _ _ L2 _ g1 hL8).mono ?_
          rintro e wc3 ⟨bt, rfl, hN3, hk3⟩
          have hF := Sep.fresh (N := TN bt B2 L2) (Sep.ok (TN.ok _ _ _) (TRB.ok _ _ _ _ _)) hT hN3 hk3 (fun k hk => Nat.le_trans hkw.size hk)
          have hF2 := hF.turn
          replace hkw := hkw.trans hk3
          clear hT hN3 hk3 g1 x0 x1 x2 x3 hF
          obtain ⟨q1, q2, q3, B5, L5, he5⟩ : ∃ r1 r2 r3 B5 L5, waitE B2 L2 777 true = ((r1, r2, r3), B5, L5) := ⟨_, _, _, _, _, rfl⟩
          obtain ⟨p1, p2, p3, B6, L6, he6⟩ : ∃ r1 r2 r3 B6 L6, sigE B5 L5 1099511627776 = ((r1, r2, r3), B6, L6) := ⟨_, _, _, _, _, rfl⟩
          have hl5 := (waitE_len he5).2.1
          have hl6 := (sigE_len he6).2.1
          have He5 := Lib.hid he5
          have He6 := Lib.hid he6
          clear he5 he6
          obtain ⟨O1, O2, g1, g2, g3, g4⟩ := hF2
          have G3 := Lib.hid g3
          have G4 := Lib.hid g4
          clear g3 g4
          go_wp2_with fail
          refine (wait_st b B2 L2 B5 L5 777 q1 q3 q2 true wc3 g1 hL8 He5.out).mono ?_
          rintro e wc4 ⟨rfl, hA, hkx⟩
          obtain ⟨hF4, hkst⟩ := Sep.step (P' := TN b B5 L5) (Sep.ok (TN.ok bt B2 L2) (TRB.ok _ _ _ _ _)) g2 G3.out G4.out hA hkx (fun k hk => Nat.le_trans hkw.size hk)
          replace hkw := hkw.new hkst (fun i hi => hi)
          clear g1 g2 G3 G4 hA hkx hkst
          obtain ⟨O1, O2, g1, g2, g3, g4⟩ := hF4
          have G3 := Lib.hid g3
          have G4 := Lib.hid g4
          clear g3 g4
          go_wp2_with fail
          refine (signal_st b B5 L5 B6 L6 1099511627776 p1 p2 p3 wc4 g1 (by omega) He6.out).mono ?_
          rintro e wc5 ⟨rfl, hA, hkx⟩
          obtain ⟨hF5, hkst⟩ := Sep.step (P' := TN b B6 L6) (Sep.ok (TN.ok bt B2 L2) (TRB.ok _ _ _ _ _)) g2 G3.out G4.out hA hkx (fun k hk => Nat.le_trans hkw.size hk)
          replace hkw := hkw.new hkst (fun i hi => hi)
          clear g1 g2 G3 G4 hA hkx hkst
          have hbx := TRB.box (Sep.snd (Sep.ok (TN.ok bt B2 L2) (TRB.ok _ _ _ _ _)) hF5)
          have x2 := cell_blk hbx 2
          clear hbx
          obtain ⟨O1, O2, g1, g2, g3, g4⟩ := hF5
          have G3 := Lib.hid g3
          have G4 := Lib.hid g4
          clear g3 g4
          go_wp2_with fail
          refine (cancel_any b _ _ L6 _ who _ wc5 g1 (by omega) rfl rfl).mono ?_
          rintro e wc6 ⟨rfl, hA, hkx⟩
          obtain ⟨hF6, hkst⟩ := Sep.step (P' := TN b B6 (L6.filter (fun y => !(y == who)))) (Sep.ok (TN.ok bt B2 L2) (TRB.ok _ _ _ _ _)) g2 G3.out G4.out (Nt.mono hA (fun _ h => .inl h)) hkx (fun k hk => Nat.le_trans hkw.size hk)
          replace hkw := hkw.new hkst (fun i hi => hi)
          clear g1 g2 G3 G4 hA hkx hkst
          have hT4 : TRB bt b2 wr.heap.size B2 L2 B2 L2 (.cells #[.int .i64 3, .int .u64 bg, .int .i64 who, .bool wa] 27) (fun k => w.heap.size ≤ k) wc6 := Sep.snd (Sep.ok (TN.ok bt B2 L2) (TRB.ok _ _ _ _ _)) hF6
          clear hF6 x2 hl5 hl6 He5 He6
          have hTR : Sep (TN bt B2 L2) (RQ b2 B2 L2) (fun k => w.heap.size ≤ k) wc6 := hT4.inr (fun O h => Sep.snd (RQ.ok b2 B2 L2) h.swap)
          clear hT4
          obtain ⟨wd, hwd⟩ : ∃ wd, wd = orAll B2 := ⟨_, rfl⟩
          have Hwd := Lib.hid hwd
          clear hwd
          obtain ⟨O1, O2, g1, g2, g3, g4⟩ := hTR
          have G3 := Lib.hid g3
          have G4 := Lib.hid g4
          clear g3 g4
          by_cases hB0 : 0 < B2.length
          · have hd : decide (0 < B2.length) = true := decide_eq_true hB0
            have hL0 : L2 = [] := hI2.out.resolve_left (by intro e; rw [e] at hB0; simp at hB0)
            have g1' : Nt O1 wc6 bt wd true L2 := by have := g1; unfold TN at this; rwa [hd, ← Hwd.out] at this
            have hm0 : L2.length = 0 := by rw [hL0]; rfl
            have Hd := Lib.hid hd.symm
            clear hd hL0 hB0
            go_wp2_with fail
            refine (word_any bt wd true L2 wc6 g1').mono ?_
            rintro e w5 ⟨rfl, hk5⟩
            have g15 := Nt.same g1' hk5
            have g25 := Rn.same g2 hk5
            replace hkw := hkw.trans hk5
            clear g1 g2 g1' hk5
            go_wp2_with fail
            refine (rword_any b2 B2 L2 wd true w5 g25 (by omega) Hwd.out Hd.out).mono ?_
            rintro e w6 ⟨rfl, hk6⟩
            have g16 := Nt.same g15 hk6
            have g26 := Rn.same g25 hk6
            replace hkw := hkw.trans hk6
            clear g15 g25 hk6
            go_wp2_with fail
            refine (waits_any bt wd true L2 w6 g16 (by omega)).mono ?_
            rintro e w7 ⟨v7, rfl, hown7, hk7⟩
            have g17 : TN bt B2 L2 O1 w7 := by unfold TN; rw [← Hd.out, ← Hwd.out]; exact Nt.same g16 hk7
            have g27 := Rn.same g26 hk7
            have hS6 : Sep (TN bt B2 L2) (RQ b2 B2 L2) (fun k => w.heap.size ≤ k) w6 := ⟨O1, O2, (by unfold TN; rw [← Hd.out, ← Hwd.out]; exact g16), g26, G3.out, G4.out⟩
            obtain ⟨ao7, c7, hv7, -⟩ := Src.of_own hown7
            subst hv7
            have hC7 : Sep (CP ao7 L2.length) (Sep (TN bt B2 L2) (RQ b2 B2 L2)) (fun k => w.heap.size ≤ k) w7 :=
              Sep.fresh (Sep.ok (TN.ok _ _ _) (RQ.ok _ _ _)) hS6 (CP.of_own hown7) hk7 (fun k hk => Nat.le_trans hkw.size hk)
            replace hkw := hkw.trans hk7
            obtain ⟨ao8, c8, bo8, d8, hb8, -, hown8, -⟩ := Rn.cells g27
            have z4 := cell_blk hb8 1
            have hsame := nums_any (.slice ao7 L2.length c7) (.slice ao8 L2.length c8) L2.length L2 w7 (Src.of_own hown7) (Src.of_own hown8) (by omega)
            have Hsame := Lib.hid hsame
            obtain ⟨m2, hm2⟩ : ∃ m2, m2 = L2.length := ⟨_, rfl⟩
            have Hm2 := Lib.hid hm2
            have hm2b : m2 ≤ 81 := by omega
            rw [← hm2] at Hsame z4 hC7 hm0 ⊢
            have hm0i : ¬ (0 : Int) < m2 := by omega
            have hm0n : ¬ 0 < m2 := by omega
            clear hm0
            clear hm2 hsame hown7 hown8 hS6 hb8 g16 g26 g17 g27 hk7
            go_wp2_with fail
            refine Hsame.out.mono ?_
            rintro e w8 ⟨rfl, qd, rfl⟩
            have hC8 : Sep (CP ao7 m2) (Sep (TN bt B2 L2) (RQ b2 B2 L2)) (fun k => w.heap.size ≤ k) (w7.drewN qd) :=
              (Sep.ok (CP.ok _ _) (Sep.ok (TN.ok _ _ _) (RQ.ok _ _ _))).kept hC7 ((Kept.refl (fun _ => False) w7).drewN qd) (fun _ _ h => h)
            have hk8 := hkw.drewN qd
            clear z4 hC7 Hsame
            go_wp2_with fail
            go_loopw [26] (fun s wi => ∃ r : Nat, r ≤ m2 ∧ s = .int .i64 r ∧ Sep (CP ao7 m2) (Sep (TN bt B2 L2) (RQ b2 B2 L2)) (fun k => w.heap.size ≤ k) wi ∧ New w wi) (fun s _ => m2 - (intOf s).toNat)
            case atStart => exact ⟨0, by omega, rfl, hC8, hk8⟩
            case round =>
              clear hC8 hk8
              obtain ⟨r, hrm, rfl, hCr, hkr⟩ := hrel
              by_cases hrl : r < m2
              · exfalso; omega
              · go_wp2_with fail
                go_roundw
                case rel => exact ⟨j + 1, bt, B2, L2, by omega, by omega, rfl, by go_num, hB2l, hL2l, hI2.out, Sep.snd (Sep.ok (TN.ok bt B2 L2) (RQ.ok b2 B2 L2)) hCr, hkr⟩
                case measure => simp [intOf]; omega
          · have hd : decide (0 < B2.length) = false := decide_eq_false hB0
            have g1' : Nt O1 wc6 bt wd false L2 := by have := g1; unfold TN at this; rwa [hd, ← Hwd.out] at this
            have hm0 : L2.length ≤ 1000 := by omega
            have Hd := Lib.hid hd.symm
            clear hd hB0
            go_wp2_with fail
            refine (word_any bt wd false L2 wc6 g1').mono ?_
            rintro e w5 ⟨rfl, hk5⟩
            have g15 := Nt.same g1' hk5
            have g25 := Rn.same g2 hk5
            replace hkw := hkw.trans hk5
            clear g1 g2 g1' hk5
            go_wp2_with fail
            refine (rword_any b2 B2 L2 wd false w5 g25 (by omega) Hwd.out Hd.out).mono ?_
            rintro e w6 ⟨rfl, hk6⟩
            have g16 := Nt.same g15 hk6
            have g26 := Rn.same g25 hk6
            replace hkw := hkw.trans hk6
            clear g15 g25 hk6
            go_wp2_with fail
            refine (waits_any bt wd false L2 w6 g16 (by omega)).mono ?_
            rintro e w7 ⟨v7, rfl, hown7, hk7⟩
            have g17 : TN bt B2 L2 O1 w7 := by unfold TN; rw [← Hd.out, ← Hwd.out]; exact Nt.same g16 hk7
            have g27 := Rn.same g26 hk7
            have hS6 : Sep (TN bt B2 L2) (RQ b2 B2 L2) (fun k => w.heap.size ≤ k) w6 := ⟨O1, O2, (by unfold TN; rw [← Hd.out, ← Hwd.out]; exact g16), g26, G3.out, G4.out⟩
            obtain ⟨ao7, c7, hv7, -⟩ := Src.of_own hown7
            subst hv7
            have hC7 : Sep (CP ao7 L2.length) (Sep (TN bt B2 L2) (RQ b2 B2 L2)) (fun k => w.heap.size ≤ k) w7 :=
              Sep.fresh (Sep.ok (TN.ok _ _ _) (RQ.ok _ _ _)) hS6 (CP.of_own hown7) hk7 (fun k hk => Nat.le_trans hkw.size hk)
            replace hkw := hkw.trans hk7
            obtain ⟨ao8, c8, bo8, d8, hb8, -, hown8, -⟩ := Rn.cells g27
            have z4 := cell_blk hb8 1
            have hsame := nums_any (.slice ao7 L2.length c7) (.slice ao8 L2.length c8) L2.length L2 w7 (Src.of_own hown7) (Src.of_own hown8) (by omega)
            have Hsame := Lib.hid hsame
            obtain ⟨m2, hm2⟩ : ∃ m2, m2 = L2.length := ⟨_, rfl⟩
            have Hm2 := Lib.hid hm2
            have hm2b : m2 ≤ 81 := by omega
            rw [← hm2] at Hsame z4 hC7 hm0 ⊢
            clear hm0
            clear hm2 hsame hown7 hown8 hS6 hb8 g16 g26 g17 g27 hk7
            go_wp2_with fail
            refine Hsame.out.mono ?_
            rintro e w8 ⟨rfl, qd, rfl⟩
            have hC8 : Sep (CP ao7 m2) (Sep (TN bt B2 L2) (RQ b2 B2 L2)) (fun k => w.heap.size ≤ k) (w7.drewN qd) :=
              (Sep.ok (CP.ok _ _) (Sep.ok (TN.ok _ _ _) (RQ.ok _ _ _))).kept hC7 ((Kept.refl (fun _ => False) w7).drewN qd) (fun _ _ h => h)
            have hk8 := hkw.drewN qd
            clear z4 hC7 Hsame
            go_wp2_with fail
            go_loopw [26] (fun s wi => ∃ r : Nat, r ≤ m2 ∧ s = .int .i64 r ∧ Sep (CP ao7 m2) (Sep (TN bt B2 L2) (RQ b2 B2 L2)) (fun k => w.heap.size ≤ k) wi ∧ New w wi) (fun s _ => m2 - (intOf s).toNat)
            case atStart => exact ⟨0, by omega, rfl, hC8, hk8⟩
            case round =>
              clear hC8 hk8
              obtain ⟨r, hrm, rfl, hCr, hkr⟩ := hrel
              by_cases hrl : r < m2
              · obtain ⟨O5, O6, p1, p2, p3, p4⟩ := hCr
                obtain ⟨g9, cs, rfl, hgc, hcs, hOg⟩ := p1 (by omega)
                have P2 := Lib.hid p2
                have P3 := Lib.hid p3
                have P4 := Lib.hid p4
                obtain ⟨u, hu⟩ : ∃ u, cs[r]? = some u := ⟨_, Array.getElem?_eq_getElem (by omega)⟩
                have hcu : wr.cell? ⟨g9, r, none⟩ = some u := by rw [cell_blk hgc r]; exact hu
                have hfu := free_blk hgc r
                have hgc9 := heap_setCell_same wr g9 r cs 3 (.int .i64 99) hgc
                have hks : Kept O5 wr (wr.setCell ⟨g9, r, none⟩ (.int .i64 99)) := (Kept.refl O5 wr).setCell (.inr hOg) _
                have hst := Sep.step (P' := CP (some ⟨g9, 0, none⟩) m2) (Sep.ok (TN.ok bt B2 L2) (RQ.ok b2 B2 L2)) P2.out P3.out P4.out (fun _ => ⟨g9, _, rfl, hgc9, by simpa using hcs, .inl hOg⟩) hks (fun k hk => Nat.le_trans hkr.size hk)
                have hk9 := hkr.new hst.2 (fun i hi => hi)
                have Hst := Lib.hid hst.1
                clear p1 p2 p3 p4 hst hks hgc9 hgc hu P2 P3 P4 hkr
                go_wp2_with fail
                go_roundw
                case rel => exact ⟨r + 1, by omega, by go_num, Hst.out, hk9⟩
                case measure => simp [intOf]; omega
              · go_wp2_with fail
                go_roundw
                case rel => exact ⟨j + 1, bt, B2, L2, by omega, by omega, rfl, by go_num, hB2l, hL2l, hI2.out, Sep.snd (Sep.ok (TN.ok bt B2 L2) (RQ.ok b2 B2 L2)) hCr, hkr⟩
                case measure => simp [intOf]; omega
        have hk3b : (kind == 3) = false := by simpa using hk3
        have hT := HT0.out kind
        have hkw := Hk0.out (.cells #[.int .i64 kind, .int .u64 bg, .int .i64 who, .bool wa] 27)
        clear HT0 Hk0
        obtain ⟨bt, hbt⟩ : ∃ bt, bt = b := ⟨_, rfl⟩
        subst hbt
        obtain ⟨L2, hL2⟩ : ∃ L2, L2 = L := ⟨_, rfl⟩
        subst hL2
        obtain ⟨B2, hB2⟩ : ∃ B2, B2 = Bs := ⟨_, rfl⟩
        subst hB2
        have hI2 : Hid (B2 = [] ∨ L2 = []) := Hinv.out
        have hB2l : B2.length ≤ j + 1 := by omega
        have hL2l : L2.length ≤ j + 1 := by omega
        have hTR : Sep (TN bt B2 L2) (RQ b2 B2 L2) (fun k => w.heap.size ≤ k) (wr.alloc (.cells #[.int .i64 kind, .int .u64 bg, .int .i64 who, .bool wa] 27)) := hT.inr (fun O h => Sep.snd (RQ.ok b2 B2 L2) h.swap)
        clear hT
        obtain ⟨wd, hwd⟩ : ∃ wd, wd = orAll B2 := ⟨_, rfl⟩
        have Hwd := Lib.hid hwd
        clear hwd
        obtain ⟨O1, O2, g1, g2, g3, g4⟩ := hTR
        have G3 := Lib.hid g3
        have G4 := Lib.hid g4
        clear g3 g4
        by_cases hB0 : 0 < B2.length
        · have hd : decide (0 < B2.length) = true := decide_eq_true hB0
          have hL0 : L2 = [] := hI2.out.resolve_left (by intro e; rw [e] at hB0; simp at hB0)
          have g1' : Nt O1 (wr.alloc (.cells #[.int .i64 kind, .int .u64 bg, .int .i64 who, .bool wa] 27)) bt wd true L2 := by have := g1; unfold TN at this; rwa [hd, ← Hwd.out] at this
          have hm0 : L2.length = 0 := by rw [hL0]; rfl
          have Hd := Lib.hid hd.symm
          clear hd hL0 hB0
          go_wp2_with fail
          refine (word_any bt wd true L2 (wr.alloc (.cells #[.int .i64 kind, .int .u64 bg, .int .i64 who, .bool wa] 27)) g1').mono ?_
          rintro e w5 ⟨rfl, hk5⟩
          have g15 := Nt.same g1' hk5
          have g25 := Rn.same g2 hk5
          replace hkw := hkw.trans hk5
          clear g1 g2 g1' hk5
          go_wp2_with fail
          refine (rword_any b2 B2 L2 wd true w5 g25 (by omega) Hwd.out Hd.out).mono ?_
          rintro e w6 ⟨rfl, hk6⟩
          have g16 := Nt.same g15 hk6
          have g26 := Rn.same g25 hk6
          replace hkw := hkw.trans hk6
          clear g15 g25 hk6
          go_wp2_with fail
          refine (waits_any bt wd true L2 w6 g16 (by omega)).mono ?_
          rintro e w7 ⟨v7, rfl, hown7, hk7⟩
          have g17 : TN bt B2 L2 O1 w7 := by unfold TN; rw [← Hd.out, ← Hwd.out]; exact Nt.same g16 hk7
          have g27 := Rn.same g26 hk7
          have hS6 : Sep (TN bt B2 L2) (RQ b2 B2 L2) (fun k => w.heap.size ≤ k) w6 := ⟨O1, O2, (by unfold TN; rw [← Hd.out, ← Hwd.out]; exact g16), g26, G3.out, G4.out⟩
          obtain ⟨ao7, c7, hv7, -⟩ := Src.of_own hown7
          subst hv7
          have hC7 : Sep (CP ao7 L2.length) (Sep (TN bt B2 L2) (RQ b2 B2 L2)) (fun k => w.heap.size ≤ k) w7 :=
            Sep.fresh (Sep.ok (TN.ok _ _ _) (RQ.ok _ _ _)) hS6 (CP.of_own hown7) hk7 (fun k hk => Nat.le_trans hkw.size hk)
          replace hkw := hkw.trans hk7
          obtain ⟨ao8, c8, bo8, d8, hb8, -, hown8, -⟩ := Rn.cells g27
          have z4 := cell_blk hb8 1
          have hsame := nums_any (.slice ao7 L2.length c7) (.slice ao8 L2.length c8) L2.length L2 w7 (Src.of_own hown7) (Src.of_own hown8) (by omega)
          have Hsame := Lib.hid hsame
          obtain ⟨m2, hm2⟩ : ∃ m2, m2 = L2.length := ⟨_, rfl⟩
          have Hm2 := Lib.hid hm2
          have hm2b : m2 ≤ 81 := by omega
          rw [← hm2] at Hsame z4 hC7 hm0 ⊢
          have hm0i : ¬ (0 : Int) < m2 := by omega
          have hm0n : ¬ 0 < m2 := by omega
          clear hm0
          clear hm2 hsame hown7 hown8 hS6 hb8 g16 g26 g17 g27 hk7
          go_wp2_with fail
          refine Hsame.out.mono ?_
          rintro e w8 ⟨rfl, qd, rfl⟩
          have hC8 : Sep (CP ao7 m2) (Sep (TN bt B2 L2) (RQ b2 B2 L2)) (fun k => w.heap.size ≤ k) (w7.drewN qd) :=
            (Sep.ok (CP.ok _ _) (Sep.ok (TN.ok _ _ _) (RQ.ok _ _ _))).kept hC7 ((Kept.refl (fun _ => False) w7).drewN qd) (fun _ _ h => h)
          have hk8 := hkw.drewN qd
          clear z4 hC7 Hsame
          go_wp2_with fail
          go_loopw [26] (fun s wi => ∃ r : Nat, r ≤ m2 ∧ s = .int .i64 r ∧ Sep (CP ao7 m2) (Sep (TN bt B2 L2) (RQ b2 B2 L2)) (fun k => w.heap.size ≤ k) wi ∧ New w wi) (fun s _ => m2 - (intOf s).toNat)
          case atStart => exact ⟨0, by omega, rfl, hC8, hk8⟩
          case round =>
            clear hC8 hk8
            obtain ⟨r, hrm, rfl, hCr, hkr⟩ := hrel
            by_cases hrl : r < m2
            · exfalso; omega
            · go_wp2_with fail
              go_roundw
              case rel => exact ⟨j + 1, bt, B2, L2, by omega, by omega, rfl, by go_num, hB2l, hL2l, hI2.out, Sep.snd (Sep.ok (TN.ok bt B2 L2) (RQ.ok b2 B2 L2)) hCr, hkr⟩
              case measure => simp [intOf]; omega
        · have hd : decide (0 < B2.length) = false := decide_eq_false hB0
          have g1' : Nt O1 (wr.alloc (.cells #[.int .i64 kind, .int .u64 bg, .int .i64 who, .bool wa] 27)) bt wd false L2 := by have := g1; unfold TN at this; rwa [hd, ← Hwd.out] at this
          have hm0 : L2.length ≤ 1000 := by omega
          have Hd := Lib.hid hd.symm
          clear hd hB0
          go_wp2_with fail
          refine (word_any bt wd false L2 (wr.alloc (.cells #[.int .i64 kind, .int .u64 bg, .int .i64 who, .bool wa] 27)) g1').mono ?_
          rintro e w5 ⟨rfl, hk5⟩
          have g15 := Nt.same g1' hk5
          have g25 := Rn.same g2 hk5
          replace hkw := hkw.trans hk5
          clear g1 g2 g1' hk5
          go_wp2_with fail
          refine (rword_any b2 B2 L2 wd false w5 g25 (by omega) Hwd.out Hd.out).mono ?_
          rintro e w6 ⟨rfl, hk6⟩
          have g16 := Nt.same g15 hk6
          have g26 := Rn.same g25 hk6
          replace hkw := hkw.trans hk6
          clear g15 g25 hk6
          go_wp2_with fail
          refine (waits_any bt wd false L2 w6 g16 (by omega)).mono ?_
          rintro e w7 ⟨v7, rfl, hown7, hk7⟩
          have g17 : TN bt B2 L2 O1 w7 := by unfold TN; rw [← Hd.out, ← Hwd.out]; exact Nt.same g16 hk7
          have g27 := Rn.same g26 hk7
          have hS6 : Sep (TN bt B2 L2) (RQ b2 B2 L2) (fun k => w.heap.size ≤ k) w6 := ⟨O1, O2, (by unfold TN; rw [← Hd.out, ← Hwd.out]; exact g16), g26, G3.out, G4.out⟩
          obtain ⟨ao7, c7, hv7, -⟩ := Src.of_own hown7
          subst hv7
          have hC7 : Sep (CP ao7 L2.length) (Sep (TN bt B2 L2) (RQ b2 B2 L2)) (fun k => w.heap.size ≤ k) w7 :=
            Sep.fresh (Sep.ok (TN.ok _ _ _) (RQ.ok _ _ _)) hS6 (CP.of_own hown7) hk7 (fun k hk => Nat.le_trans hkw.size hk)
          replace hkw := hkw.trans hk7
          obtain ⟨ao8, c8, bo8, d8, hb8, -, hown8, -⟩ := Rn.cells g27
          have z4 := cell_blk hb8 1
          have hsame := nums_any (.slice ao7 L2.length c7) (.slice ao8 L2.length c8) L2.length L2 w7 (Src.of_own hown7) (Src.of_own hown8) (by omega)
          have Hsame := Lib.hid hsame
          obtain ⟨m2, hm2⟩ : ∃ m2, m2 = L2.length := ⟨_, rfl⟩
          have Hm2 := Lib.hid hm2
          have hm2b : m2 ≤ 81 := by omega
          rw [← hm2] at Hsame z4 hC7 hm0 ⊢
          clear hm0
          clear hm2 hsame hown7 hown8 hS6 hb8 g16 g26 g17 g27 hk7
          go_wp2_with fail
          refine Hsame.out.mono ?_
          rintro e w8 ⟨rfl, qd, rfl⟩
          have hC8 : Sep (CP ao7 m2) (Sep (TN bt B2 L2) (RQ b2 B2 L2)) (fun k => w.heap.size ≤ k) (w7.drewN qd) :=
            (Sep.ok (CP.ok _ _) (Sep.ok (TN.ok _ _ _) (RQ.ok _ _ _))).kept hC7 ((Kept.refl (fun _ => False) w7).drewN qd) (fun _ _ h => h)
          have hk8 := hkw.drewN qd
          clear z4 hC7 Hsame
          go_wp2_with fail
          go_loopw [26] (fun s wi => ∃ r : Nat, r ≤ m2 ∧ s = .int .i64 r ∧ Sep (CP ao7 m2) (Sep (TN bt B2 L2) (RQ b2 B2 L2)) (fun k => w.heap.size ≤ k) wi ∧ New w wi) (fun s _ => m2 - (intOf s).toNat)
          case atStart => exact ⟨0, by omega, rfl, hC8, hk8⟩
          case round =>
            clear hC8 hk8
            obtain ⟨r, hrm, rfl, hCr, hkr⟩ := hrel
            by_cases hrl : r < m2
            · obtain ⟨O5, O6, p1, p2, p3, p4⟩ := hCr
              obtain ⟨g9, cs, rfl, hgc, hcs, hOg⟩ := p1 (by omega)
              have P2 := Lib.hid p2
              have P3 := Lib.hid p3
              have P4 := Lib.hid p4
              obtain ⟨u, hu⟩ : ∃ u, cs[r]? = some u := ⟨_, Array.getElem?_eq_getElem (by omega)⟩
              have hcu : wr.cell? ⟨g9, r, none⟩ = some u := by rw [cell_blk hgc r]; exact hu
              have hfu := free_blk hgc r
              have hgc9 := heap_setCell_same wr g9 r cs 3 (.int .i64 99) hgc
              have hks : Kept O5 wr (wr.setCell ⟨g9, r, none⟩ (.int .i64 99)) := (Kept.refl O5 wr).setCell (.inr hOg) _
              have hst := Sep.step (P' := CP (some ⟨g9, 0, none⟩) m2) (Sep.ok (TN.ok bt B2 L2) (RQ.ok b2 B2 L2)) P2.out P3.out P4.out (fun _ => ⟨g9, _, rfl, hgc9, by simpa using hcs, .inl hOg⟩) hks (fun k hk => Nat.le_trans hkr.size hk)
              have hk9 := hkr.new hst.2 (fun i hi => hi)
              have Hst := Lib.hid hst.1
              clear p1 p2 p3 p4 hst hks hgc9 hgc hu P2 P3 P4 hkr
              go_wp2_with fail
              go_roundw
              case rel => exact ⟨r + 1, by omega, by go_num, Hst.out, hk9⟩
              case measure => simp [intOf]; omega
            · go_wp2_with fail
              go_roundw
              case rel => exact ⟨j + 1, bt, B2, L2, by omega, by omega, rfl, by go_num, hB2l, hL2l, hI2.out, Sep.snd (Sep.ok (TN.ok bt B2 L2) (RQ.ok b2 B2 L2)) hCr, hkr⟩
              case measure => simp [intOf]; omega
      · have h2z : ¬ ((j : Int) < 80) := by omega
        go_wp2_with fail
        refine (fixed_any _).mono ?_
        rintro e w8 ⟨rfl, hk8⟩
        go_wp2_with fail
        go_ret
        exact ⟨rfl, none_below (hk.trans hk8)⟩
    · have h1z : ¬ ((j : Int) < len) := by omega
      go_wp2_with fail
      refine (fixed_any _).mono ?_
      rintro e w8 ⟨rfl, hk8⟩
      go_wp2_with fail
      go_ret
      exact ⟨rfl, none_below (hk.trans hk8)⟩
end Go.Proofs.Ytaaoegfdhpploaa

/- The walk of the law MemoryKeeps. -/
import Derived.Test.YtnfomlgjnckphaaLaid
set_option linter.all false
namespace Go.Proofs.Ytnfomlgjnckphaa
open Go.RowKit

set_option maxHeartbeats 4000000 in
theorem walkMemoryKeeps (w : World) (v : Value) (rows : List (List Value)) (hs : Src w v rows.length 1 rows.flatten) (hr : ∀ x ∈ rows, FlatOk [.int .u64] x) (hm : rows.length ≤ maxLen)
    (cs : List Value) (hf : FlatOk [.int .i64, .int .i64, .int .i64, .int .i64, .int .u64] cs) :
    Calls Try.prog 4 #[v, .agg cs.toArray] w fun e w' => e = .returned (.bool true) ∧ Below w.heap.size w w' := by
  obtain ⟨kind, oat, ofrm, on, ov, rfl, _⟩ := op_open hf
  obtain ⟨zs, hz, _⟩ := ints_of_rows hr
  rw [hz] at hs
  generalize rows.length = n at hs hm
  clear hz hr
  clear hf
  unfold maxLen at hm
  obtain ⟨hl, ao, c, rfl, hc⟩ := hs.ints
  have Hc := Lib.hid hc
  have Hl := Lib.hid hl
  clear hc hl hs
  go_enter Try.func4, Try.ntmps4
  go_wp2_with fail
  refine (new_yes 64 _ (by decide) (by decide)).mono ?_
  rintro e w1 ⟨rfl, hM1, hk1⟩
  simp only [World.size_alloc] at hM1
  have hk1' : New w w1 := ((Kept.refl _ _).alloc _).trans hk1
  have hB : w1.heap[w.heap.size]? = some (.cells #[.int .i64 kind, .int .i64 oat, .int .i64 ofrm, .int .i64 on, .int .u64 ov] 32 (0, 0)) := hk1.heap (heap_alloc_new _ _) (fun h => h)
  clear hk1
  go_wp2_with fail
  go_loopw [7] (fun i wr => ∃ (k : Nat) (ws : List Int), k ≤ n ∧ k ≤ 64 ∧ i = .int .i64 k ∧ Mem 55 wr (w.heap.size + 1 + 1) (w.heap.size + 1) 64 ws ∧ Hid (ws.length = 64) ∧ New w wr ∧ Hid (wr.heap[w.heap.size]? = some (.cells #[.int .i64 kind, .int .i64 oat, .int .i64 ofrm, .int .i64 on, .int .u64 ov] 32 (0, 0)))) (fun i _ => 64 - (intOf i).toNat)
  case atStart => exact ⟨0, _, Nat.zero_le _, by omega, rfl, hM1, by simp [Hid], hk1', hB⟩
  case round =>
    clear hB hk1' hM1
    obtain ⟨k, ws, hkn, hk64, rfl, hM, Hw, hk, HB⟩ := hrel
    by_cases h12 : k < n ∧ k < 64
    · obtain ⟨h1, h2⟩ := h12
      obtain ⟨ad, rfl, hcell⟩ := Hc.out k h1
      have hcell' := cell_kept hk hcell (fun h => h)
      generalize zs.getD k 0 = u at hcell' hcell
      go_wp2_with fail
      refine (write_yes _ _ _ ws k u _ hM (by omega) (by have := Hw.out; omega)).mono ?_
      rintro e w2 ⟨rfl, hM2, hk2⟩
      simp only [Int.toNat_natCast] at hM2
      have hk3 : New w w2 := hk.new hk2 (by intro i hi; omega)
      have hc2 := cell_kept hk3 hcell (fun h => h)
      clear hcell hcell'
      go_wp2_with fail
      refine (read_yes _ _ _ _ k _ hM2 (by omega) (by rw [List.length_set]; have := Hw.out; omega)).mono ?_
      rintro e w3 ⟨rfl, rfl⟩
      have hlk : k < ws.length := by have := Hw.out; omega
      simp only [Int.toNat_natCast]
      rw [show (ws.set k u).getD k 0 = u by simp [List.getD, hlk]]
      go_wp2_with fail
      go_roundw
      case rel => exact ⟨k + 1, _, by omega, by omega, by go_num, hM2, by have := Hw.out; simpa [Hid] using this, hk3, hk2.heap HB.out (by omega)⟩
      case measure => simp [intOf]; omega
    · have hcase : ¬ k < n ∨ (k < n ∧ ¬ k < 64) := by
        by_cases h : k < n
        · exact .inr ⟨h, fun h' => h12 ⟨h, h'⟩⟩
        · exact .inl h
      clear h12
      obtain ⟨nn, hnn, b0, b1⟩ := and_small on 5 (by decide)
      obtain ⟨to, hto, c0, c1⟩ := and_small oat 5 (by decide)
      obtain ⟨fr, hfr, d0, d1⟩ := and_small ofrm 5 (by decide)
      simp only [Int.reducePow, Int.reduceSub] at hnn b1 hto c1 hfr d1
      have l1 : wr.cell? ⟨w.heap.size, 1, none⟩ = some (.int .i64 oat) := cell_blk HB.out 1
      have l2 : wr.cell? ⟨w.heap.size, 2, none⟩ = some (.int .i64 ofrm) := cell_blk HB.out 2
      have l3 : wr.cell? ⟨w.heap.size, 3, none⟩ = some (.int .i64 on) := cell_blk HB.out 3
      have hMw : ∀ q, Mem 55 (wr.drewN q) (w.heap.size + 1 + 1) (w.heap.size + 1) 64 ws := fun q => hM.same ((Kept.refl _ _).drewN q)
      have hkw : ∀ q, New w (wr.drewN q) := fun q => hk.drewN q
      clear hM hk
      have Hgo : ∀ wq, Mem 55 wq (w.heap.size + 1 + 1) (w.heap.size + 1) 64 ws → New w wq → True := fun _ _ _ => trivial
      rcases hcase with hx | ⟨hx, hy⟩
      all_goals
        go_wp2_with fail
        go_quiet (fail)
        have hM1 := hMw nq
        have hk1 := hkw nq
        generalize wr.drewN nq = w1 at hM1 hk1 ⊢
        clear hMw hkw l1 l2 l3 HB
        go_wp2_with fail
        refine (words_all _ _ _ ws 64 _ hM1 (by rw [Hw.out]; rfl) (by rw [Hw.out]; decide)).mono ?_
        rintro e w2 ⟨g1, cap1, rfl, hr1, hg1, hk2⟩
        have hM2 := hM1.same hk2
        rw [Hw.out]
        have HN := Lib.hid hnn
        have HT := Lib.hid hto
        have HF := Lib.hid hfr
        clear hnn hto hfr
        obtain ⟨nn, rfl⟩ := Int.eq_ofNat_of_zero_le b0
        obtain ⟨to, rfl⟩ := Int.eq_ofNat_of_zero_le c0
        obtain ⟨fr, rfl⟩ := Int.eq_ofNat_of_zero_le d0
        go_wp2_with fail
        refine (move_yes _ _ _ ws to fr nn _ hM2 (by simp [inB, Hw.out]; omega) (by simp [inB, Hw.out]; omega)).mono ?_
        rintro e w3 ⟨rfl, hM3, hk3⟩
        simp only [Int.toNat_natCast] at hM3
        have Hw3 : Hid ((splice ws to ((ws.drop fr).take nn)).length = 64) := by
          show _ = _
          rw [length_splice _ _ _ (by simp [Hw.out]; omega), Hw.out]
        have hltg := hM1.ltg
        have hr3 := hr1.kept hk3 (by omega)
        go_wp2_with fail
        refine (words_all _ _ _ _ 64 _ hM3 (by rw [Hw3.out]; rfl) (by rw [Hw3.out]; decide)).mono ?_
        rintro e w4 ⟨g2, cap2, rfl, hr4, hg2, hk4⟩
        rw [Hw3.out]
        have hr5 := hr3.same hk4
        have hk5 : New w w4 := ((hk1.trans hk2).new hk3 (by intro i hi; omega)).trans hk4
        have hcap1 := hr5.cap_le
        have hcap2 := hr4.cap_le
        rw [Hw.out] at hcap1
        rw [Hw3.out] at hcap2
        clear hM1 hM2 hM3 hr1 hr3
        go_wp2_with fail
        go_loopw [19] (fun i wr => ∃ (j : Nat), j ≤ 64 ∧ i = .int .i64 j ∧ wr = w4) (fun i _ => 64 - (intOf i).toNat)
        case atStart => exact ⟨0, by omega, rfl, rfl⟩
        case round =>
          obtain ⟨j, hj, rfl, rfl⟩ := hrel
          by_cases hj64 : j < 64
          · have e1 := hr5.cellI (i := j) (by rw [Hw.out]; exact hj64)
            have e2 := hr4.cellI (i := j) (by rw [Hw3.out]; exact hj64)
            rw [splice_getD _ _ _ _ (by rw [Hw.out]; simp; omega)] at e2
            by_cases h1 : to ≤ j
            · by_cases h2 : j < to + nn
              · rw [if_pos (by simp [Hw.out]; omega)] at e2
                have e3 := hr5.cellI (i := fr + j - to) (by rw [Hw.out]; omega)
                have e4 : ((ws.drop fr).take nn).getD (j - to) 0 = ws.getD (fr + j - to) 0 := by
                  simp only [List.getD, List.getElem?_take, List.getElem?_drop]
                  rw [if_pos (by omega), show fr + (j - to) = fr + j - to by omega]
                rw [e4] at e2
                clear e4
                have e5 : ((fr : Int) + j - to).toNat = fr + j - to := by omega
                generalize ws.getD j 0 = u at e1
                generalize ws.getD (fr + j - to) 0 = u' at e2 e3
                have e6 : wr.cell? ⟨g1, ((fr : Int) + j - to).toNat, none⟩ = some (.int .u64 u') := by rw [e5]; exact e3
                clear e5
                go_wp2_with fail
                go_roundw
                case rel => exact ⟨j + 1, by omega, by go_num, trivial⟩
                case measure => simp [intOf]; omega
              · rw [if_neg (by simp [Hw.out]; omega)] at e2
                generalize ws.getD j 0 = u at e1 e2
                go_wp2_with fail
                go_roundw
                case rel => exact ⟨j + 1, by omega, by go_num, trivial⟩
                case measure => simp [intOf]; omega
            · rw [if_neg (by simp [Hw.out]; omega)] at e2
              generalize ws.getD j 0 = u at e1 e2
              go_wp2_with fail
              go_roundw
              case rel => exact ⟨j + 1, by omega, by go_num, trivial⟩
              case measure => simp [intOf]; omega
          · go_wp2_with fail
            refine (fixed_any _).mono ?_
            rintro e w6 ⟨rfl, hk6⟩
            go_wp2
            go_ret
            exact ⟨rfl, none_below (hk5.trans hk6)⟩
end Go.Proofs.Ytnfomlgjnckphaa

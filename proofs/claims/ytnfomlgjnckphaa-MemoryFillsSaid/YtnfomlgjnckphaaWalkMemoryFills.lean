/- The walk of the law MemoryFills. -/
import Derived.Test.YtnfomlgjnckphaaLaid
set_option linter.all false
namespace Go.Proofs.Ytnfomlgjnckphaa
open Go.RowKit

set_option maxHeartbeats 2000000 in
theorem walkMemoryFills (w : World) (v : Value) (rows : List (List Value)) (hs : Src w v rows.length 1 rows.flatten) (hr : ∀ x ∈ rows, FlatOk [.int .u64] x) (hm : rows.length ≤ maxLen)
    (cs : List Value) (hf : FlatOk [.int .i64, .int .i64, .int .i64, .int .i64, .int .u64] cs) :
    Calls Try.prog 5 #[v, .agg cs.toArray] w fun e w' => e = .returned (.bool true) ∧ Below w.heap.size w w' := by
  obtain ⟨kind, oat, ofrm, on, ov, rfl, _⟩ := op_open hf
  obtain ⟨zs, hz, _⟩ := ints_of_rows hr
  rw [hz] at hs
  generalize rows.length = n at hs hm
  clear hz hr hf
  obtain ⟨at_, hat, a0, a1⟩ := and_small oat 5 (by decide)
  obtain ⟨nn, hnn, b0, b1⟩ := and_small on 16 (by decide)
  simp only [Int.reducePow, Int.reduceSub] at hat a1 hnn b1
  obtain ⟨k, hk, c0, c1⟩ : ∃ k : Int, nn % (33 - at_) = k ∧ 0 ≤ k ∧ k < 33 - at_ := ⟨_, rfl, Int.emod_nonneg _ (by omega), Int.emod_lt_of_pos _ (by omega)⟩
  go_enter Try.func5, Try.ntmps5
  go_wp2_with fail
  refine (laid_any _ n zs _ (hs.alloc _) (by unfold maxLen at hm; omega)).mono ?_
  rintro e w1 ⟨b, g, cap, ws, rfl, hM1, hw, hb, hg, hk1⟩
  simp at hb hg
  have hB : w1.heap[w.heap.size]? = some (.cells #[.int .i64 kind, .int .i64 oat, .int .i64 ofrm, .int .i64 on, .int .u64 ov] 32 (0, 0)) := hk1.heap (heap_alloc_new _ _) (fun h => h)
  have hk1' : New w w1 := ((Kept.refl _ _).alloc _).trans hk1
  have l1 : w1.cell? ⟨w.heap.size, 1, none⟩ = some (.int .i64 oat) := cell_blk hB 1
  have l3 : w1.cell? ⟨w.heap.size, 3, none⟩ = some (.int .i64 on) := cell_blk hB 3
  have Hw := Lib.hid hw
  clear hw hs hk1
  go_wp2_with fail
  refine (words_all _ _ _ ws 32 _ hM1 (by rw [Hw.out]; rfl) (by rw [Hw.out]; decide)).mono ?_
  rintro e w2 ⟨g1, cap1, rfl, hr1, hg1, hk2⟩
  have hM2 := hM1.same hk2
  have hB2 := hk2.heap hB (fun h => h)
  have l4 : w2.cell? ⟨w.heap.size, 4, none⟩ = some (.int .u64 ov) := cell_blk hB2 4
  clear l1 l3
  rw [Hw.out]
  have Hat := Lib.hid hat
  have Hnn := Lib.hid hnn
  have HK := Lib.hid hk
  clear hat hnn hk
  have ha : at_ + k ≤ 32 := by omega
  go_wp2_with fail
  rw [HK.out]
  refine (fill_yes _ _ _ ws at_ k ov _ hM2 (by simp [inB, Hw.out]; omega)).mono ?_
  rintro e w3 ⟨rfl, hM3, hk3⟩
  have Hw3 : Hid ((splice ws at_.toNat (List.replicate k.toNat ov)).length = 32) := by
    have := Hw.out
    show _ = _
    rw [length_splice _ _ _ (by simp; omega), this]
  have hne : g ≠ g1 := by have := hM1.ltg; omega
  have hr3 := hr1.kept hk3 (fun h => hne h.symm)
  go_wp2_with fail
  refine (words_all _ _ _ _ 32 _ hM3 (by rw [Hw3.out]; rfl) (by rw [Hw3.out]; decide)).mono ?_
  rintro e w4 ⟨g2, cap2, rfl, hr4, hg2, hk4⟩
  rw [Hw3.out]
  have hr5 := hr3.same hk4
  have hk5 : New w w4 := ((hk1'.trans hk2).new hk3 (by intro i hi; omega)).trans hk4
  have hB4 := hk4.heap (hk3.heap hB2 (by have := hM1.ltg; omega)) (fun h => h)
  clear l4
  have l4 : w4.cell? ⟨w.heap.size, 4, none⟩ = some (.int .u64 ov) := cell_blk hB4 4
  have hcap1 := hr5.cap_le
  have hcap2 := hr4.cap_le
  rw [Hw.out] at hcap1
  rw [Hw3.out] at hcap2
  go_wp2_with fail
  clear hM1 hM2 hM3 hr1 hr3 hB hB2 hB4
  go_loopw [13] (fun i wr => ∃ (j : Nat), j ≤ 32 ∧ i = .int .i64 j ∧ (∃ q, wr = w4.drewN q)) (fun i _ => 32 - (intOf i).toNat)
  case atStart => exact ⟨0, by omega, rfl, 0, rfl⟩
  case round =>
    obtain ⟨j, hj, rfl, q, rfl⟩ := hrel
    by_cases hj32 : j < 32
    · have e1 := hr5.cellI (i := j) (by rw [Hw.out]; exact hj32)
      have e2 := hr4.cellI (i := j) (by rw [Hw3.out]; exact hj32)
      rw [splice_getD _ _ _ _ (by rw [Hw.out]; simp; omega)] at e2
      generalize ws.getD j 0 = u at e1 e2
      simp only [List.length_replicate] at e2
      by_cases h1 : at_ ≤ (j : Int)
      · by_cases h2 : (j : Int) < at_ + k
        · rw [if_pos (by omega)] at e2
          have e3 : (List.replicate k.toNat ov).getD (j - at_.toNat) 0 = ov := by simp [List.getD, List.getElem?_replicate, show j - at_.toNat < k.toNat by omega]
          rw [e3] at e2
          clear e3
          have h3 : decide ((j : Int) < at_) = false := by simp; omega
          have h4 : decide (at_ + k ≤ (j : Int)) = false := by simp; omega
          have h5 : decide (at_ ≤ (j : Int)) = true := by simp; omega
          have h6 : decide ((j : Int) < at_ + k) = true := by simp; omega
          have s1 : IntKind.i64.wrap (at_ + k) = at_ + k := IntWalk.i64_in _ (by omega)
          go_wp2_with fail
          go_quiet (fail)
          go_wp2_with fail
          go_roundw
          case rel => exact ⟨j + 1, by omega, by go_num, ⟨_, rfl⟩⟩
          case measure => simp [intOf]; omega
        · rw [if_neg (by omega)] at e2
          have h3 : decide ((j : Int) < at_) = false := by simp; omega
          have h4 : decide (at_ + k ≤ (j : Int)) = true := by simp; omega
          have h5 : decide (at_ ≤ (j : Int)) = true := by simp; omega
          have h6 : decide ((j : Int) < at_ + k) = false := by simp; omega
          have s1 : IntKind.i64.wrap (at_ + k) = at_ + k := IntWalk.i64_in _ (by omega)
          go_wp2_with fail
          go_quiet (fail)
          go_wp2_with fail
          go_roundw
          case rel => exact ⟨j + 1, by omega, by go_num, ⟨_, rfl⟩⟩
          case measure => simp [intOf]; omega
      · rw [if_neg (by omega)] at e2
        have h3 : decide ((j : Int) < at_) = true := by simp; omega
        have h5 : decide (at_ ≤ (j : Int)) = false := by simp; omega
        go_wp2_with fail
        go_quiet (fail)
        go_wp2_with fail
        go_roundw
        case rel => exact ⟨j + 1, by omega, by go_num, ⟨_, rfl⟩⟩
        case measure => simp [intOf]; omega
    · go_wp2_with fail
      refine (fixed_any _).mono ?_
      rintro e w6 ⟨rfl, hk6⟩
      go_wp2
      go_ret
      exact ⟨rfl, none_below ((hk5.drewN _).trans hk6)⟩
end Go.Proofs.Ytnfomlgjnckphaa

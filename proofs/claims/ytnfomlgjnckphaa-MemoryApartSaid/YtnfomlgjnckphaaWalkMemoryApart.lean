/- The walk of the law MemoryApart. -/
import Derived.Test.YtnfomlgjnckphaaLaid
set_option linter.all false
namespace Go.Proofs.Ytnfomlgjnckphaa
open Go.RowKit

set_option maxHeartbeats 2000000 in
theorem walkMemoryApart (w : World) (v : Value) (rows : List (List Value)) (hs : Src w v rows.length 1 rows.flatten) (hr : ∀ x ∈ rows, FlatOk [.int .u64] x) (hm : rows.length ≤ maxLen)
    (cs : List Value) (hf : FlatOk [.int .i64, .int .i64, .int .i64, .int .i64, .int .u64] cs) :
    Calls Try.prog 10 #[v, .agg cs.toArray] w fun e w' => e = .returned (.bool true) ∧ Below w.heap.size w w' := by
  obtain ⟨kind, oat, ofrm, on, ov, rfl, _⟩ := op_open hf
  obtain ⟨zs, hz, _⟩ := ints_of_rows hr
  rw [hz] at hs
  generalize rows.length = n at hs hm
  clear hz hr
  clear hf
  obtain ⟨at_, hat, a0, a1⟩ := and_small oat 5 (by decide)
  simp only [Int.reducePow, Int.reduceSub] at hat a1
  obtain ⟨at_, rfl⟩ := Int.eq_ofNat_of_zero_le a0
  go_enter Try.func10, Try.ntmps10
  go_wp2_with fail
  refine (laid_any _ n zs _ (hs.alloc _) (by unfold maxLen at hm; omega)).mono ?_
  rintro e w1 ⟨b, g, cap, ws, rfl, hM1, hw, hb, hg, hk1⟩
  simp at hb hg
  have hB : w1.heap[w.heap.size]? = some (.cells #[.int .i64 kind, .int .i64 oat, .int .i64 ofrm, .int .i64 on, .int .u64 ov] 32 (0, 0)) := hk1.heap (heap_alloc_new _ _) (fun h => h)
  have hk1' : New w w1 := ((Kept.refl _ _).alloc _).trans hk1
  have Hw := Lib.hid hw
  clear hw hs hk1
  go_wp2_with fail
  refine (copy_any _ _ _ ws _ hM1 (by rw [Hw.out]; decide)).mono ?_
  rintro e w2 ⟨b', g', cap', rfl, hb', hg', hC2, hk2⟩
  have hM2 := hM1.same hk2
  go_wp2_with fail
  refine (size_any _ _ _ _ _ hC2).mono ?_
  rintro e w3 ⟨rfl, rfl⟩
  rw [Hw.out]
  go_wp2_with fail
  refine (words_all _ _ _ ws 32 _ hM2 (by rw [Hw.out]; rfl) (by rw [Hw.out]; decide)).mono ?_
  rintro e w3 ⟨g1, cap1, rfl, hr1, hg1, hk3⟩
  have hM3 := hM2.same hk3
  have hC3 := hC2.same hk3
  have hB3 := hk3.heap (hk2.heap hB (fun h => h)) (fun h => h)
  have l1 : w3.cell? ⟨w.heap.size, 1, none⟩ = some (.int .i64 oat) := cell_blk hB3 1
  have l4 : w3.cell? ⟨w.heap.size, 4, none⟩ = some (.int .u64 ov) := cell_blk hB3 4
  rw [Hw.out]
  go_wp2_with fail
  refine (write_yes _ _ _ ws at_ ov _ hM3 (by omega) (by rw [Hw.out]; omega)).mono ?_
  rintro e w4 ⟨rfl, hM4, hk4⟩
  simp only [Int.toNat_natCast] at hM4
  have hlt := hM1.ltg
  have hltb := hM1.ltb
  have hk2s := hk2.size
  have hC4 := hC3.kept hk4 (by omega) (by omega)
  have hr4 := hr1.kept hk4 (by omega)
  clear hB hB3 l1 l4
  go_wp2_with fail
  refine (write_yes _ _ _ _ 31 5 _ hM4 (by decide) (by rw [List.length_set, Hw.out]; decide)).mono ?_
  rintro e w5 ⟨rfl, hM5, hk5⟩
  have hC5 := hC4.kept hk5 (by omega) (by omega)
  have hr5 := hr4.kept hk5 (by omega)
  have HA := Lib.hid hat
  clear hat
  go_wp2_with fail
  refine (words_all _ _ _ ws 32 _ hC5 (by rw [Hw.out]; rfl) (by rw [Hw.out]; decide)).mono ?_
  rintro e w6 ⟨g2, cap2, rfl, hr6, hg2, hk6⟩
  have hM6 := hM5.same hk6
  rw [Hw.out]
  go_wp2_with fail
  refine (read_yes _ _ _ _ 31 _ hM6 (by decide) (by rw [List.length_set, List.length_set, Hw.out]; decide)).mono ?_
  rintro e w7 ⟨rfl, rfl⟩
  rw [show ((ws.set at_ ov).set (Int.toNat 31) 5).getD (Int.toNat 31) 0 = 5 by
    have : Int.toNat 31 = 31 := rfl
    have := Hw.out
    simp [List.getD, this]]
  have s1 : Src w6 (.slice (some ⟨g1, 0, none⟩) 32 cap1) 32 1 (ws.map (Value.int .u64)) := by have := (hr5.same hk6).src; simpa [Hw.out] using this
  have s2 : Src w6 (.slice (some ⟨g2, 0, none⟩) 32 cap2) 32 1 (ws.map (Value.int .u64)) := by have := hr6.src; simpa [Hw.out] using this
  go_wp2_with fail
  refine (same_any _ _ 32 32 _ _ _ s1 s2 (by omega) (by omega)).mono ?_
  rintro e w7 ⟨rfl, hk7⟩
  have hgg : ∀ i, i = g → w.heap.size ≤ i := fun i h => by omega
  have hkk : New w w7 := (((((hk1'.trans hk2).trans hk3).new hk4 hgg).new hk5 hgg).trans hk6).trans hk7
  simp only [decide_true]
  go_wp2_with fail
  refine (fixed_any _).mono ?_
  rintro e w8 ⟨rfl, hk8⟩
  go_wp2
  go_ret
  exact ⟨rfl, none_below (hkk.trans hk8)⟩
end Go.Proofs.Ytnfomlgjnckphaa

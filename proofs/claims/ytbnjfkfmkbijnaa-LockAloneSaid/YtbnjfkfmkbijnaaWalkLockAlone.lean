/- The walk of the law LockAlone. -/
import Derived.Test.YtbnjfkfmkbijnaaLockE
set_option linter.all false
namespace Go.Proofs.Ytbnjfkfmkbijnaa
open Go.RowKit

set_option maxRecDepth 100000 in
set_option maxHeartbeats 2000000 in
theorem walkLockAlone (w : World) (cores : Int) (_ : (Lit.int .i64 cores).wf = true) (core : Int) (_ : (Lit.int .i64 core).wf = true) :
    Calls Try.prog 5 #[.int .i64 cores, .int .i64 core] w fun e w' => e = .returned (.bool true) ∧ Below w.heap.size w w' := by
  obtain ⟨m, hm, a0, a1⟩ := and_small cores 3 (by decide)
  obtain ⟨l, hl, b0, b1⟩ := and_small core 16 (by decide)
  simp only [Int.reducePow, Int.reduceSub] at hm a1 hl b1
  obtain ⟨m, rfl⟩ := Int.eq_ofNat_of_zero_le a0
  obtain ⟨l, rfl⟩ := Int.eq_ofNat_of_zero_le b0
  obtain ⟨n, hn⟩ : ∃ n : Nat, n = 1 + m := ⟨_, rfl⟩
  have hw1 : IntKind.i64.wrap (1 + (m : Int)) = (n : Int) := by rw [IntKind.wrap_i64]; omega
  have hn1 : 1 ≤ n := by omega
  have hn2 : n ≤ 8 := by omega
  clear hn
  obtain ⟨k, hk⟩ : ∃ k, k = l % n := ⟨_, rfl⟩
  have hkn : k < n := by rw [hk]; exact Nat.mod_lt _ (by omega)
  have hrem : Int.tmod (l : Int) (n : Int) = (k : Int) := by rw [hk]; rfl
  have hw3 : IntKind.i64.wrap (k : Int) = (k : Int) := by rw [IntKind.wrap_i64]; omega
  have hnz : ¬ (n : Int) = 0 := by omega
  clear hk
  go_enter Try.func5, Try.ntmps5
  go_wp2_with fail
  refine (lock_new n _ (by omega) (by omega)).mono ?_
  rintro e w1 ⟨rfl, hM, hk⟩
  rw [Int.toNat_natCast] at hM
  go_wp2_with fail
  refine (probe1 _ _ _ _ k 161 false _ hM (by simp [probeE, hkn])).mono ?_
  rintro e w2 ⟨rfl, rfl⟩
  go_wp2_with fail
  refine (enter1 _ _ _ _ [(k : Int)] k 0 _ hM hk.size (by simp [enterE, hkn])).mono ?_
  rintro e w2 ⟨rfl, hM2, hk2⟩
  replace hk2 := hk.new hk2 (fun i hi => hi.1)
  clear hM hk
  go_wp2_with fail
  refine (probe1 _ _ _ _ k 0 true _ hM2 (by simp [probeE, hkn])).mono ?_
  rintro e w3 ⟨rfl, rfl⟩
  go_wp2_with fail
  refine (holder1 _ _ _ _ _ _ _ hM2 rfl).mono ?_
  rintro e w3 ⟨rfl, rfl⟩
  go_wp2_with fail
  refine (leave1 _ _ _ _ [] k 0 _ hM2 (by simp [leaveE, hkn])).mono ?_
  rintro e w3 ⟨rfl, hM3, hk3⟩
  replace hk3 := hk2.new hk3 (fun i hi => hi.1)
  clear hM2 hk2
  go_wp2_with fail
  refine (leave1 _ _ _ _ [] k 161 _ hM3 (by simp [leaveE, hkn])).mono ?_
  rintro e w2 ⟨rfl, hM2, hk2⟩
  replace hk2 := hk3.new hk2 (fun i hi => hi.1)
  clear hM3 hk3
  go_wp2_with fail
  refine (holder1 _ _ _ _ _ _ _ hM2 rfl).mono ?_
  rintro e w3 ⟨rfl, rfl⟩
  go_wp2_with fail
  refine (ahead1 _ _ _ _ k (-1) _ hM2 rfl).mono ?_
  rintro e w3 ⟨rfl, hk3⟩
  replace hk3 := hk2.trans hk3
  go_wp2_with fail
  refine (fixed_any _).mono ?_
  rintro e wf ⟨rfl, hkf⟩
  go_wp2
  go_ret
  exact ⟨rfl, none_below (hk3.trans hkf)⟩
end Go.Proofs.Ytbnjfkfmkbijnaa

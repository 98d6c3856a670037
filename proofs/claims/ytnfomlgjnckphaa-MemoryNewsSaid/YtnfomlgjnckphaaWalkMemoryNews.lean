/- The walk of the law MemoryNews. -/
import Derived.Test.YtnfomlgjnckphaaLaid
set_option linter.all false
namespace Go.Proofs.Ytnfomlgjnckphaa
open Go.RowKit

set_option maxHeartbeats 1000000 in
theorem walkMemoryNews (w : World) (n : Int) (_ : (Lit.int .i64 n).wf = true) :
    Calls Try.prog 3 #[.int .i64 n] w fun e w' => e = .returned (.bool true) ∧ Below w.heap.size w w' := by
  by_cases h : n < 1 ∨ 65536 < n
  · rcases h with h | h
    · go_enter Try.func3, Try.ntmps3
      go_wp2_with fail
      refine (new_no n _ (.inl h)).mono ?_
      rintro e w1 ⟨rfl, rfl⟩
      go_wp2_with fail
      refine (fixed_any _).mono ?_
      rintro e w2 ⟨rfl, hk⟩
      go_wp2
      go_ret
      exact ⟨rfl, none_below hk⟩
    · have h' : ¬ n < 1 := by omega
      go_enter Try.func3, Try.ntmps3
      go_wp2_with fail
      refine (new_no n _ (.inr h)).mono ?_
      rintro e w1 ⟨rfl, rfl⟩
      go_wp2_with fail
      refine (fixed_any _).mono ?_
      rintro e w2 ⟨rfl, hk⟩
      go_wp2
      go_ret
      exact ⟨rfl, none_below hk⟩
  · have h1 : ¬ n < 1 := by omega
    have h2 : ¬ 65536 < n := by omega
    clear h
    go_enter Try.func3, Try.ntmps3
    go_wp2_with fail
    refine (new_yes n _ (by omega) (by omega)).mono ?_
    rintro e w1 ⟨rfl, hM1, hk1⟩
    go_wp2_with fail
    refine (size_any _ _ _ _ _ hM1).mono ?_
    rintro e w2 ⟨rfl, rfl⟩
    obtain ⟨m, rfl⟩ := Int.eq_ofNat_of_zero_le (show 0 ≤ n by omega)
    simp only [List.length_replicate, Int.toNat_natCast]
    go_wp2_with fail
    refine (fixed_any _).mono ?_
    rintro e w2 ⟨rfl, hk⟩
    go_wp2
    go_ret
    exact ⟨rfl, none_below (hk1.trans hk)⟩
end Go.Proofs.Ytnfomlgjnckphaa

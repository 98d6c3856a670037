/- The walk of the law IrqNews. -/
import Derived.Test.YtcblncdfppkhcaaLineB
set_option linter.all false
namespace Go.Proofs.Ytcblncdfppkhcaa
open Go.RowKit

set_option maxRecDepth 100000 in
set_option maxHeartbeats 1000000 in
theorem walkIrqNews (w : World) (n : Int) (hn : (Lit.int .i64 n).wf = true) :
    Calls Try.prog 3 #[.int .i64 n] w fun e w' => e = .returned (.bool true) ∧ Below w.heap.size w w' := by
  by_cases h : n < 1 ∨ 64 < n
  · rcases h with h | h
    · go_enter Try.func3, Try.ntmps3
      go_wp2_with fail
      refine (new_no n _ (.inl h)).mono ?_
      rintro e w1 ⟨rfl, rfl⟩
      go_wp2_with fail
      refine (fixed_any _).mono ?_
      rintro e w2 ⟨rfl, hk⟩
      go_wp2
      go_ret
      exact ⟨rfl, none_below hk⟩
    · have h' : ¬ n < 1 := by omega
      go_enter Try.func3, Try.ntmps3
      go_wp2_with fail
      refine (new_no n _ (.inr h)).mono ?_
      rintro e w1 ⟨rfl, rfl⟩
      go_wp2_with fail
      refine (fixed_any _).mono ?_
      rintro e w2 ⟨rfl, hk⟩
      go_wp2
      go_ret
      exact ⟨rfl, none_below hk⟩
  · have h1 : ¬ n < 1 := by omega
    have h2 : ¬ 64 < n := by omega
    clear h
    go_enter Try.func3, Try.ntmps3
    go_wp2_with fail
    refine (new_yes n _ (by omega) (by omega)).mono ?_
    rintro e w1 ⟨rfl, hM1, hk1⟩
    obtain ⟨n, rfl⟩ := Int.eq_ofNat_of_zero_le (show 0 ≤ n by omega)
    rw [Int.toNat_natCast] at hM1
    obtain ⟨m, hm⟩ : ∃ m : Nat, n = m + 1 := ⟨n - 1, by omega⟩
    have hw : IntKind.i64.wrap ((n : Int) - 1) = (m : Int) := by rw [IntKind.wrap_i64]; omega
    have hx : (List.replicate n Ln.no)[m]? = some Ln.no := by simp [hm]
    clear hm
    go_wp2_with fail
    refine (bind_in _ _ _ _ m .no 0 0 _ hM1 hx rfl (by decide)).mono ?_
    rintro e w2 ⟨rfl, hM2, hk2⟩
    have hk3 := hk1.new hk2 (by intro i hi; omega)
    go_wp2_with fail
    refine (bind_out _ _ _ _ (n : Int) 0 0 _ hM2 (.inr (by simp)) (by omega)).mono ?_
    rintro e w3 ⟨rfl, rfl⟩
    go_wp2_with fail
    refine (fixed_any _).mono ?_
    rintro e w2 ⟨rfl, hk⟩
    go_wp2
    go_ret
    exact ⟨rfl, none_below (hk3.trans hk)⟩
end Go.Proofs.Ytcblncdfppkhcaa

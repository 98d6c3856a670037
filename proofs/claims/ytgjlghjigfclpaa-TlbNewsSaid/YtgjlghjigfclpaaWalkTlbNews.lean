/- The walk of the law TlbNews. -/
import Derived.Test.YtgjlghjigfclpaaTlbJ
set_option linter.all false
namespace Go.Proofs.Ytgjlghjigfclpaa
open Go.RowKit

set_option maxRecDepth 100000 in
theorem walkTlbNews (w : World) (room : Int) (hwf : (Lit.int .i64 room).wf = true) :
    Calls Try.prog 3 #[.int .i64 room] w fun e w' => e = .returned (.bool true) ∧ Below w.heap.size w w' := by
  by_cases h : room < 1 ∨ 256 < room
  · have hno := new_no room w h
    rcases h with h | h
    · go_enter Try.func3, Try.ntmps3
      go_wp2_with fail
      refine hno.mono ?_
      rintro e w1 ⟨rfl, rfl⟩
      go_wp2_with fail
      refine (fixed_any w).mono ?_
      rintro e w1 ⟨rfl, hk⟩
      go_wp2_with fail
      go_ret
      exact ⟨rfl, none_below hk⟩
    · have h' : ¬ room < 1 := by omega
      go_enter Try.func3, Try.ntmps3
      go_wp2_with fail
      refine hno.mono ?_
      rintro e w1 ⟨rfl, rfl⟩
      go_wp2_with fail
      refine (fixed_any w).mono ?_
      rintro e w1 ⟨rfl, hk⟩
      go_wp2_with fail
      go_ret
      exact ⟨rfl, none_below hk⟩
  · obtain ⟨n, rfl⟩ := Int.eq_ofNat_of_zero_le (show 0 ≤ room by omega)
    have h1 : ¬ ((n : Int) < 1) := by omega
    have h2 : ¬ (256 < (n : Int)) := by omega
    have hyes := new_yes n w (by omega) (by omega)
    clear h hwf
    go_enter Try.func3, Try.ntmps3
    go_wp2_with fail
    refine hyes.mono ?_
    rintro e w1 ⟨rfl, hT, hk1⟩
    go_wp2_with fail
    refine (lines_any _ n [] w1 hT (by decide)).mono ?_
    rintro e w2 ⟨v, rfl, hown, hk2⟩
    obtain ⟨ao, c, rfl, -⟩ := Src.of_own hown
    replace hk1 := hk1.trans hk2
    clear hown hT hk2
    go_wp2_with fail
    refine (fixed_any _).mono ?_
    rintro e w3 ⟨rfl, hk3⟩
    go_wp2_with fail
    go_ret
    exact ⟨rfl, none_below (hk1.trans hk3)⟩
end Go.Proofs.Ytgjlghjigfclpaa

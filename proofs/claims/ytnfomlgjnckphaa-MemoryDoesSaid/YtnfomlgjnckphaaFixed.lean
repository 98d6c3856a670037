/- The laws' own 'fixed': true, whatever the world. -/
import Derived.Test.YtnfomlgjnckphaaMemB
set_option linter.all false
namespace Go.Proofs.Ytnfomlgjnckphaa
open Go.RowKit

set_option maxHeartbeats 1000000 in
theorem fixed_any (w : World) : Calls Try.prog 12 #[] w fun e w' => e = .returned (.bool true) ∧ Kept (fun _ => False) w w' := by
  go_enter Try.func12, Try.ntmps12
  go_wp2_with fail
  refine (new_yes 4 _ (by decide) (by decide)).mono ?_
  rintro e w1 ⟨rfl, hM1, hk1⟩
  replace hM1 : Mem 55 w1 (w.heap.size + 1) w.heap.size 4 [0, 0, 0, 0] := hM1
  go_wp2_with fail
  refine (write_yes _ _ _ _ 1 7 _ hM1 (by decide) (by decide)).mono ?_
  rintro e w2 ⟨rfl, hM2, hk2⟩
  replace hM2 : Mem 55 w2 (w.heap.size + 1) w.heap.size 4 [0, 7, 0, 0] := hM2
  go_wp2_with fail
  refine (move_yes _ _ _ _ 2 1 2 _ hM2 (by decide) (by decide)).mono ?_
  rintro e w3 ⟨rfl, hM3, hk3⟩
  replace hM3 : Mem 55 w3 (w.heap.size + 1) w.heap.size 4 [0, 7, 7, 0] := hM3
  go_wp2_with fail
  refine (words_yes _ _ _ _ 0 4 _ hM3 (by decide)).mono ?_
  rintro e w4 ⟨v, rfl, hown, hk4⟩
  have hM4 := hM3.same hk4
  go_wp2_with fail
  refine (read_yes _ _ _ _ 2 _ hM4 (by decide) (by decide)).mono ?_
  rintro e w5 ⟨rfl, rfl⟩
  go_wp2_with fail
  refine (read_no _ _ _ _ 4 _ hM4 (by decide) (by decide)).mono ?_
  rintro e w5 ⟨rfl, rfl⟩
  go_wp2_with fail
  refine (fill_no _ _ _ _ 3 2 1 _ hM4 (by decide) (by decide) (by decide)).mono ?_
  rintro e w5 ⟨rfl, rfl⟩
  go_wp2_with fail
  refine (new_no 0 _ (by decide)).mono ?_
  rintro e w5 ⟨rfl, rfl⟩
  go_wp2_with fail
  refine (same_any _ _ 4 4 [0, 7, 7, 0] [0, 7, 7, 0] _ ((Src.of_own hown).alloc _) (Src.lit w4 _ 30 4 1 rfl) (by decide) (by decide)).mono ?_
  rintro e w5 ⟨rfl, hk5⟩
  have hM5 := (hM4.alloc (.cells #[.int .u64 0, .int .u64 7, .int .u64 7, .int .u64 0] 30)).same hk5
  go_wp2_with fail
  refine (size_any _ _ _ _ _ hM5).mono ?_
  rintro e w6 ⟨rfl, rfl⟩
  go_wp2
  go_ret
  refine ⟨rfl, ?_⟩
  have hg : ∀ i, i < w.heap.size → i = w.heap.size → False := fun i h e => by omega
  exact (((hk1.trans' hk2 hg).trans' hk3 hg).trans hk4).trans (((Kept.refl _ _).alloc _).trans hk5)
end Go.Proofs.Ytnfomlgjnckphaa

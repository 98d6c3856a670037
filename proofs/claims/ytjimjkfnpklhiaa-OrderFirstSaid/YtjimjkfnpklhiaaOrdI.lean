/- Package order: the law's own small functions. -/
import Derived.Test.YtjimjkfnpklhiaaOrdH
import Derived.Laws.Rows
set_option linter.all false
namespace Go.Proofs.Ytjimjkfnpklhiaa
open Go.RowKit Go.Maps

/-- Something that is seen of a core. -/
abbrev at_ (k c : Int) : Sn := ⟨k, c, c, ⟨0, 0, 0, []⟩, .slice none 0 0, 0, 0, false⟩
theorem at_any (k c : Int) (w : World) : Calls Try.prog 26 #[.int .i64 k, .int .i64 c] w fun e w' => e = .returned (snV (at_ k c)) ∧ New w w' := by
  go_enter Try.func26, Try.ntmps26
  go_wp2_with fail
  exact bodyPost_ret (v := snV (at_ k c)) (results_cell_row rfl _ _ w.heap.size 40 _ (0, 0) _ rfl (heap_alloc_new _ _) Try.underlying40 rfl (by kernel_rfl)) rfl ⟨rfl, (Kept.refl _ _).alloc _⟩
end Go.Proofs.Ytjimjkfnpklhiaa

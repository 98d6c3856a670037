/- Package order: the fixed calls' answers, reckoned. -/
import Derived.Test.YtjimjkfnpklhiaaOrdI
set_option linter.all false
namespace Go.Proofs.Ytjimjkfnpklhiaa
abbrev oth : Sn := ⟨2, 0, 0, ⟨0, 9, 0, []⟩, .slice none 0 0, 0, 0, false⟩
theorem fx1 : goE 2 [] 0 [at_ 0 0, at_ 1 0, at_ 2 0] 0 = (-1, [], 0) := by rfl
theorem fx2 : goE 2 [] 0 [at_ 1 0] 0 = (0, [], 0) := by rfl
theorem fx3 : (goE 2 [] 0 [at_ 0 0, at_ 0 1, at_ 1 1] 0).1 = 2 := by rfl
theorem fx4 : (goE 2 [] 0 [at_ 0 0, at_ 1 0, oth] 0).1 = 2 := by rfl
theorem fx5 : (goE 2 [] 0 [at_ 0 0, at_ 0 1, at_ 1 0] 0).1 = -1 ∧ coreL (goE 2 [] 0 [at_ 0 0, at_ 0 1, at_ 1 0] 0).2.1 = [0, 1] := ⟨by rfl, by rfl⟩
theorem fx6 : callsE [at_ 1 1, at_ 1 0, at_ 0 0] = [1, 0] := by rfl
theorem fx7 : (goE 2 [] 0 [at_ 0 0, at_ 0 1, at_ 1 0, at_ 2 0, at_ 1 1, at_ 2 1] 0).2.2 = 1 := by rfl
end Go.Proofs.Ytjimjkfnpklhiaa

/-
  No cell of these rows narrows 'for every input' (looked for: loops, veiled, ifaces, maps, wideKeys, modest, calm, conditions, laid).
  DERIVED. THE GIVEN ROWS OF THIS SEAT. 6 by the template 'for every input the law returns true; each argument reads behind the call as it read before'; 0 by the template 'total and deterministic' (their statements: YtcblncdfppkhcaaTotals.lean).
  GIVEN WITH THE SEED: the statements are not yours to turn. If you find one false, say at which input.
  Laid BY PROGRAM, IN A SANDBOX (cutbox-rows.mjs): the forced cells as the released guide's own fill.sh prints them over the translation b93e5d443d850d18… (all of the seat's roots in one cut). By AI agents, Wed Nov 11 2026. No macro, syntax, notation, axiom, sorry.
-/
import Derived.Test.YtcblncdfppkhcaaChecked
import GoSem.Claim
import GoSem.ClaimJoined
import GoSem.ClaimMapViews
import Derived.JoinedTies
import Derived.KernelRfl
namespace Go.Proofs.Ytcblncdfppkhcaa
/- THE CELL 'sum', in the pinned program and in every row, IS THE sha256 OF THE DUMP (.gsa) THAT YtcblncdfppkhcaaProg.lean LOADS. Nothing in Lean hashes anything: it is a label: what it is worth is what the hold of that sum in a sandbox is worth. -/
noncomputable def Try.pinned : Pinned := { name := "ytcblncdfppkhcaa", sum := "b93e5d443d850d18f57f4f24acdd905718056864081b81b5a0cb4744d850cee5", checked := Try.checked }
namespace Rows
def none {H : Type} : Left H := { results := [], args := [] }

/-- 'buttresslaw13.IrqNews': WHATEVER THE INPUT: true; the input reads as it did. -/
def irqNewsSpec : ChangeSpec := { name := "irqNews", fn := fun _ => fun
  | [d] => { results := [.lit (.bool true)], args := [d] }
  | _ => none }
def irqNewsRow : OpenClaim := { program := "ytcblncdfppkhcaa", sum := "b93e5d443d850d18f57f4f24acdd905718056864081b81b5a0cb4744d850cee5", func := "buttress/buttresslaw13.IrqNews", spec := "irqNews", apart := false }
def IrqNewsSaid : Prop := irqNewsRow.holds Try.pinned (OpenSpec.ofChange irqNewsSpec)

/-- ITS FALSE NEIGHBOUR: 'it returns false'. Refute it at one input. -/
def irqNewsWrong : ChangeSpec := { name := "irqNews", fn := fun _ => fun
  | [d] => { results := [.lit (.bool false)], args := [d] }
  | _ => none }
def IrqNewsWrongFalsely : Prop := irqNewsRow.holds Try.pinned (OpenSpec.ofChange irqNewsWrong)

/-- 'buttresslaw13.IrqOnce': WHATEVER THE INPUT: true; the input reads as it did. -/
def irqOnceSpec : ChangeSpec := { name := "irqOnce", fn := fun _ => fun
  | [d] => { results := [.lit (.bool true)], args := [d] }
  | _ => none }
def irqOnceRow : OpenClaim := { program := "ytcblncdfppkhcaa", sum := "b93e5d443d850d18f57f4f24acdd905718056864081b81b5a0cb4744d850cee5", func := "buttress/buttresslaw13.IrqOnce", spec := "irqOnce", apart := false }
def IrqOnceSaid : Prop := irqOnceRow.holds Try.pinned (OpenSpec.ofChange irqOnceSpec)

/-- ITS FALSE NEIGHBOUR: 'it returns false'. Refute it at one input. -/
def irqOnceWrong : ChangeSpec := { name := "irqOnce", fn := fun _ => fun
  | [d] => { results := [.lit (.bool false)], args := [d] }
  | _ => none }
def IrqOnceWrongFalsely : Prop := irqOnceRow.holds Try.pinned (OpenSpec.ofChange irqOnceWrong)

/-- 'buttresslaw13.IrqApart': WHATEVER THE INPUT: true; the input reads as it did. -/
def irqApartSpec : ChangeSpec := { name := "irqApart", fn := fun _ => fun
  | [d1, d2] => { results := [.lit (.bool true)], args := [d1, d2] }
  | _ => none }
def irqApartRow : OpenClaim := { program := "ytcblncdfppkhcaa", sum := "b93e5d443d850d18f57f4f24acdd905718056864081b81b5a0cb4744d850cee5", func := "buttress/buttresslaw13.IrqApart", spec := "irqApart", apart := false }
def IrqApartSaid : Prop := irqApartRow.holds Try.pinned (OpenSpec.ofChange irqApartSpec)

/-- ITS FALSE NEIGHBOUR: 'it returns false'. Refute it at one input. -/
def irqApartWrong : ChangeSpec := { name := "irqApart", fn := fun _ => fun
  | [d1, d2] => { results := [.lit (.bool false)], args := [d1, d2] }
  | _ => none }
def IrqApartWrongFalsely : Prop := irqApartRow.holds Try.pinned (OpenSpec.ofChange irqApartWrong)

/-- 'buttresslaw13.IrqFrees': WHATEVER THE INPUT: true; the input reads as it did. -/
def irqFreesSpec : ChangeSpec := { name := "irqFrees", fn := fun _ => fun
  | [d1, d2, d3] => { results := [.lit (.bool true)], args := [d1, d2, d3] }
  | _ => none }
def irqFreesRow : OpenClaim := { program := "ytcblncdfppkhcaa", sum := "b93e5d443d850d18f57f4f24acdd905718056864081b81b5a0cb4744d850cee5", func := "buttress/buttresslaw13.IrqFrees", spec := "irqFrees", apart := false }
def IrqFreesSaid : Prop := irqFreesRow.holds Try.pinned (OpenSpec.ofChange irqFreesSpec)

/-- ITS FALSE NEIGHBOUR: 'it returns false'. Refute it at one input. -/
def irqFreesWrong : ChangeSpec := { name := "irqFrees", fn := fun _ => fun
  | [d1, d2, d3] => { results := [.lit (.bool false)], args := [d1, d2, d3] }
  | _ => none }
def IrqFreesWrongFalsely : Prop := irqFreesRow.holds Try.pinned (OpenSpec.ofChange irqFreesWrong)

/-- 'buttresslaw13.IrqNone': WHATEVER THE INPUT: true; the input reads as it did. -/
def irqNoneSpec : ChangeSpec := { name := "irqNone", fn := fun _ => fun
  | [d1, d2, d3] => { results := [.lit (.bool true)], args := [d1, d2, d3] }
  | _ => none }
def irqNoneRow : OpenClaim := { program := "ytcblncdfppkhcaa", sum := "b93e5d443d850d18f57f4f24acdd905718056864081b81b5a0cb4744d850cee5", func := "buttress/buttresslaw13.IrqNone", spec := "irqNone", apart := false }
def IrqNoneSaid : Prop := irqNoneRow.holds Try.pinned (OpenSpec.ofChange irqNoneSpec)

/-- ITS FALSE NEIGHBOUR: 'it returns false'. Refute it at one input. -/
def irqNoneWrong : ChangeSpec := { name := "irqNone", fn := fun _ => fun
  | [d1, d2, d3] => { results := [.lit (.bool false)], args := [d1, d2, d3] }
  | _ => none }
def IrqNoneWrongFalsely : Prop := irqNoneRow.holds Try.pinned (OpenSpec.ofChange irqNoneWrong)

/-- 'buttresslaw13.IrqDoes': WHATEVER THE INPUT: true; the input reads as it did. -/
def irqDoesSpec : ChangeSpec := { name := "irqDoes", fn := fun _ => fun
  | [d1, d2] => { results := [.lit (.bool true)], args := [d1, d2] }
  | _ => none }
def irqDoesRow : OpenClaim := { program := "ytcblncdfppkhcaa", sum := "b93e5d443d850d18f57f4f24acdd905718056864081b81b5a0cb4744d850cee5", func := "buttress/buttresslaw13.IrqDoes", spec := "irqDoes", apart := false }
def IrqDoesSaid : Prop := irqDoesRow.holds Try.pinned (OpenSpec.ofChange irqDoesSpec)

/-- ITS FALSE NEIGHBOUR: 'it returns false'. Refute it at one input. -/
def irqDoesWrong : ChangeSpec := { name := "irqDoes", fn := fun _ => fun
  | [d1, d2] => { results := [.lit (.bool false)], args := [d1, d2] }
  | _ => none }
def IrqDoesWrongFalsely : Prop := irqDoesRow.holds Try.pinned (OpenSpec.ofChange irqDoesWrong)

/- THE SECOND FORM. 'bulk': how many values and letters a reading holds, each counted each time it is reached (what is shared counts as often as it is met; a slice's spare places count too). A statement '..UptoSaid' is the law's where the arguments, and the package variables that the reading takes, are together of bulk at most 1048576: NARROWER than '..Said'. Prove '..Said' where nothing that the law and all that it calls make is longer than what came in: it says more and counts as full. Else prove '..UptoSaid'. A law counts once. -/
mutual
def uptoBulk {H : Type} : DataW H → Nat
  | .lit (.string bytes) => bytes.length + 1
  | .lit _ => 1
  | .nil => 1
  | .ptr d => uptoBulk d + 1
  | .slice elems spare => uptoBulkAll elems + uptoBulkAll spare + 1
  | .agg parts => uptoBulkAll parts + 1
  | .iface _ d => uptoBulk d + 1
  | .map entries => uptoBulkEntries entries + 1
  | .held _ => 1
def uptoBulkAll {H : Type} : List (DataW H) → Nat
  | [] => 0
  | d :: r => uptoBulk d + uptoBulkAll r
def uptoBulkEntries {H : Type} : List (Lit × DataW H) → Nat
  | [] => 0
  | x :: r => uptoBulkEntry x + uptoBulkEntries r
def uptoBulkEntry {H : Type} : Lit × DataW H → Nat
  | (.string bytes, d) => bytes.length + uptoBulk d + 1
  | (_, d) => uptoBulk d + 1
 end
def uptoSmall : (H : Type) → List (DataW H) → Bool := fun _ ds => decide (uptoBulkAll ds ≤ 1048576)
def OpenSpec.upto (s : _root_.Go.ChangeSpec) : _root_.Go.OpenSpec := { _root_.Go.OpenSpec.ofChange s with cond := some uptoSmall }

/-- 'buttresslaw13.IrqNews', WHERE WHAT IT READS IS OF BULK AT MOST 1048576: true; the input reads as it did. -/
def irqNewsUptoRow : OpenClaim := { program := "ytcblncdfppkhcaa", sum := "b93e5d443d850d18f57f4f24acdd905718056864081b81b5a0cb4744d850cee5", func := "buttress/buttresslaw13.IrqNews", spec := "irqNews", apart := false, narrowed := true }
def IrqNewsUptoSaid : Prop := irqNewsUptoRow.holds Try.pinned (OpenSpec.upto irqNewsSpec)

/-- 'buttresslaw13.IrqOnce', WHERE WHAT IT READS IS OF BULK AT MOST 1048576: true; the input reads as it did. -/
def irqOnceUptoRow : OpenClaim := { program := "ytcblncdfppkhcaa", sum := "b93e5d443d850d18f57f4f24acdd905718056864081b81b5a0cb4744d850cee5", func := "buttress/buttresslaw13.IrqOnce", spec := "irqOnce", apart := false, narrowed := true }
def IrqOnceUptoSaid : Prop := irqOnceUptoRow.holds Try.pinned (OpenSpec.upto irqOnceSpec)

/-- 'buttresslaw13.IrqApart', WHERE WHAT IT READS IS OF BULK AT MOST 1048576: true; the input reads as it did. -/
def irqApartUptoRow : OpenClaim := { program := "ytcblncdfppkhcaa", sum := "b93e5d443d850d18f57f4f24acdd905718056864081b81b5a0cb4744d850cee5", func := "buttress/buttresslaw13.IrqApart", spec := "irqApart", apart := false, narrowed := true }
def IrqApartUptoSaid : Prop := irqApartUptoRow.holds Try.pinned (OpenSpec.upto irqApartSpec)

/-- 'buttresslaw13.IrqFrees', WHERE WHAT IT READS IS OF BULK AT MOST 1048576: true; the input reads as it did. -/
def irqFreesUptoRow : OpenClaim := { program := "ytcblncdfppkhcaa", sum := "b93e5d443d850d18f57f4f24acdd905718056864081b81b5a0cb4744d850cee5", func := "buttress/buttresslaw13.IrqFrees", spec := "irqFrees", apart := false, narrowed := true }
def IrqFreesUptoSaid : Prop := irqFreesUptoRow.holds Try.pinned (OpenSpec.upto irqFreesSpec)

/-- 'buttresslaw13.IrqNone', WHERE WHAT IT READS IS OF BULK AT MOST 1048576: true; the input reads as it did. -/
def irqNoneUptoRow : OpenClaim := { program := "ytcblncdfppkhcaa", sum := "b93e5d443d850d18f57f4f24acdd905718056864081b81b5a0cb4744d850cee5", func := "buttress/buttresslaw13.IrqNone", spec := "irqNone", apart := false, narrowed := true }
def IrqNoneUptoSaid : Prop := irqNoneUptoRow.holds Try.pinned (OpenSpec.upto irqNoneSpec)

/-- 'buttresslaw13.IrqDoes', WHERE WHAT IT READS IS OF BULK AT MOST 1048576: true; the input reads as it did. -/
def irqDoesUptoRow : OpenClaim := { program := "ytcblncdfppkhcaa", sum := "b93e5d443d850d18f57f4f24acdd905718056864081b81b5a0cb4744d850cee5", func := "buttress/buttresslaw13.IrqDoes", spec := "irqDoes", apart := false, narrowed := true }
def IrqDoesUptoSaid : Prop := irqDoesUptoRow.holds Try.pinned (OpenSpec.upto irqDoesSpec)

end Rows
end Go.Proofs.Ytcblncdfppkhcaa

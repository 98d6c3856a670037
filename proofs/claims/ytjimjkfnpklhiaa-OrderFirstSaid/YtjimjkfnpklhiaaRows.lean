/-
  No cell of these rows narrows 'for every input' (looked for: loops, veiled, ifaces, maps, wideKeys, modest, calm, conditions, laid).
  DERIVED. THE GIVEN ROWS OF THIS SEAT. 7 by the template 'for every input the law returns true; each argument reads behind the call as it read before'; 0 by the template 'total and deterministic' (their statements: YtjimjkfnpklhiaaTotals.lean).
  GIVEN WITH THE SEED: the statements are not yours to turn. If you find one false, say at which input.
  Laid BY PROGRAM, IN A SANDBOX (cutbox-rows.mjs): the forced cells as the released guide's own fill.sh prints them over the translation 4db17de93720f921… (all of the seat's roots in one cut). By AI agents, Wed Nov 11 2026. No macro, syntax, notation, axiom, sorry.
-/
import Derived.Test.YtjimjkfnpklhiaaChecked
import GoSem.Claim
import GoSem.ClaimJoined
import GoSem.ClaimMapViews
import Derived.JoinedTies
import Derived.KernelRfl
namespace Go.Proofs.Ytjimjkfnpklhiaa
/- THE CELL 'sum', in the pinned program and in every row, IS THE sha256 OF THE DUMP (.gsa) THAT YtjimjkfnpklhiaaProg.lean LOADS. Nothing in Lean hashes anything: it is a label: what it is worth is what the hold of that sum in a sandbox is worth. -/
noncomputable def Try.pinned : Pinned := { name := "ytjimjkfnpklhiaa", sum := "4db17de93720f9215bd9bd3d993ddd7c3440b81554d983871f47c54e20bc056f", checked := Try.checked }
namespace Rows
def none {H : Type} : Left H := { results := [], args := [] }

/-- 'buttresslaw20.OrderFirst': WHATEVER THE INPUT: true; the input reads as it did. -/
def orderFirstSpec : ChangeSpec := { name := "orderFirst", fn := fun _ => fun
  | [d1, d2] => { results := [.lit (.bool true)], args := [d1, d2] }
  | _ => none }
def orderFirstRow : OpenClaim := { program := "ytjimjkfnpklhiaa", sum := "4db17de93720f9215bd9bd3d993ddd7c3440b81554d983871f47c54e20bc056f", func := "buttress/buttresslaw20.OrderFirst", spec := "orderFirst", apart := false }
def OrderFirstSaid : Prop := orderFirstRow.holds Try.pinned (OpenSpec.ofChange orderFirstSpec)

/-- ITS FALSE NEIGHBOUR: 'it returns false'. Refute it at one input. -/
def orderFirstWrong : ChangeSpec := { name := "orderFirst", fn := fun _ => fun
  | [d1, d2] => { results := [.lit (.bool false)], args := [d1, d2] }
  | _ => none }
def OrderFirstWrongFalsely : Prop := orderFirstRow.holds Try.pinned (OpenSpec.ofChange orderFirstWrong)

/-- 'buttresslaw20.OrderAhead': WHATEVER THE INPUT: true; the input reads as it did. -/
def orderAheadSpec : ChangeSpec := { name := "orderAhead", fn := fun _ => fun
  | [d1, d2, d3] => { results := [.lit (.bool true)], args := [d1, d2, d3] }
  | _ => none }
def orderAheadRow : OpenClaim := { program := "ytjimjkfnpklhiaa", sum := "4db17de93720f9215bd9bd3d993ddd7c3440b81554d983871f47c54e20bc056f", func := "buttress/buttresslaw20.OrderAhead", spec := "orderAhead", apart := false }
def OrderAheadSaid : Prop := orderAheadRow.holds Try.pinned (OpenSpec.ofChange orderAheadSpec)

/-- ITS FALSE NEIGHBOUR: 'it returns false'. Refute it at one input. -/
def orderAheadWrong : ChangeSpec := { name := "orderAhead", fn := fun _ => fun
  | [d1, d2, d3] => { results := [.lit (.bool false)], args := [d1, d2, d3] }
  | _ => none }
def OrderAheadWrongFalsely : Prop := orderAheadRow.holds Try.pinned (OpenSpec.ofChange orderAheadWrong)

/-- 'buttresslaw20.OrderWaits': WHATEVER THE INPUT: true; the input reads as it did. -/
def orderWaitsSpec : ChangeSpec := { name := "orderWaits", fn := fun _ => fun
  | [d1, d2] => { results := [.lit (.bool true)], args := [d1, d2] }
  | _ => none }
def orderWaitsRow : OpenClaim := { program := "ytjimjkfnpklhiaa", sum := "4db17de93720f9215bd9bd3d993ddd7c3440b81554d983871f47c54e20bc056f", func := "buttress/buttresslaw20.OrderWaits", spec := "orderWaits", apart := false }
def OrderWaitsSaid : Prop := orderWaitsRow.holds Try.pinned (OpenSpec.ofChange orderWaitsSpec)

/-- ITS FALSE NEIGHBOUR: 'it returns false'. Refute it at one input. -/
def orderWaitsWrong : ChangeSpec := { name := "orderWaits", fn := fun _ => fun
  | [d1, d2] => { results := [.lit (.bool false)], args := [d1, d2] }
  | _ => none }
def OrderWaitsWrongFalsely : Prop := orderWaitsRow.holds Try.pinned (OpenSpec.ofChange orderWaitsWrong)

/-- 'buttresslaw20.OrderOne': WHATEVER THE INPUT: true; the input reads as it did. -/
def orderOneSpec : ChangeSpec := { name := "orderOne", fn := fun _ => fun
  | [d] => { results := [.lit (.bool true)], args := [d] }
  | _ => none }
def orderOneRow : OpenClaim := { program := "ytjimjkfnpklhiaa", sum := "4db17de93720f9215bd9bd3d993ddd7c3440b81554d983871f47c54e20bc056f", func := "buttress/buttresslaw20.OrderOne", spec := "orderOne", apart := false }
def OrderOneSaid : Prop := orderOneRow.holds Try.pinned (OpenSpec.ofChange orderOneSpec)

/-- ITS FALSE NEIGHBOUR: 'it returns false'. Refute it at one input. -/
def orderOneWrong : ChangeSpec := { name := "orderOne", fn := fun _ => fun
  | [d] => { results := [.lit (.bool false)], args := [d] }
  | _ => none }
def OrderOneWrongFalsely : Prop := orderOneRow.holds Try.pinned (OpenSpec.ofChange orderOneWrong)

/-- 'buttresslaw20.OrderTold': WHATEVER THE INPUT: true; the input reads as it did. -/
def orderToldSpec : ChangeSpec := { name := "orderTold", fn := fun _ => fun
  | [d1, d2, d3] => { results := [.lit (.bool true)], args := [d1, d2, d3] }
  | _ => none }
def orderToldRow : OpenClaim := { program := "ytjimjkfnpklhiaa", sum := "4db17de93720f9215bd9bd3d993ddd7c3440b81554d983871f47c54e20bc056f", func := "buttress/buttresslaw20.OrderTold", spec := "orderTold", apart := false }
def OrderToldSaid : Prop := orderToldRow.holds Try.pinned (OpenSpec.ofChange orderToldSpec)

/-- ITS FALSE NEIGHBOUR: 'it returns false'. Refute it at one input. -/
def orderToldWrong : ChangeSpec := { name := "orderTold", fn := fun _ => fun
  | [d1, d2, d3] => { results := [.lit (.bool false)], args := [d1, d2, d3] }
  | _ => none }
def OrderToldWrongFalsely : Prop := orderToldRow.holds Try.pinned (OpenSpec.ofChange orderToldWrong)

/-- 'buttresslaw20.OrderLines': WHATEVER THE INPUT: true; the input reads as it did. -/
def orderLinesSpec : ChangeSpec := { name := "orderLines", fn := fun _ => fun
  | [d1, d2] => { results := [.lit (.bool true)], args := [d1, d2] }
  | _ => none }
def orderLinesRow : OpenClaim := { program := "ytjimjkfnpklhiaa", sum := "4db17de93720f9215bd9bd3d993ddd7c3440b81554d983871f47c54e20bc056f", func := "buttress/buttresslaw20.OrderLines", spec := "orderLines", apart := false }
def OrderLinesSaid : Prop := orderLinesRow.holds Try.pinned (OpenSpec.ofChange orderLinesSpec)

/-- ITS FALSE NEIGHBOUR: 'it returns false'. Refute it at one input. -/
def orderLinesWrong : ChangeSpec := { name := "orderLines", fn := fun _ => fun
  | [d1, d2] => { results := [.lit (.bool false)], args := [d1, d2] }
  | _ => none }
def OrderLinesWrongFalsely : Prop := orderLinesRow.holds Try.pinned (OpenSpec.ofChange orderLinesWrong)

/-- 'buttresslaw20.OrderLoads': WHATEVER THE INPUT: true; the input reads as it did. -/
def orderLoadsSpec : ChangeSpec := { name := "orderLoads", fn := fun _ => fun
  | [d1, d2, d3] => { results := [.lit (.bool true)], args := [d1, d2, d3] }
  | _ => none }
def orderLoadsRow : OpenClaim := { program := "ytjimjkfnpklhiaa", sum := "4db17de93720f9215bd9bd3d993ddd7c3440b81554d983871f47c54e20bc056f", func := "buttress/buttresslaw20.OrderLoads", spec := "orderLoads", apart := false }
def OrderLoadsSaid : Prop := orderLoadsRow.holds Try.pinned (OpenSpec.ofChange orderLoadsSpec)

/-- ITS FALSE NEIGHBOUR: 'it returns false'. Refute it at one input. -/
def orderLoadsWrong : ChangeSpec := { name := "orderLoads", fn := fun _ => fun
  | [d1, d2, d3] => { results := [.lit (.bool false)], args := [d1, d2, d3] }
  | _ => none }
def OrderLoadsWrongFalsely : Prop := orderLoadsRow.holds Try.pinned (OpenSpec.ofChange orderLoadsWrong)

/- THE SECOND FORM. 'bulk': how many values and letters a reading holds, each counted each time it is reached (what is shared counts as often as it is met; a slice's spare places count too). A statement '..UptoSaid' is the law's where the arguments, and the package variables that the reading takes, are together of bulk at most 1048576: NARROWER than '..Said'. Prove '..Said' where nothing that the law and all that it calls make is longer than what came in: it says more and counts as full. Else prove '..UptoSaid'. A law counts once. -/
mutual
def uptoBulk {H : Type} : DataW H → Nat
  | .lit (.string bytes) => bytes.length + 1
  | .lit _ => 1
  | .nil => 1
  | .ptr d => uptoBulk d + 1
  | .slice elems spare => uptoBulkAll elems + uptoBulkAll spare + 1
  | .agg parts => uptoBulkAll parts + 1
  | .iface _ d => uptoBulk d + 1
  | .map entries => uptoBulkEntries entries + 1
  | .held _ => 1
def uptoBulkAll {H : Type} : List (DataW H) → Nat
  | [] => 0
  | d :: r => uptoBulk d + uptoBulkAll r
def uptoBulkEntries {H : Type} : List (Lit × DataW H) → Nat
  | [] => 0
  | x :: r => uptoBulkEntry x + uptoBulkEntries r
def uptoBulkEntry {H : Type} : Lit × DataW H → Nat
  | (.string bytes, d) => bytes.length + uptoBulk d + 1
  | (_, d) => uptoBulk d + 1
 end
def uptoSmall : (H : Type) → List (DataW H) → Bool := fun _ ds => decide (uptoBulkAll ds ≤ 1048576)
def OpenSpec.upto (s : _root_.Go.ChangeSpec) : _root_.Go.OpenSpec := { _root_.Go.OpenSpec.ofChange s with cond := some uptoSmall }

/-- 'buttresslaw20.OrderFirst', WHERE WHAT IT READS IS OF BULK AT MOST 1048576: true; the input reads as it did. -/
def orderFirstUptoRow : OpenClaim := { program := "ytjimjkfnpklhiaa", sum := "4db17de93720f9215bd9bd3d993ddd7c3440b81554d983871f47c54e20bc056f", func := "buttress/buttresslaw20.OrderFirst", spec := "orderFirst", apart := false, narrowed := true }
def OrderFirstUptoSaid : Prop := orderFirstUptoRow.holds Try.pinned (OpenSpec.upto orderFirstSpec)

/-- 'buttresslaw20.OrderAhead', WHERE WHAT IT READS IS OF BULK AT MOST 1048576: true; the input reads as it did. -/
def orderAheadUptoRow : OpenClaim := { program := "ytjimjkfnpklhiaa", sum := "4db17de93720f9215bd9bd3d993ddd7c3440b81554d983871f47c54e20bc056f", func := "buttress/buttresslaw20.OrderAhead", spec := "orderAhead", apart := false, narrowed := true }
def OrderAheadUptoSaid : Prop := orderAheadUptoRow.holds Try.pinned (OpenSpec.upto orderAheadSpec)

/-- 'buttresslaw20.OrderWaits', WHERE WHAT IT READS IS OF BULK AT MOST 1048576: true; the input reads as it did. -/
def orderWaitsUptoRow : OpenClaim := { program := "ytjimjkfnpklhiaa", sum := "4db17de93720f9215bd9bd3d993ddd7c3440b81554d983871f47c54e20bc056f", func := "buttress/buttresslaw20.OrderWaits", spec := "orderWaits", apart := false, narrowed := true }
def OrderWaitsUptoSaid : Prop := orderWaitsUptoRow.holds Try.pinned (OpenSpec.upto orderWaitsSpec)

/-- 'buttresslaw20.OrderOne', WHERE WHAT IT READS IS OF BULK AT MOST 1048576: true; the input reads as it did. -/
def orderOneUptoRow : OpenClaim := { program := "ytjimjkfnpklhiaa", sum := "4db17de93720f9215bd9bd3d993ddd7c3440b81554d983871f47c54e20bc056f", func := "buttress/buttresslaw20.OrderOne", spec := "orderOne", apart := false, narrowed := true }
def OrderOneUptoSaid : Prop := orderOneUptoRow.holds Try.pinned (OpenSpec.upto orderOneSpec)

/-- 'buttresslaw20.OrderTold', WHERE WHAT IT READS IS OF BULK AT MOST 1048576: true; the input reads as it did. -/
def orderToldUptoRow : OpenClaim := { program := "ytjimjkfnpklhiaa", sum := "4db17de93720f9215bd9bd3d993ddd7c3440b81554d983871f47c54e20bc056f", func := "buttress/buttresslaw20.OrderTold", spec := "orderTold", apart := false, narrowed := true }
def OrderToldUptoSaid : Prop := orderToldUptoRow.holds Try.pinned (OpenSpec.upto orderToldSpec)

/-- 'buttresslaw20.OrderLines', WHERE WHAT IT READS IS OF BULK AT MOST 1048576: true; the input reads as it did. -/
def orderLinesUptoRow : OpenClaim := { program := "ytjimjkfnpklhiaa", sum := "4db17de93720f9215bd9bd3d993ddd7c3440b81554d983871f47c54e20bc056f", func := "buttress/buttresslaw20.OrderLines", spec := "orderLines", apart := false, narrowed := true }
def OrderLinesUptoSaid : Prop := orderLinesUptoRow.holds Try.pinned (OpenSpec.upto orderLinesSpec)

/-- 'buttresslaw20.OrderLoads', WHERE WHAT IT READS IS OF BULK AT MOST 1048576: true; the input reads as it did. -/
def orderLoadsUptoRow : OpenClaim := { program := "ytjimjkfnpklhiaa", sum := "4db17de93720f9215bd9bd3d993ddd7c3440b81554d983871f47c54e20bc056f", func := "buttress/buttresslaw20.OrderLoads", spec := "orderLoads", apart := false, narrowed := true }
def OrderLoadsUptoSaid : Prop := orderLoadsUptoRow.holds Try.pinned (OpenSpec.upto orderLoadsSpec)

end Rows
end Go.Proofs.Ytjimjkfnpklhiaa

/-
  No cell of these rows narrows 'for every input' (looked for: loops, veiled, ifaces, maps, wideKeys, modest, calm, conditions, laid).
  DERIVED. THE GIVEN ROWS OF THIS SEAT. 7 by the template 'for every input the law returns true; each argument reads behind the call as it read before'; 0 by the template 'total and deterministic' (their statements: YtanongcaokldmaaTotals.lean).
  GIVEN WITH THE SEED: the statements are not yours to turn. If you find one false, say at which input.
  Laid BY PROGRAM, IN A SANDBOX (cutbox-rows.mjs): the forced cells as the released guide's own fill.sh prints them over the translation 19db6c4869c4c493… (all of the seat's roots in one cut). By AI agents, Wed Nov 11 2026. No macro, syntax, notation, axiom, sorry.
-/
import Derived.Test.YtanongcaokldmaaChecked
import GoSem.Claim
import GoSem.ClaimJoined
import GoSem.ClaimMapViews
import Derived.JoinedTies
import Derived.KernelRfl
namespace Go.Proofs.Ytanongcaokldmaa
/- THE CELL 'sum', in the pinned program and in every row, IS THE sha256 OF THE DUMP (.gsa) THAT YtanongcaokldmaaProg.lean LOADS. Nothing in Lean hashes anything: it is a label: what it is worth is what the hold of that sum in a sandbox is worth. -/
noncomputable def Try.pinned : Pinned := { name := "ytanongcaokldmaa", sum := "19db6c4869c4c49313b7a2964c495ac374f2fb0b7b23469bfd14c61ade234b63", checked := Try.checked }
namespace Rows
def none {H : Type} : Left H := { results := [], args := [] }

/-- 'buttresslaw11.EndpointOnce': WHATEVER THE INPUT: true; the input reads as it did. -/
def endpointOnceSpec : ChangeSpec := { name := "endpointOnce", fn := fun _ => fun
  | [d] => { results := [.lit (.bool true)], args := [d] }
  | _ => none }
def endpointOnceRow : OpenClaim := { program := "ytanongcaokldmaa", sum := "19db6c4869c4c49313b7a2964c495ac374f2fb0b7b23469bfd14c61ade234b63", func := "buttress/buttresslaw11.EndpointOnce", spec := "endpointOnce", unfollowed := true, recurses := true, apart := false }
def EndpointOnceSaid : Prop := endpointOnceRow.holds Try.pinned (OpenSpec.ofChange endpointOnceSpec)

/-- ITS FALSE NEIGHBOUR: 'it returns false'. Refute it at one input. -/
def endpointOnceWrong : ChangeSpec := { name := "endpointOnce", fn := fun _ => fun
  | [d] => { results := [.lit (.bool false)], args := [d] }
  | _ => none }
def EndpointOnceWrongFalsely : Prop := endpointOnceRow.holds Try.pinned (OpenSpec.ofChange endpointOnceWrong)

/-- 'buttresslaw11.EndpointOrder': WHATEVER THE INPUT: true; the input reads as it did. -/
def endpointOrderSpec : ChangeSpec := { name := "endpointOrder", fn := fun _ => fun
  | [d] => { results := [.lit (.bool true)], args := [d] }
  | _ => none }
def endpointOrderRow : OpenClaim := { program := "ytanongcaokldmaa", sum := "19db6c4869c4c49313b7a2964c495ac374f2fb0b7b23469bfd14c61ade234b63", func := "buttress/buttresslaw11.EndpointOrder", spec := "endpointOrder", unfollowed := true, recurses := true, apart := false }
def EndpointOrderSaid : Prop := endpointOrderRow.holds Try.pinned (OpenSpec.ofChange endpointOrderSpec)

/-- ITS FALSE NEIGHBOUR: 'it returns false'. Refute it at one input. -/
def endpointOrderWrong : ChangeSpec := { name := "endpointOrder", fn := fun _ => fun
  | [d] => { results := [.lit (.bool false)], args := [d] }
  | _ => none }
def EndpointOrderWrongFalsely : Prop := endpointOrderRow.holds Try.pinned (OpenSpec.ofChange endpointOrderWrong)

/-- 'buttresslaw11.EndpointQuick': WHATEVER THE INPUT: true; the input reads as it did. -/
def endpointQuickSpec : ChangeSpec := { name := "endpointQuick", fn := fun _ => fun
  | [d1, d2, d3] => { results := [.lit (.bool true)], args := [d1, d2, d3] }
  | _ => none }
def endpointQuickRow : OpenClaim := { program := "ytanongcaokldmaa", sum := "19db6c4869c4c49313b7a2964c495ac374f2fb0b7b23469bfd14c61ade234b63", func := "buttress/buttresslaw11.EndpointQuick", spec := "endpointQuick", unfollowed := true, recurses := true, apart := false }
def EndpointQuickSaid : Prop := endpointQuickRow.holds Try.pinned (OpenSpec.ofChange endpointQuickSpec)

/-- ITS FALSE NEIGHBOUR: 'it returns false'. Refute it at one input. -/
def endpointQuickWrong : ChangeSpec := { name := "endpointQuick", fn := fun _ => fun
  | [d1, d2, d3] => { results := [.lit (.bool false)], args := [d1, d2, d3] }
  | _ => none }
def EndpointQuickWrongFalsely : Prop := endpointQuickRow.holds Try.pinned (OpenSpec.ofChange endpointQuickWrong)

/-- 'buttresslaw11.EndpointCancels': WHATEVER THE INPUT: true; the input reads as it did. -/
def endpointCancelsSpec : ChangeSpec := { name := "endpointCancels", fn := fun _ => fun
  | [d1, d2] => { results := [.lit (.bool true)], args := [d1, d2] }
  | _ => none }
def endpointCancelsRow : OpenClaim := { program := "ytanongcaokldmaa", sum := "19db6c4869c4c49313b7a2964c495ac374f2fb0b7b23469bfd14c61ade234b63", func := "buttress/buttresslaw11.EndpointCancels", spec := "endpointCancels", unfollowed := true, recurses := true, apart := false }
def EndpointCancelsSaid : Prop := endpointCancelsRow.holds Try.pinned (OpenSpec.ofChange endpointCancelsSpec)

/-- ITS FALSE NEIGHBOUR: 'it returns false'. Refute it at one input. -/
def endpointCancelsWrong : ChangeSpec := { name := "endpointCancels", fn := fun _ => fun
  | [d1, d2] => { results := [.lit (.bool false)], args := [d1, d2] }
  | _ => none }
def EndpointCancelsWrongFalsely : Prop := endpointCancelsRow.holds Try.pinned (OpenSpec.ofChange endpointCancelsWrong)

/-- 'buttresslaw11.EndpointBadges': WHATEVER THE INPUT: true; the input reads as it did. -/
def endpointBadgesSpec : ChangeSpec := { name := "endpointBadges", fn := fun _ => fun
  | [d1, d2] => { results := [.lit (.bool true)], args := [d1, d2] }
  | _ => none }
def endpointBadgesRow : OpenClaim := { program := "ytanongcaokldmaa", sum := "19db6c4869c4c49313b7a2964c495ac374f2fb0b7b23469bfd14c61ade234b63", func := "buttress/buttresslaw11.EndpointBadges", spec := "endpointBadges", unfollowed := true, recurses := true, apart := false }
def EndpointBadgesSaid : Prop := endpointBadgesRow.holds Try.pinned (OpenSpec.ofChange endpointBadgesSpec)

/-- ITS FALSE NEIGHBOUR: 'it returns false'. Refute it at one input. -/
def endpointBadgesWrong : ChangeSpec := { name := "endpointBadges", fn := fun _ => fun
  | [d1, d2] => { results := [.lit (.bool false)], args := [d1, d2] }
  | _ => none }
def EndpointBadgesWrongFalsely : Prop := endpointBadgesRow.holds Try.pinned (OpenSpec.ofChange endpointBadgesWrong)

/-- 'buttresslaw11.EndpointDoes': WHATEVER THE INPUT: true; the input reads as it did. -/
def endpointDoesSpec : ChangeSpec := { name := "endpointDoes", fn := fun _ => fun
  | [d] => { results := [.lit (.bool true)], args := [d] }
  | _ => none }
def endpointDoesRow : OpenClaim := { program := "ytanongcaokldmaa", sum := "19db6c4869c4c49313b7a2964c495ac374f2fb0b7b23469bfd14c61ade234b63", func := "buttress/buttresslaw11.EndpointDoes", spec := "endpointDoes", unfollowed := true, recurses := true, apart := false }
def EndpointDoesSaid : Prop := endpointDoesRow.holds Try.pinned (OpenSpec.ofChange endpointDoesSpec)

/-- ITS FALSE NEIGHBOUR: 'it returns false'. Refute it at one input. -/
def endpointDoesWrong : ChangeSpec := { name := "endpointDoes", fn := fun _ => fun
  | [d] => { results := [.lit (.bool false)], args := [d] }
  | _ => none }
def EndpointDoesWrongFalsely : Prop := endpointDoesRow.holds Try.pinned (OpenSpec.ofChange endpointDoesWrong)

/-- 'buttresslaw11.EndpointApart': WHATEVER THE INPUT: true; the input reads as it did. -/
def endpointApartSpec : ChangeSpec := { name := "endpointApart", fn := fun _ => fun
  | [d1, d2] => { results := [.lit (.bool true)], args := [d1, d2] }
  | _ => none }
def endpointApartRow : OpenClaim := { program := "ytanongcaokldmaa", sum := "19db6c4869c4c49313b7a2964c495ac374f2fb0b7b23469bfd14c61ade234b63", func := "buttress/buttresslaw11.EndpointApart", spec := "endpointApart", unfollowed := true, recurses := true, apart := false }
def EndpointApartSaid : Prop := endpointApartRow.holds Try.pinned (OpenSpec.ofChange endpointApartSpec)

/-- ITS FALSE NEIGHBOUR: 'it returns false'. Refute it at one input. -/
def endpointApartWrong : ChangeSpec := { name := "endpointApart", fn := fun _ => fun
  | [d1, d2] => { results := [.lit (.bool false)], args := [d1, d2] }
  | _ => none }
def EndpointApartWrongFalsely : Prop := endpointApartRow.holds Try.pinned (OpenSpec.ofChange endpointApartWrong)

/- THE SECOND FORM. 'bulk': how many values and letters a reading holds, each counted each time it is reached (what is shared counts as often as it is met; a slice's spare places count too). A statement '..UptoSaid' is the law's where the arguments, and the package variables that the reading takes, are together of bulk at most 1048576: NARROWER than '..Said'. Prove '..Said' where nothing that the law and all that it calls make is longer than what came in: it says more and counts as full. Else prove '..UptoSaid'. A law counts once. -/
mutual
def uptoBulk {H : Type} : DataW H → Nat
  | .lit (.string bytes) => bytes.length + 1
  | .lit _ => 1
  | .nil => 1
  | .ptr d => uptoBulk d + 1
  | .slice elems spare => uptoBulkAll elems + uptoBulkAll spare + 1
  | .agg parts => uptoBulkAll parts + 1
  | .iface _ d => uptoBulk d + 1
  | .map entries => uptoBulkEntries entries + 1
  | .held _ => 1
def uptoBulkAll {H : Type} : List (DataW H) → Nat
  | [] => 0
  | d :: r => uptoBulk d + uptoBulkAll r
def uptoBulkEntries {H : Type} : List (Lit × DataW H) → Nat
  | [] => 0
  | x :: r => uptoBulkEntry x + uptoBulkEntries r
def uptoBulkEntry {H : Type} : Lit × DataW H → Nat
  | (.string bytes, d) => bytes.length + uptoBulk d + 1
  | (_, d) => uptoBulk d + 1
 end
def uptoSmall : (H : Type) → List (DataW H) → Bool := fun _ ds => decide (uptoBulkAll ds ≤ 1048576)
def OpenSpec.upto (s : _root_.Go.ChangeSpec) : _root_.Go.OpenSpec := { _root_.Go.OpenSpec.ofChange s with cond := some uptoSmall }

/-- 'buttresslaw11.EndpointOnce', WHERE WHAT IT READS IS OF BULK AT MOST 1048576: true; the input reads as it did. -/
def endpointOnceUptoRow : OpenClaim := { program := "ytanongcaokldmaa", sum := "19db6c4869c4c49313b7a2964c495ac374f2fb0b7b23469bfd14c61ade234b63", func := "buttress/buttresslaw11.EndpointOnce", spec := "endpointOnce", unfollowed := true, recurses := true, apart := false, narrowed := true }
def EndpointOnceUptoSaid : Prop := endpointOnceUptoRow.holds Try.pinned (OpenSpec.upto endpointOnceSpec)

/-- 'buttresslaw11.EndpointOrder', WHERE WHAT IT READS IS OF BULK AT MOST 1048576: true; the input reads as it did. -/
def endpointOrderUptoRow : OpenClaim := { program := "ytanongcaokldmaa", sum := "19db6c4869c4c49313b7a2964c495ac374f2fb0b7b23469bfd14c61ade234b63", func := "buttress/buttresslaw11.EndpointOrder", spec := "endpointOrder", unfollowed := true, recurses := true, apart := false, narrowed := true }
def EndpointOrderUptoSaid : Prop := endpointOrderUptoRow.holds Try.pinned (OpenSpec.upto endpointOrderSpec)

/-- 'buttresslaw11.EndpointQuick', WHERE WHAT IT READS IS OF BULK AT MOST 1048576: true; the input reads as it did. -/
def endpointQuickUptoRow : OpenClaim := { program := "ytanongcaokldmaa", sum := "19db6c4869c4c49313b7a2964c495ac374f2fb0b7b23469bfd14c61ade234b63", func := "buttress/buttresslaw11.EndpointQuick", spec := "endpointQuick", unfollowed := true, recurses := true, apart := false, narrowed := true }
def EndpointQuickUptoSaid : Prop := endpointQuickUptoRow.holds Try.pinned (OpenSpec.upto endpointQuickSpec)

/-- 'buttresslaw11.EndpointCancels', WHERE WHAT IT READS IS OF BULK AT MOST 1048576: true; the input reads as it did. -/
def endpointCancelsUptoRow : OpenClaim := { program := "ytanongcaokldmaa", sum := "19db6c4869c4c49313b7a2964c495ac374f2fb0b7b23469bfd14c61ade234b63", func := "buttress/buttresslaw11.EndpointCancels", spec := "endpointCancels", unfollowed := true, recurses := true, apart := false, narrowed := true }
def EndpointCancelsUptoSaid : Prop := endpointCancelsUptoRow.holds Try.pinned (OpenSpec.upto endpointCancelsSpec)

/-- 'buttresslaw11.EndpointBadges', WHERE WHAT IT READS IS OF BULK AT MOST 1048576: true; the input reads as it did. -/
def endpointBadgesUptoRow : OpenClaim := { program := "ytanongcaokldmaa", sum := "19db6c4869c4c49313b7a2964c495ac374f2fb0b7b23469bfd14c61ade234b63", func := "buttress/buttresslaw11.EndpointBadges", spec := "endpointBadges", unfollowed := true, recurses := true, apart := false, narrowed := true }
def EndpointBadgesUptoSaid : Prop := endpointBadgesUptoRow.holds Try.pinned (OpenSpec.upto endpointBadgesSpec)

/-- 'buttresslaw11.EndpointDoes', WHERE WHAT IT READS IS OF BULK AT MOST 1048576: true; the input reads as it did. -/
def endpointDoesUptoRow : OpenClaim := { program := "ytanongcaokldmaa", sum := "19db6c4869c4c49313b7a2964c495ac374f2fb0b7b23469bfd14c61ade234b63", func := "buttress/buttresslaw11.EndpointDoes", spec := "endpointDoes", unfollowed := true, recurses := true, apart := false, narrowed := true }
def EndpointDoesUptoSaid : Prop := endpointDoesUptoRow.holds Try.pinned (OpenSpec.upto endpointDoesSpec)

/-- 'buttresslaw11.EndpointApart', WHERE WHAT IT READS IS OF BULK AT MOST 1048576: true; the input reads as it did. -/
def endpointApartUptoRow : OpenClaim := { program := "ytanongcaokldmaa", sum := "19db6c4869c4c49313b7a2964c495ac374f2fb0b7b23469bfd14c61ade234b63", func := "buttress/buttresslaw11.EndpointApart", spec := "endpointApart", unfollowed := true, recurses := true, apart := false, narrowed := true }
def EndpointApartUptoSaid : Prop := endpointApartUptoRow.holds Try.pinned (OpenSpec.upto endpointApartSpec)

end Rows
end Go.Proofs.Ytanongcaokldmaa

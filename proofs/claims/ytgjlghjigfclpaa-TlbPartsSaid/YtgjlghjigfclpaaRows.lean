/-
  No cell of these rows narrows 'for every input' (looked for: loops, veiled, ifaces, maps, wideKeys, modest, calm, conditions, laid).
  DERIVED. THE GIVEN ROWS OF THIS SEAT. 6 by the template 'for every input the law returns true; each argument reads behind the call as it read before'; 0 by the template 'total and deterministic' (their statements: YtgjlghjigfclpaaTotals.lean).
  GIVEN WITH THE SEED: the statements are not yours to turn. If you find one false, say at which input.
  Laid BY PROGRAM, IN A SANDBOX (cutbox-rows.mjs): the forced cells as the released guide's own fill.sh prints them over the translation 07479dbad3361c03… (all of the seat's roots in one cut). By AI agents, Wed Nov 11 2026. No macro, syntax, notation, axiom, sorry.
-/
import Derived.Test.YtgjlghjigfclpaaChecked
import GoSem.Claim
import GoSem.ClaimJoined
import GoSem.ClaimMapViews
import Derived.JoinedTies
import Derived.KernelRfl
namespace Go.Proofs.Ytgjlghjigfclpaa
/- THE CELL 'sum', in the pinned program and in every row, IS THE sha256 OF THE DUMP (.gsa) THAT YtgjlghjigfclpaaProg.lean LOADS. Nothing in Lean hashes anything: it is a label: what it is worth is what the hold of that sum in a sandbox is worth. -/
noncomputable def Try.pinned : Pinned := { name := "ytgjlghjigfclpaa", sum := "07479dbad3361c03e88023e33e95d89a6f984ffb5e7c3496d3e3a5af9d745aba", checked := Try.checked }
namespace Rows
def none {H : Type} : Left H := { results := [], args := [] }

/-- 'buttresslaw15.TlbNews': WHATEVER THE INPUT: true; the input reads as it did. -/
def tlbNewsSpec : ChangeSpec := { name := "tlbNews", fn := fun _ => fun
  | [d] => { results := [.lit (.bool true)], args := [d] }
  | _ => none }
def tlbNewsRow : OpenClaim := { program := "ytgjlghjigfclpaa", sum := "07479dbad3361c03e88023e33e95d89a6f984ffb5e7c3496d3e3a5af9d745aba", func := "buttress/buttresslaw15.TlbNews", spec := "tlbNews", unfollowed := true, recurses := true, apart := false }
def TlbNewsSaid : Prop := tlbNewsRow.holds Try.pinned (OpenSpec.ofChange tlbNewsSpec)

/-- ITS FALSE NEIGHBOUR: 'it returns false'. Refute it at one input. -/
def tlbNewsWrong : ChangeSpec := { name := "tlbNews", fn := fun _ => fun
  | [d] => { results := [.lit (.bool false)], args := [d] }
  | _ => none }
def TlbNewsWrongFalsely : Prop := tlbNewsRow.holds Try.pinned (OpenSpec.ofChange tlbNewsWrong)

/-- 'buttresslaw15.TlbRooms': WHATEVER THE INPUT: true; the input reads as it did. -/
def tlbRoomsSpec : ChangeSpec := { name := "tlbRooms", fn := fun _ => fun
  | [d1, d2] => { results := [.lit (.bool true)], args := [d1, d2] }
  | _ => none }
def tlbRoomsRow : OpenClaim := { program := "ytgjlghjigfclpaa", sum := "07479dbad3361c03e88023e33e95d89a6f984ffb5e7c3496d3e3a5af9d745aba", func := "buttress/buttresslaw15.TlbRooms", spec := "tlbRooms", unfollowed := true, recurses := true, apart := false }
def TlbRoomsSaid : Prop := tlbRoomsRow.holds Try.pinned (OpenSpec.ofChange tlbRoomsSpec)

/-- ITS FALSE NEIGHBOUR: 'it returns false'. Refute it at one input. -/
def tlbRoomsWrong : ChangeSpec := { name := "tlbRooms", fn := fun _ => fun
  | [d1, d2] => { results := [.lit (.bool false)], args := [d1, d2] }
  | _ => none }
def TlbRoomsWrongFalsely : Prop := tlbRoomsRow.holds Try.pinned (OpenSpec.ofChange tlbRoomsWrong)

/-- 'buttresslaw15.TlbFills': WHATEVER THE INPUT: true; the input reads as it did. -/
def tlbFillsSpec : ChangeSpec := { name := "tlbFills", fn := fun _ => fun
  | [d1, d2, d3] => { results := [.lit (.bool true)], args := [d1, d2, d3] }
  | _ => none }
def tlbFillsRow : OpenClaim := { program := "ytgjlghjigfclpaa", sum := "07479dbad3361c03e88023e33e95d89a6f984ffb5e7c3496d3e3a5af9d745aba", func := "buttress/buttresslaw15.TlbFills", spec := "tlbFills", unfollowed := true, recurses := true, apart := false }
def TlbFillsSaid : Prop := tlbFillsRow.holds Try.pinned (OpenSpec.ofChange tlbFillsSpec)

/-- ITS FALSE NEIGHBOUR: 'it returns false'. Refute it at one input. -/
def tlbFillsWrong : ChangeSpec := { name := "tlbFills", fn := fun _ => fun
  | [d1, d2, d3] => { results := [.lit (.bool false)], args := [d1, d2, d3] }
  | _ => none }
def TlbFillsWrongFalsely : Prop := tlbFillsRow.holds Try.pinned (OpenSpec.ofChange tlbFillsWrong)

/-- 'buttresslaw15.TlbDoes': WHATEVER THE INPUT: true; the input reads as it did. -/
def tlbDoesSpec : ChangeSpec := { name := "tlbDoes", fn := fun _ => fun
  | [d1, d2] => { results := [.lit (.bool true)], args := [d1, d2] }
  | _ => none }
def tlbDoesRow : OpenClaim := { program := "ytgjlghjigfclpaa", sum := "07479dbad3361c03e88023e33e95d89a6f984ffb5e7c3496d3e3a5af9d745aba", func := "buttress/buttresslaw15.TlbDoes", spec := "tlbDoes", unfollowed := true, recurses := true, apart := false }
def TlbDoesSaid : Prop := tlbDoesRow.holds Try.pinned (OpenSpec.ofChange tlbDoesSpec)

/-- ITS FALSE NEIGHBOUR: 'it returns false'. Refute it at one input. -/
def tlbDoesWrong : ChangeSpec := { name := "tlbDoes", fn := fun _ => fun
  | [d1, d2] => { results := [.lit (.bool false)], args := [d1, d2] }
  | _ => none }
def TlbDoesWrongFalsely : Prop := tlbDoesRow.holds Try.pinned (OpenSpec.ofChange tlbDoesWrong)

/-- 'buttresslaw15.TlbLast': WHATEVER THE INPUT: true; the input reads as it did. -/
def tlbLastSpec : ChangeSpec := { name := "tlbLast", fn := fun _ => fun
  | [d1, d2, d3] => { results := [.lit (.bool true)], args := [d1, d2, d3] }
  | _ => none }
def tlbLastRow : OpenClaim := { program := "ytgjlghjigfclpaa", sum := "07479dbad3361c03e88023e33e95d89a6f984ffb5e7c3496d3e3a5af9d745aba", func := "buttress/buttresslaw15.TlbLast", spec := "tlbLast", unfollowed := true, recurses := true, apart := false }
def TlbLastSaid : Prop := tlbLastRow.holds Try.pinned (OpenSpec.ofChange tlbLastSpec)

/-- ITS FALSE NEIGHBOUR: 'it returns false'. Refute it at one input. -/
def tlbLastWrong : ChangeSpec := { name := "tlbLast", fn := fun _ => fun
  | [d1, d2, d3] => { results := [.lit (.bool false)], args := [d1, d2, d3] }
  | _ => none }
def TlbLastWrongFalsely : Prop := tlbLastRow.holds Try.pinned (OpenSpec.ofChange tlbLastWrong)

/-- 'buttresslaw15.TlbParts': WHATEVER THE INPUT: true; the input reads as it did. -/
def tlbPartsSpec : ChangeSpec := { name := "tlbParts", fn := fun _ => fun
  | [d1, d2, d3] => { results := [.lit (.bool true)], args := [d1, d2, d3] }
  | _ => none }
def tlbPartsRow : OpenClaim := { program := "ytgjlghjigfclpaa", sum := "07479dbad3361c03e88023e33e95d89a6f984ffb5e7c3496d3e3a5af9d745aba", func := "buttress/buttresslaw15.TlbParts", spec := "tlbParts", unfollowed := true, recurses := true, apart := false }
def TlbPartsSaid : Prop := tlbPartsRow.holds Try.pinned (OpenSpec.ofChange tlbPartsSpec)

/-- ITS FALSE NEIGHBOUR: 'it returns false'. Refute it at one input. -/
def tlbPartsWrong : ChangeSpec := { name := "tlbParts", fn := fun _ => fun
  | [d1, d2, d3] => { results := [.lit (.bool false)], args := [d1, d2, d3] }
  | _ => none }
def TlbPartsWrongFalsely : Prop := tlbPartsRow.holds Try.pinned (OpenSpec.ofChange tlbPartsWrong)

/- THE SECOND FORM. 'bulk': how many values and letters a reading holds, each counted each time it is reached (what is shared counts as often as it is met; a slice's spare places count too). A statement '..UptoSaid' is the law's where the arguments, and the package variables that the reading takes, are together of bulk at most 1048576: NARROWER than '..Said'. Prove '..Said' where nothing that the law and all that it calls make is longer than what came in: it says more and counts as full. Else prove '..UptoSaid'. A law counts once. -/
mutual
def uptoBulk {H : Type} : DataW H → Nat
  | .lit (.string bytes) => bytes.length + 1
  | .lit _ => 1
  | .nil => 1
  | .ptr d => uptoBulk d + 1
  | .slice elems spare => uptoBulkAll elems + uptoBulkAll spare + 1
  | .agg parts => uptoBulkAll parts + 1
  | .iface _ d => uptoBulk d + 1
  | .map entries => uptoBulkEntries entries + 1
  | .held _ => 1
def uptoBulkAll {H : Type} : List (DataW H) → Nat
  | [] => 0
  | d :: r => uptoBulk d + uptoBulkAll r
def uptoBulkEntries {H : Type} : List (Lit × DataW H) → Nat
  | [] => 0
  | x :: r => uptoBulkEntry x + uptoBulkEntries r
def uptoBulkEntry {H : Type} : Lit × DataW H → Nat
  | (.string bytes, d) => bytes.length + uptoBulk d + 1
  | (_, d) => uptoBulk d + 1
 end
def uptoSmall : (H : Type) → List (DataW H) → Bool := fun _ ds => decide (uptoBulkAll ds ≤ 1048576)
def OpenSpec.upto (s : _root_.Go.ChangeSpec) : _root_.Go.OpenSpec := { _root_.Go.OpenSpec.ofChange s with cond := some uptoSmall }

/-- 'buttresslaw15.TlbNews', WHERE WHAT IT READS IS OF BULK AT MOST 1048576: true; the input reads as it did. -/
def tlbNewsUptoRow : OpenClaim := { program := "ytgjlghjigfclpaa", sum := "07479dbad3361c03e88023e33e95d89a6f984ffb5e7c3496d3e3a5af9d745aba", func := "buttress/buttresslaw15.TlbNews", spec := "tlbNews", unfollowed := true, recurses := true, apart := false, narrowed := true }
def TlbNewsUptoSaid : Prop := tlbNewsUptoRow.holds Try.pinned (OpenSpec.upto tlbNewsSpec)

/-- 'buttresslaw15.TlbRooms', WHERE WHAT IT READS IS OF BULK AT MOST 1048576: true; the input reads as it did. -/
def tlbRoomsUptoRow : OpenClaim := { program := "ytgjlghjigfclpaa", sum := "07479dbad3361c03e88023e33e95d89a6f984ffb5e7c3496d3e3a5af9d745aba", func := "buttress/buttresslaw15.TlbRooms", spec := "tlbRooms", unfollowed := true, recurses := true, apart := false, narrowed := true }
def TlbRoomsUptoSaid : Prop := tlbRoomsUptoRow.holds Try.pinned (OpenSpec.upto tlbRoomsSpec)

/-- 'buttresslaw15.TlbFills', WHERE WHAT IT READS IS OF BULK AT MOST 1048576: true; the input reads as it did. -/
def tlbFillsUptoRow : OpenClaim := { program := "ytgjlghjigfclpaa", sum := "07479dbad3361c03e88023e33e95d89a6f984ffb5e7c3496d3e3a5af9d745aba", func := "buttress/buttresslaw15.TlbFills", spec := "tlbFills", unfollowed := true, recurses := true, apart := false, narrowed := true }
def TlbFillsUptoSaid : Prop := tlbFillsUptoRow.holds Try.pinned (OpenSpec.upto tlbFillsSpec)

/-- 'buttresslaw15.TlbDoes', WHERE WHAT IT READS IS OF BULK AT MOST 1048576: true; the input reads as it did. -/
def tlbDoesUptoRow : OpenClaim := { program := "ytgjlghjigfclpaa", sum := "07479dbad3361c03e88023e33e95d89a6f984ffb5e7c3496d3e3a5af9d745aba", func := "buttress/buttresslaw15.TlbDoes", spec := "tlbDoes", unfollowed := true, recurses := true, apart := false, narrowed := true }
def TlbDoesUptoSaid : Prop := tlbDoesUptoRow.holds Try.pinned (OpenSpec.upto tlbDoesSpec)

/-- 'buttresslaw15.TlbLast', WHERE WHAT IT READS IS OF BULK AT MOST 1048576: true; the input reads as it did. -/
def tlbLastUptoRow : OpenClaim := { program := "ytgjlghjigfclpaa", sum := "07479dbad3361c03e88023e33e95d89a6f984ffb5e7c3496d3e3a5af9d745aba", func := "buttress/buttresslaw15.TlbLast", spec := "tlbLast", unfollowed := true, recurses := true, apart := false, narrowed := true }
def TlbLastUptoSaid : Prop := tlbLastUptoRow.holds Try.pinned (OpenSpec.upto tlbLastSpec)

/-- 'buttresslaw15.TlbParts', WHERE WHAT IT READS IS OF BULK AT MOST 1048576: true; the input reads as it did. -/
def tlbPartsUptoRow : OpenClaim := { program := "ytgjlghjigfclpaa", sum := "07479dbad3361c03e88023e33e95d89a6f984ffb5e7c3496d3e3a5af9d745aba", func := "buttress/buttresslaw15.TlbParts", spec := "tlbParts", unfollowed := true, recurses := true, apart := false, narrowed := true }
def TlbPartsUptoSaid : Prop := tlbPartsUptoRow.holds Try.pinned (OpenSpec.upto tlbPartsSpec)

end Rows
end Go.Proofs.Ytgjlghjigfclpaa

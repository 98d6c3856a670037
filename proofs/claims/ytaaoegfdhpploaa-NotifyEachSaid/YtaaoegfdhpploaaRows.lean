/-
  No cell of these rows narrows 'for every input' (looked for: loops, veiled, ifaces, maps, wideKeys, modest, calm, conditions, laid).
  DERIVED. THE GIVEN ROWS OF THIS SEAT. 6 by the template 'for every input the law returns true; each argument reads behind the call as it read before'; 0 by the template 'total and deterministic' (their statements: YtaaoegfdhpploaaTotals.lean).
  GIVEN WITH THE SEED: the statements are not yours to turn. If you find one false, say at which input.
  Laid BY PROGRAM, IN A SANDBOX (cutbox-rows.mjs): the forced cells as the released guide's own fill.sh prints them over the translation bb00e722b4d54e20… (all of the seat's roots in one cut). By AI agents, Wed Nov 11 2026. No macro, syntax, notation, axiom, sorry.
-/
import Derived.Test.YtaaoegfdhpploaaChecked
import GoSem.Claim
import GoSem.ClaimJoined
import GoSem.ClaimMapViews
import Derived.JoinedTies
import Derived.KernelRfl
namespace Go.Proofs.Ytaaoegfdhpploaa
/- THE CELL 'sum', in the pinned program and in every row, IS THE sha256 OF THE DUMP (.gsa) THAT YtaaoegfdhpploaaProg.lean LOADS. Nothing in Lean hashes anything: it is a label: what it is worth is what the hold of that sum in a sandbox is worth. -/
noncomputable def Try.pinned : Pinned := { name := "ytaaoegfdhpploaa", sum := "bb00e722b4d54e2058720822bb9b7ac615761d50601c2ff84908bf05b52b0345", checked := Try.checked }
namespace Rows
def none {H : Type} : Left H := { results := [], args := [] }

/-- 'buttresslaw12.NotifyBits': WHATEVER THE INPUT: true; the input reads as it did. -/
def notifyBitsSpec : ChangeSpec := { name := "notifyBits", fn := fun _ => fun
  | [d] => { results := [.lit (.bool true)], args := [d] }
  | _ => none }
def notifyBitsRow : OpenClaim := { program := "ytaaoegfdhpploaa", sum := "bb00e722b4d54e2058720822bb9b7ac615761d50601c2ff84908bf05b52b0345", func := "buttress/buttresslaw12.NotifyBits", spec := "notifyBits", unfollowed := true, recurses := true, apart := false }
def NotifyBitsSaid : Prop := notifyBitsRow.holds Try.pinned (OpenSpec.ofChange notifyBitsSpec)

/-- ITS FALSE NEIGHBOUR: 'it returns false'. Refute it at one input. -/
def notifyBitsWrong : ChangeSpec := { name := "notifyBits", fn := fun _ => fun
  | [d] => { results := [.lit (.bool false)], args := [d] }
  | _ => none }
def NotifyBitsWrongFalsely : Prop := notifyBitsRow.holds Try.pinned (OpenSpec.ofChange notifyBitsWrong)

/-- 'buttresslaw12.NotifyOrder': WHATEVER THE INPUT: true; the input reads as it did. -/
def notifyOrderSpec : ChangeSpec := { name := "notifyOrder", fn := fun _ => fun
  | [d1, d2] => { results := [.lit (.bool true)], args := [d1, d2] }
  | _ => none }
def notifyOrderRow : OpenClaim := { program := "ytaaoegfdhpploaa", sum := "bb00e722b4d54e2058720822bb9b7ac615761d50601c2ff84908bf05b52b0345", func := "buttress/buttresslaw12.NotifyOrder", spec := "notifyOrder", unfollowed := true, recurses := true, apart := false }
def NotifyOrderSaid : Prop := notifyOrderRow.holds Try.pinned (OpenSpec.ofChange notifyOrderSpec)

/-- ITS FALSE NEIGHBOUR: 'it returns false'. Refute it at one input. -/
def notifyOrderWrong : ChangeSpec := { name := "notifyOrder", fn := fun _ => fun
  | [d1, d2] => { results := [.lit (.bool false)], args := [d1, d2] }
  | _ => none }
def NotifyOrderWrongFalsely : Prop := notifyOrderRow.holds Try.pinned (OpenSpec.ofChange notifyOrderWrong)

/-- 'buttresslaw12.NotifyTwice': WHATEVER THE INPUT: true; the input reads as it did. -/
def notifyTwiceSpec : ChangeSpec := { name := "notifyTwice", fn := fun _ => fun
  | [d1, d2, d3] => { results := [.lit (.bool true)], args := [d1, d2, d3] }
  | _ => none }
def notifyTwiceRow : OpenClaim := { program := "ytaaoegfdhpploaa", sum := "bb00e722b4d54e2058720822bb9b7ac615761d50601c2ff84908bf05b52b0345", func := "buttress/buttresslaw12.NotifyTwice", spec := "notifyTwice", unfollowed := true, recurses := true, apart := false }
def NotifyTwiceSaid : Prop := notifyTwiceRow.holds Try.pinned (OpenSpec.ofChange notifyTwiceSpec)

/-- ITS FALSE NEIGHBOUR: 'it returns false'. Refute it at one input. -/
def notifyTwiceWrong : ChangeSpec := { name := "notifyTwice", fn := fun _ => fun
  | [d1, d2, d3] => { results := [.lit (.bool false)], args := [d1, d2, d3] }
  | _ => none }
def NotifyTwiceWrongFalsely : Prop := notifyTwiceRow.holds Try.pinned (OpenSpec.ofChange notifyTwiceWrong)

/-- 'buttresslaw12.NotifyQuick': WHATEVER THE INPUT: true; the input reads as it did. -/
def notifyQuickSpec : ChangeSpec := { name := "notifyQuick", fn := fun _ => fun
  | [d1, d2] => { results := [.lit (.bool true)], args := [d1, d2] }
  | _ => none }
def notifyQuickRow : OpenClaim := { program := "ytaaoegfdhpploaa", sum := "bb00e722b4d54e2058720822bb9b7ac615761d50601c2ff84908bf05b52b0345", func := "buttress/buttresslaw12.NotifyQuick", spec := "notifyQuick", unfollowed := true, recurses := true, apart := false }
def NotifyQuickSaid : Prop := notifyQuickRow.holds Try.pinned (OpenSpec.ofChange notifyQuickSpec)

/-- ITS FALSE NEIGHBOUR: 'it returns false'. Refute it at one input. -/
def notifyQuickWrong : ChangeSpec := { name := "notifyQuick", fn := fun _ => fun
  | [d1, d2] => { results := [.lit (.bool false)], args := [d1, d2] }
  | _ => none }
def NotifyQuickWrongFalsely : Prop := notifyQuickRow.holds Try.pinned (OpenSpec.ofChange notifyQuickWrong)

/-- 'buttresslaw12.NotifyEach': WHATEVER THE INPUT: true; the input reads as it did. -/
def notifyEachSpec : ChangeSpec := { name := "notifyEach", fn := fun _ => fun
  | [d1, d2] => { results := [.lit (.bool true)], args := [d1, d2] }
  | _ => none }
def notifyEachRow : OpenClaim := { program := "ytaaoegfdhpploaa", sum := "bb00e722b4d54e2058720822bb9b7ac615761d50601c2ff84908bf05b52b0345", func := "buttress/buttresslaw12.NotifyEach", spec := "notifyEach", unfollowed := true, recurses := true, apart := false }
def NotifyEachSaid : Prop := notifyEachRow.holds Try.pinned (OpenSpec.ofChange notifyEachSpec)

/-- ITS FALSE NEIGHBOUR: 'it returns false'. Refute it at one input. -/
def notifyEachWrong : ChangeSpec := { name := "notifyEach", fn := fun _ => fun
  | [d1, d2] => { results := [.lit (.bool false)], args := [d1, d2] }
  | _ => none }
def NotifyEachWrongFalsely : Prop := notifyEachRow.holds Try.pinned (OpenSpec.ofChange notifyEachWrong)

/-- 'buttresslaw12.NotifyDoes': WHATEVER THE INPUT: true; the input reads as it did. -/
def notifyDoesSpec : ChangeSpec := { name := "notifyDoes", fn := fun _ => fun
  | [d] => { results := [.lit (.bool true)], args := [d] }
  | _ => none }
def notifyDoesRow : OpenClaim := { program := "ytaaoegfdhpploaa", sum := "bb00e722b4d54e2058720822bb9b7ac615761d50601c2ff84908bf05b52b0345", func := "buttress/buttresslaw12.NotifyDoes", spec := "notifyDoes", unfollowed := true, recurses := true, apart := false }
def NotifyDoesSaid : Prop := notifyDoesRow.holds Try.pinned (OpenSpec.ofChange notifyDoesSpec)

/-- ITS FALSE NEIGHBOUR: 'it returns false'. Refute it at one input. -/
def notifyDoesWrong : ChangeSpec := { name := "notifyDoes", fn := fun _ => fun
  | [d] => { results := [.lit (.bool false)], args := [d] }
  | _ => none }
def NotifyDoesWrongFalsely : Prop := notifyDoesRow.holds Try.pinned (OpenSpec.ofChange notifyDoesWrong)

/- THE SECOND FORM. 'bulk': how many values and letters a reading holds, each counted each time it is reached (what is shared counts as often as it is met; a slice's spare places count too). A statement '..UptoSaid' is the law's where the arguments, and the package variables that the reading takes, are together of bulk at most 1048576: NARROWER than '..Said'. Prove '..Said' where nothing that the law and all that it calls make is longer than what came in: it says more and counts as full. Else prove '..UptoSaid'. A law counts once. -/
mutual
def uptoBulk {H : Type} : DataW H → Nat
  | .lit (.string bytes) => bytes.length + 1
  | .lit _ => 1
  | .nil => 1
  | .ptr d => uptoBulk d + 1
  | .slice elems spare => uptoBulkAll elems + uptoBulkAll spare + 1
  | .agg parts => uptoBulkAll parts + 1
  | .iface _ d => uptoBulk d + 1
  | .map entries => uptoBulkEntries entries + 1
  | .held _ => 1
def uptoBulkAll {H : Type} : List (DataW H) → Nat
  | [] => 0
  | d :: r => uptoBulk d + uptoBulkAll r
def uptoBulkEntries {H : Type} : List (Lit × DataW H) → Nat
  | [] => 0
  | x :: r => uptoBulkEntry x + uptoBulkEntries r
def uptoBulkEntry {H : Type} : Lit × DataW H → Nat
  | (.string bytes, d) => bytes.length + uptoBulk d + 1
  | (_, d) => uptoBulk d + 1
 end
def uptoSmall : (H : Type) → List (DataW H) → Bool := fun _ ds => decide (uptoBulkAll ds ≤ 1048576)
def OpenSpec.upto (s : _root_.Go.ChangeSpec) : _root_.Go.OpenSpec := { _root_.Go.OpenSpec.ofChange s with cond := some uptoSmall }

/-- 'buttresslaw12.NotifyBits', WHERE WHAT IT READS IS OF BULK AT MOST 1048576: true; the input reads as it did. -/
def notifyBitsUptoRow : OpenClaim := { program := "ytaaoegfdhpploaa", sum := "bb00e722b4d54e2058720822bb9b7ac615761d50601c2ff84908bf05b52b0345", func := "buttress/buttresslaw12.NotifyBits", spec := "notifyBits", unfollowed := true, recurses := true, apart := false, narrowed := true }
def NotifyBitsUptoSaid : Prop := notifyBitsUptoRow.holds Try.pinned (OpenSpec.upto notifyBitsSpec)

/-- 'buttresslaw12.NotifyOrder', WHERE WHAT IT READS IS OF BULK AT MOST 1048576: true; the input reads as it did. -/
def notifyOrderUptoRow : OpenClaim := { program := "ytaaoegfdhpploaa", sum := "bb00e722b4d54e2058720822bb9b7ac615761d50601c2ff84908bf05b52b0345", func := "buttress/buttresslaw12.NotifyOrder", spec := "notifyOrder", unfollowed := true, recurses := true, apart := false, narrowed := true }
def NotifyOrderUptoSaid : Prop := notifyOrderUptoRow.holds Try.pinned (OpenSpec.upto notifyOrderSpec)

/-- 'buttresslaw12.NotifyTwice', WHERE WHAT IT READS IS OF BULK AT MOST 1048576: true; the input reads as it did. -/
def notifyTwiceUptoRow : OpenClaim := { program := "ytaaoegfdhpploaa", sum := "bb00e722b4d54e2058720822bb9b7ac615761d50601c2ff84908bf05b52b0345", func := "buttress/buttresslaw12.NotifyTwice", spec := "notifyTwice", unfollowed := true, recurses := true, apart := false, narrowed := true }
def NotifyTwiceUptoSaid : Prop := notifyTwiceUptoRow.holds Try.pinned (OpenSpec.upto notifyTwiceSpec)

/-- 'buttresslaw12.NotifyQuick', WHERE WHAT IT READS IS OF BULK AT MOST 1048576: true; the input reads as it did. -/
def notifyQuickUptoRow : OpenClaim := { program := "ytaaoegfdhpploaa", sum := "bb00e722b4d54e2058720822bb9b7ac615761d50601c2ff84908bf05b52b0345", func := "buttress/buttresslaw12.NotifyQuick", spec := "notifyQuick", unfollowed := true, recurses := true, apart := false, narrowed := true }
def NotifyQuickUptoSaid : Prop := notifyQuickUptoRow.holds Try.pinned (OpenSpec.upto notifyQuickSpec)

/-- 'buttresslaw12.NotifyEach', WHERE WHAT IT READS IS OF BULK AT MOST 1048576: true; the input reads as it did. -/
def notifyEachUptoRow : OpenClaim := { program := "ytaaoegfdhpploaa", sum := "bb00e722b4d54e2058720822bb9b7ac615761d50601c2ff84908bf05b52b0345", func := "buttress/buttresslaw12.NotifyEach", spec := "notifyEach", unfollowed := true, recurses := true, apart := false, narrowed := true }
def NotifyEachUptoSaid : Prop := notifyEachUptoRow.holds Try.pinned (OpenSpec.upto notifyEachSpec)

/-- 'buttresslaw12.NotifyDoes', WHERE WHAT IT READS IS OF BULK AT MOST 1048576: true; the input reads as it did. -/
def notifyDoesUptoRow : OpenClaim := { program := "ytaaoegfdhpploaa", sum := "bb00e722b4d54e2058720822bb9b7ac615761d50601c2ff84908bf05b52b0345", func := "buttress/buttresslaw12.NotifyDoes", spec := "notifyDoes", unfollowed := true, recurses := true, apart := false, narrowed := true }
def NotifyDoesUptoSaid : Prop := notifyDoesUptoRow.holds Try.pinned (OpenSpec.upto notifyDoesSpec)

end Rows
end Go.Proofs.Ytaaoegfdhpploaa

/-
  No cell of these rows narrows 'for every input' (looked for: loops, veiled, ifaces, maps, wideKeys, modest, calm, conditions, laid).
  DERIVED. THE GIVEN ROWS OF THIS SEAT. 5 by the template 'for every input the law returns true; each argument reads behind the call as it read before'; 0 by the template 'total and deterministic' (their statements: YtfdnmgebpfopjaaTotals.lean).
  GIVEN WITH THE SEED: the statements are not yours to turn. If you find one false, say at which input.
  Laid BY PROGRAM, IN A SANDBOX (cutbox-rows.mjs): the forced cells as the released guide's own fill.sh prints them over the translation 994d0d2f8a8f87f9… (all of the seat's roots in one cut). By AI agents, Wed Nov 11 2026. No macro, syntax, notation, axiom, sorry.
-/
import Derived.Test.YtfdnmgebpfopjaaChecked
import GoSem.Claim
import GoSem.ClaimJoined
import GoSem.ClaimMapViews
import Derived.JoinedTies
import Derived.KernelRfl
namespace Go.Proofs.Ytfdnmgebpfopjaa
/- THE CELL 'sum', in the pinned program and in every row, IS THE sha256 OF THE DUMP (.gsa) THAT YtfdnmgebpfopjaaProg.lean LOADS. Nothing in Lean hashes anything: it is a label: what it is worth is what the hold of that sum in a sandbox is worth. -/
noncomputable def Try.pinned : Pinned := { name := "ytfdnmgebpfopjaa", sum := "994d0d2f8a8f87f9c6f2a39bc541fbe6e233941c5dcfd6400132ab1b28c16e45", checked := Try.checked }
namespace Rows
def none {H : Type} : Left H := { results := [], args := [] }

/-- 'buttresslaw17.MailboxFull': WHATEVER THE INPUT: true; the input reads as it did. -/
def mailboxFullSpec : ChangeSpec := { name := "mailboxFull", fn := fun _ => fun
  | [d1, d2] => { results := [.lit (.bool true)], args := [d1, d2] }
  | _ => none }
def mailboxFullRow : OpenClaim := { program := "ytfdnmgebpfopjaa", sum := "994d0d2f8a8f87f9c6f2a39bc541fbe6e233941c5dcfd6400132ab1b28c16e45", func := "buttress/buttresslaw17.MailboxFull", spec := "mailboxFull", unfollowed := true, recurses := true, apart := false }
def MailboxFullSaid : Prop := mailboxFullRow.holds Try.pinned (OpenSpec.ofChange mailboxFullSpec)

/-- ITS FALSE NEIGHBOUR: 'it returns false'. Refute it at one input. -/
def mailboxFullWrong : ChangeSpec := { name := "mailboxFull", fn := fun _ => fun
  | [d1, d2] => { results := [.lit (.bool false)], args := [d1, d2] }
  | _ => none }
def MailboxFullWrongFalsely : Prop := mailboxFullRow.holds Try.pinned (OpenSpec.ofChange mailboxFullWrong)

/-- 'buttresslaw17.MailboxOnce': WHATEVER THE INPUT: true; the input reads as it did. -/
def mailboxOnceSpec : ChangeSpec := { name := "mailboxOnce", fn := fun _ => fun
  | [d] => { results := [.lit (.bool true)], args := [d] }
  | _ => none }
def mailboxOnceRow : OpenClaim := { program := "ytfdnmgebpfopjaa", sum := "994d0d2f8a8f87f9c6f2a39bc541fbe6e233941c5dcfd6400132ab1b28c16e45", func := "buttress/buttresslaw17.MailboxOnce", spec := "mailboxOnce", unfollowed := true, recurses := true, apart := false }
def MailboxOnceSaid : Prop := mailboxOnceRow.holds Try.pinned (OpenSpec.ofChange mailboxOnceSpec)

/-- ITS FALSE NEIGHBOUR: 'it returns false'. Refute it at one input. -/
def mailboxOnceWrong : ChangeSpec := { name := "mailboxOnce", fn := fun _ => fun
  | [d] => { results := [.lit (.bool false)], args := [d] }
  | _ => none }
def MailboxOnceWrongFalsely : Prop := mailboxOnceRow.holds Try.pinned (OpenSpec.ofChange mailboxOnceWrong)

/-- 'buttresslaw17.MailboxAll': WHATEVER THE INPUT: true; the input reads as it did. -/
def mailboxAllSpec : ChangeSpec := { name := "mailboxAll", fn := fun _ => fun
  | [d1, d2, d3] => { results := [.lit (.bool true)], args := [d1, d2, d3] }
  | _ => none }
def mailboxAllRow : OpenClaim := { program := "ytfdnmgebpfopjaa", sum := "994d0d2f8a8f87f9c6f2a39bc541fbe6e233941c5dcfd6400132ab1b28c16e45", func := "buttress/buttresslaw17.MailboxAll", spec := "mailboxAll", unfollowed := true, recurses := true, apart := false }
def MailboxAllSaid : Prop := mailboxAllRow.holds Try.pinned (OpenSpec.ofChange mailboxAllSpec)

/-- ITS FALSE NEIGHBOUR: 'it returns false'. Refute it at one input. -/
def mailboxAllWrong : ChangeSpec := { name := "mailboxAll", fn := fun _ => fun
  | [d1, d2, d3] => { results := [.lit (.bool false)], args := [d1, d2, d3] }
  | _ => none }
def MailboxAllWrongFalsely : Prop := mailboxAllRow.holds Try.pinned (OpenSpec.ofChange mailboxAllWrong)

/-- 'buttresslaw17.MailboxFlow': WHATEVER THE INPUT: true; the input reads as it did. -/
def mailboxFlowSpec : ChangeSpec := { name := "mailboxFlow", fn := fun _ => fun
  | [d] => { results := [.lit (.bool true)], args := [d] }
  | _ => none }
def mailboxFlowRow : OpenClaim := { program := "ytfdnmgebpfopjaa", sum := "994d0d2f8a8f87f9c6f2a39bc541fbe6e233941c5dcfd6400132ab1b28c16e45", func := "buttress/buttresslaw17.MailboxFlow", spec := "mailboxFlow", unfollowed := true, recurses := true, apart := false }
def MailboxFlowSaid : Prop := mailboxFlowRow.holds Try.pinned (OpenSpec.ofChange mailboxFlowSpec)

/-- ITS FALSE NEIGHBOUR: 'it returns false'. Refute it at one input. -/
def mailboxFlowWrong : ChangeSpec := { name := "mailboxFlow", fn := fun _ => fun
  | [d] => { results := [.lit (.bool false)], args := [d] }
  | _ => none }
def MailboxFlowWrongFalsely : Prop := mailboxFlowRow.holds Try.pinned (OpenSpec.ofChange mailboxFlowWrong)

/-- 'buttresslaw17.MailboxOwes': WHATEVER THE INPUT: true; the input reads as it did. -/
def mailboxOwesSpec : ChangeSpec := { name := "mailboxOwes", fn := fun _ => fun
  | [d] => { results := [.lit (.bool true)], args := [d] }
  | _ => none }
def mailboxOwesRow : OpenClaim := { program := "ytfdnmgebpfopjaa", sum := "994d0d2f8a8f87f9c6f2a39bc541fbe6e233941c5dcfd6400132ab1b28c16e45", func := "buttress/buttresslaw17.MailboxOwes", spec := "mailboxOwes", unfollowed := true, recurses := true, apart := false }
def MailboxOwesSaid : Prop := mailboxOwesRow.holds Try.pinned (OpenSpec.ofChange mailboxOwesSpec)

/-- ITS FALSE NEIGHBOUR: 'it returns false'. Refute it at one input. -/
def mailboxOwesWrong : ChangeSpec := { name := "mailboxOwes", fn := fun _ => fun
  | [d] => { results := [.lit (.bool false)], args := [d] }
  | _ => none }
def MailboxOwesWrongFalsely : Prop := mailboxOwesRow.holds Try.pinned (OpenSpec.ofChange mailboxOwesWrong)

/- THE SECOND FORM. 'bulk': how many values and letters a reading holds, each counted each time it is reached (what is shared counts as often as it is met; a slice's spare places count too). A statement '..UptoSaid' is the law's where the arguments, and the package variables that the reading takes, are together of bulk at most 1048576: NARROWER than '..Said'. Prove '..Said' where nothing that the law and all that it calls make is longer than what came in: it says more and counts as full. Else prove '..UptoSaid'. A law counts once. -/
mutual
def uptoBulk {H : Type} : DataW H → Nat
  | .lit (.string bytes) => bytes.length + 1
  | .lit _ => 1
  | .nil => 1
  | .ptr d => uptoBulk d + 1
  | .slice elems spare => uptoBulkAll elems + uptoBulkAll spare + 1
  | .agg parts => uptoBulkAll parts + 1
  | .iface _ d => uptoBulk d + 1
  | .map entries => uptoBulkEntries entries + 1
  | .held _ => 1
def uptoBulkAll {H : Type} : List (DataW H) → Nat
  | [] => 0
  | d :: r => uptoBulk d + uptoBulkAll r
def uptoBulkEntries {H : Type} : List (Lit × DataW H) → Nat
  | [] => 0
  | x :: r => uptoBulkEntry x + uptoBulkEntries r
def uptoBulkEntry {H : Type} : Lit × DataW H → Nat
  | (.string bytes, d) => bytes.length + uptoBulk d + 1
  | (_, d) => uptoBulk d + 1
 end
def uptoSmall : (H : Type) → List (DataW H) → Bool := fun _ ds => decide (uptoBulkAll ds ≤ 1048576)
def OpenSpec.upto (s : _root_.Go.ChangeSpec) : _root_.Go.OpenSpec := { _root_.Go.OpenSpec.ofChange s with cond := some uptoSmall }

/-- 'buttresslaw17.MailboxFull', WHERE WHAT IT READS IS OF BULK AT MOST 1048576: true; the input reads as it did. -/
def mailboxFullUptoRow : OpenClaim := { program := "ytfdnmgebpfopjaa", sum := "994d0d2f8a8f87f9c6f2a39bc541fbe6e233941c5dcfd6400132ab1b28c16e45", func := "buttress/buttresslaw17.MailboxFull", spec := "mailboxFull", unfollowed := true, recurses := true, apart := false, narrowed := true }
def MailboxFullUptoSaid : Prop := mailboxFullUptoRow.holds Try.pinned (OpenSpec.upto mailboxFullSpec)

/-- 'buttresslaw17.MailboxOnce', WHERE WHAT IT READS IS OF BULK AT MOST 1048576: true; the input reads as it did. -/
def mailboxOnceUptoRow : OpenClaim := { program := "ytfdnmgebpfopjaa", sum := "994d0d2f8a8f87f9c6f2a39bc541fbe6e233941c5dcfd6400132ab1b28c16e45", func := "buttress/buttresslaw17.MailboxOnce", spec := "mailboxOnce", unfollowed := true, recurses := true, apart := false, narrowed := true }
def MailboxOnceUptoSaid : Prop := mailboxOnceUptoRow.holds Try.pinned (OpenSpec.upto mailboxOnceSpec)

/-- 'buttresslaw17.MailboxAll', WHERE WHAT IT READS IS OF BULK AT MOST 1048576: true; the input reads as it did. -/
def mailboxAllUptoRow : OpenClaim := { program := "ytfdnmgebpfopjaa", sum := "994d0d2f8a8f87f9c6f2a39bc541fbe6e233941c5dcfd6400132ab1b28c16e45", func := "buttress/buttresslaw17.MailboxAll", spec := "mailboxAll", unfollowed := true, recurses := true, apart := false, narrowed := true }
def MailboxAllUptoSaid : Prop := mailboxAllUptoRow.holds Try.pinned (OpenSpec.upto mailboxAllSpec)

/-- 'buttresslaw17.MailboxFlow', WHERE WHAT IT READS IS OF BULK AT MOST 1048576: true; the input reads as it did. -/
def mailboxFlowUptoRow : OpenClaim := { program := "ytfdnmgebpfopjaa", sum := "994d0d2f8a8f87f9c6f2a39bc541fbe6e233941c5dcfd6400132ab1b28c16e45", func := "buttress/buttresslaw17.MailboxFlow", spec := "mailboxFlow", unfollowed := true, recurses := true, apart := false, narrowed := true }
def MailboxFlowUptoSaid : Prop := mailboxFlowUptoRow.holds Try.pinned (OpenSpec.upto mailboxFlowSpec)

/-- 'buttresslaw17.MailboxOwes', WHERE WHAT IT READS IS OF BULK AT MOST 1048576: true; the input reads as it did. -/
def mailboxOwesUptoRow : OpenClaim := { program := "ytfdnmgebpfopjaa", sum := "994d0d2f8a8f87f9c6f2a39bc541fbe6e233941c5dcfd6400132ab1b28c16e45", func := "buttress/buttresslaw17.MailboxOwes", spec := "mailboxOwes", unfollowed := true, recurses := true, apart := false, narrowed := true }
def MailboxOwesUptoSaid : Prop := mailboxOwesUptoRow.holds Try.pinned (OpenSpec.upto mailboxOwesSpec)

end Rows
end Go.Proofs.Ytfdnmgebpfopjaa

/-
  No cell of these rows narrows 'for every input' (looked for: loops, veiled, ifaces, maps, wideKeys, modest, calm, conditions, laid).
  DERIVED. THE GIVEN ROWS OF THIS SEAT. 6 by the template 'for every input the law returns true; each argument reads behind the call as it read before'; 0 by the template 'total and deterministic' (their statements: YtbnjfkfmkbijnaaTotals.lean).
  GIVEN WITH THE SEED: the statements are not yours to turn. If you find one false, say at which input.
  Laid BY PROGRAM, IN A SANDBOX (cutbox-rows.mjs): the forced cells as the released guide's own fill.sh prints them over the translation 65091344085dacca… (all of the seat's roots in one cut). By AI agents, Wed Nov 11 2026. No macro, syntax, notation, axiom, sorry.
-/
import Derived.Test.YtbnjfkfmkbijnaaChecked
import GoSem.Claim
import GoSem.ClaimJoined
import GoSem.ClaimMapViews
import Derived.JoinedTies
import Derived.KernelRfl
namespace Go.Proofs.Ytbnjfkfmkbijnaa
/- THE CELL 'sum', in the pinned program and in every row, IS THE sha256 OF THE DUMP (.gsa) THAT YtbnjfkfmkbijnaaProg.lean LOADS. Nothing in Lean hashes anything: it is a label: what it is worth is what the hold of that sum in a sandbox is worth. -/
noncomputable def Try.pinned : Pinned := { name := "ytbnjfkfmkbijnaa", sum := "65091344085dacca2214df00107f973e2a8eac6eb074f1c4503d629c5fdb7495", checked := Try.checked }
namespace Rows
def none {H : Type} : Left H := { results := [], args := [] }

/-- 'buttresslaw16.LockOne': WHATEVER THE INPUT: true; the input reads as it did. -/
def lockOneSpec : ChangeSpec := { name := "lockOne", fn := fun _ => fun
  | [d1, d2] => { results := [.lit (.bool true)], args := [d1, d2] }
  | _ => none }
def lockOneRow : OpenClaim := { program := "ytbnjfkfmkbijnaa", sum := "65091344085dacca2214df00107f973e2a8eac6eb074f1c4503d629c5fdb7495", func := "buttress/buttresslaw16.LockOne", spec := "lockOne", unfollowed := true, recurses := true, apart := false }
def LockOneSaid : Prop := lockOneRow.holds Try.pinned (OpenSpec.ofChange lockOneSpec)

/-- ITS FALSE NEIGHBOUR: 'it returns false'. Refute it at one input. -/
def lockOneWrong : ChangeSpec := { name := "lockOne", fn := fun _ => fun
  | [d1, d2] => { results := [.lit (.bool false)], args := [d1, d2] }
  | _ => none }
def LockOneWrongFalsely : Prop := lockOneRow.holds Try.pinned (OpenSpec.ofChange lockOneWrong)

/-- 'buttresslaw16.LockWaits': WHATEVER THE INPUT: true; the input reads as it did. -/
def lockWaitsSpec : ChangeSpec := { name := "lockWaits", fn := fun _ => fun
  | [d1, d2] => { results := [.lit (.bool true)], args := [d1, d2] }
  | _ => none }
def lockWaitsRow : OpenClaim := { program := "ytbnjfkfmkbijnaa", sum := "65091344085dacca2214df00107f973e2a8eac6eb074f1c4503d629c5fdb7495", func := "buttress/buttresslaw16.LockWaits", spec := "lockWaits", unfollowed := true, recurses := true, apart := false }
def LockWaitsSaid : Prop := lockWaitsRow.holds Try.pinned (OpenSpec.ofChange lockWaitsSpec)

/-- ITS FALSE NEIGHBOUR: 'it returns false'. Refute it at one input. -/
def lockWaitsWrong : ChangeSpec := { name := "lockWaits", fn := fun _ => fun
  | [d1, d2] => { results := [.lit (.bool false)], args := [d1, d2] }
  | _ => none }
def LockWaitsWrongFalsely : Prop := lockWaitsRow.holds Try.pinned (OpenSpec.ofChange lockWaitsWrong)

/-- 'buttresslaw16.LockAlone': WHATEVER THE INPUT: true; the input reads as it did. -/
def lockAloneSpec : ChangeSpec := { name := "lockAlone", fn := fun _ => fun
  | [d1, d2] => { results := [.lit (.bool true)], args := [d1, d2] }
  | _ => none }
def lockAloneRow : OpenClaim := { program := "ytbnjfkfmkbijnaa", sum := "65091344085dacca2214df00107f973e2a8eac6eb074f1c4503d629c5fdb7495", func := "buttress/buttresslaw16.LockAlone", spec := "lockAlone", unfollowed := true, recurses := true, apart := false }
def LockAloneSaid : Prop := lockAloneRow.holds Try.pinned (OpenSpec.ofChange lockAloneSpec)

/-- ITS FALSE NEIGHBOUR: 'it returns false'. Refute it at one input. -/
def lockAloneWrong : ChangeSpec := { name := "lockAlone", fn := fun _ => fun
  | [d1, d2] => { results := [.lit (.bool false)], args := [d1, d2] }
  | _ => none }
def LockAloneWrongFalsely : Prop := lockAloneRow.holds Try.pinned (OpenSpec.ofChange lockAloneWrong)

/-- 'buttresslaw16.LockRounds': WHATEVER THE INPUT: true; the input reads as it did. -/
def lockRoundsSpec : ChangeSpec := { name := "lockRounds", fn := fun _ => fun
  | [d1, d2] => { results := [.lit (.bool true)], args := [d1, d2] }
  | _ => none }
def lockRoundsRow : OpenClaim := { program := "ytbnjfkfmkbijnaa", sum := "65091344085dacca2214df00107f973e2a8eac6eb074f1c4503d629c5fdb7495", func := "buttress/buttresslaw16.LockRounds", spec := "lockRounds", unfollowed := true, recurses := true, apart := false }
def LockRoundsSaid : Prop := lockRoundsRow.holds Try.pinned (OpenSpec.ofChange lockRoundsSpec)

/-- ITS FALSE NEIGHBOUR: 'it returns false'. Refute it at one input. -/
def lockRoundsWrong : ChangeSpec := { name := "lockRounds", fn := fun _ => fun
  | [d1, d2] => { results := [.lit (.bool false)], args := [d1, d2] }
  | _ => none }
def LockRoundsWrongFalsely : Prop := lockRoundsRow.holds Try.pinned (OpenSpec.ofChange lockRoundsWrong)

/-- 'buttresslaw16.LockDoes': WHATEVER THE INPUT: true; the input reads as it did. -/
def lockDoesSpec : ChangeSpec := { name := "lockDoes", fn := fun _ => fun
  | [d1, d2] => { results := [.lit (.bool true)], args := [d1, d2] }
  | _ => none }
def lockDoesRow : OpenClaim := { program := "ytbnjfkfmkbijnaa", sum := "65091344085dacca2214df00107f973e2a8eac6eb074f1c4503d629c5fdb7495", func := "buttress/buttresslaw16.LockDoes", spec := "lockDoes", unfollowed := true, recurses := true, apart := false }
def LockDoesSaid : Prop := lockDoesRow.holds Try.pinned (OpenSpec.ofChange lockDoesSpec)

/-- ITS FALSE NEIGHBOUR: 'it returns false'. Refute it at one input. -/
def lockDoesWrong : ChangeSpec := { name := "lockDoes", fn := fun _ => fun
  | [d1, d2] => { results := [.lit (.bool false)], args := [d1, d2] }
  | _ => none }
def LockDoesWrongFalsely : Prop := lockDoesRow.holds Try.pinned (OpenSpec.ofChange lockDoesWrong)

/-- 'buttresslaw16.LockCopies': WHATEVER THE INPUT: true; the input reads as it did. -/
def lockCopiesSpec : ChangeSpec := { name := "lockCopies", fn := fun _ => fun
  | [d1, d2] => { results := [.lit (.bool true)], args := [d1, d2] }
  | _ => none }
def lockCopiesRow : OpenClaim := { program := "ytbnjfkfmkbijnaa", sum := "65091344085dacca2214df00107f973e2a8eac6eb074f1c4503d629c5fdb7495", func := "buttress/buttresslaw16.LockCopies", spec := "lockCopies", unfollowed := true, recurses := true, apart := false }
def LockCopiesSaid : Prop := lockCopiesRow.holds Try.pinned (OpenSpec.ofChange lockCopiesSpec)

/-- ITS FALSE NEIGHBOUR: 'it returns false'. Refute it at one input. -/
def lockCopiesWrong : ChangeSpec := { name := "lockCopies", fn := fun _ => fun
  | [d1, d2] => { results := [.lit (.bool false)], args := [d1, d2] }
  | _ => none }
def LockCopiesWrongFalsely : Prop := lockCopiesRow.holds Try.pinned (OpenSpec.ofChange lockCopiesWrong)

/- THE SECOND FORM. 'bulk': how many values and letters a reading holds, each counted each time it is reached (what is shared counts as often as it is met; a slice's spare places count too). A statement '..UptoSaid' is the law's where the arguments, and the package variables that the reading takes, are together of bulk at most 1048576: NARROWER than '..Said'. Prove '..Said' where nothing that the law and all that it calls make is longer than what came in: it says more and counts as full. Else prove '..UptoSaid'. A law counts once. -/
mutual
def uptoBulk {H : Type} : DataW H → Nat
  | .lit (.string bytes) => bytes.length + 1
  | .lit _ => 1
  | .nil => 1
  | .ptr d => uptoBulk d + 1
  | .slice elems spare => uptoBulkAll elems + uptoBulkAll spare + 1
  | .agg parts => uptoBulkAll parts + 1
  | .iface _ d => uptoBulk d + 1
  | .map entries => uptoBulkEntries entries + 1
  | .held _ => 1
def uptoBulkAll {H : Type} : List (DataW H) → Nat
  | [] => 0
  | d :: r => uptoBulk d + uptoBulkAll r
def uptoBulkEntries {H : Type} : List (Lit × DataW H) → Nat
  | [] => 0
  | x :: r => uptoBulkEntry x + uptoBulkEntries r
def uptoBulkEntry {H : Type} : Lit × DataW H → Nat
  | (.string bytes, d) => bytes.length + uptoBulk d + 1
  | (_, d) => uptoBulk d + 1
 end
def uptoSmall : (H : Type) → List (DataW H) → Bool := fun _ ds => decide (uptoBulkAll ds ≤ 1048576)
def OpenSpec.upto (s : _root_.Go.ChangeSpec) : _root_.Go.OpenSpec := { _root_.Go.OpenSpec.ofChange s with cond := some uptoSmall }

/-- 'buttresslaw16.LockOne', WHERE WHAT IT READS IS OF BULK AT MOST 1048576: true; the input reads as it did. -/
def lockOneUptoRow : OpenClaim := { program := "ytbnjfkfmkbijnaa", sum := "65091344085dacca2214df00107f973e2a8eac6eb074f1c4503d629c5fdb7495", func := "buttress/buttresslaw16.LockOne", spec := "lockOne", unfollowed := true, recurses := true, apart := false, narrowed := true }
def LockOneUptoSaid : Prop := lockOneUptoRow.holds Try.pinned (OpenSpec.upto lockOneSpec)

/-- 'buttresslaw16.LockWaits', WHERE WHAT IT READS IS OF BULK AT MOST 1048576: true; the input reads as it did. -/
def lockWaitsUptoRow : OpenClaim := { program := "ytbnjfkfmkbijnaa", sum := "65091344085dacca2214df00107f973e2a8eac6eb074f1c4503d629c5fdb7495", func := "buttress/buttresslaw16.LockWaits", spec := "lockWaits", unfollowed := true, recurses := true, apart := false, narrowed := true }
def LockWaitsUptoSaid : Prop := lockWaitsUptoRow.holds Try.pinned (OpenSpec.upto lockWaitsSpec)

/-- 'buttresslaw16.LockAlone', WHERE WHAT IT READS IS OF BULK AT MOST 1048576: true; the input reads as it did. -/
def lockAloneUptoRow : OpenClaim := { program := "ytbnjfkfmkbijnaa", sum := "65091344085dacca2214df00107f973e2a8eac6eb074f1c4503d629c5fdb7495", func := "buttress/buttresslaw16.LockAlone", spec := "lockAlone", unfollowed := true, recurses := true, apart := false, narrowed := true }
def LockAloneUptoSaid : Prop := lockAloneUptoRow.holds Try.pinned (OpenSpec.upto lockAloneSpec)

/-- 'buttresslaw16.LockRounds', WHERE WHAT IT READS IS OF BULK AT MOST 1048576: true; the input reads as it did. -/
def lockRoundsUptoRow : OpenClaim := { program := "ytbnjfkfmkbijnaa", sum := "65091344085dacca2214df00107f973e2a8eac6eb074f1c4503d629c5fdb7495", func := "buttress/buttresslaw16.LockRounds", spec := "lockRounds", unfollowed := true, recurses := true, apart := false, narrowed := true }
def LockRoundsUptoSaid : Prop := lockRoundsUptoRow.holds Try.pinned (OpenSpec.upto lockRoundsSpec)

/-- 'buttresslaw16.LockDoes', WHERE WHAT IT READS IS OF BULK AT MOST 1048576: true; the input reads as it did. -/
def lockDoesUptoRow : OpenClaim := { program := "ytbnjfkfmkbijnaa", sum := "65091344085dacca2214df00107f973e2a8eac6eb074f1c4503d629c5fdb7495", func := "buttress/buttresslaw16.LockDoes", spec := "lockDoes", unfollowed := true, recurses := true, apart := false, narrowed := true }
def LockDoesUptoSaid : Prop := lockDoesUptoRow.holds Try.pinned (OpenSpec.upto lockDoesSpec)

/-- 'buttresslaw16.LockCopies', WHERE WHAT IT READS IS OF BULK AT MOST 1048576: true; the input reads as it did. -/
def lockCopiesUptoRow : OpenClaim := { program := "ytbnjfkfmkbijnaa", sum := "65091344085dacca2214df00107f973e2a8eac6eb074f1c4503d629c5fdb7495", func := "buttress/buttresslaw16.LockCopies", spec := "lockCopies", unfollowed := true, recurses := true, apart := false, narrowed := true }
def LockCopiesUptoSaid : Prop := lockCopiesUptoRow.holds Try.pinned (OpenSpec.upto lockCopiesSpec)

end Rows
end Go.Proofs.Ytbnjfkfmkbijnaa

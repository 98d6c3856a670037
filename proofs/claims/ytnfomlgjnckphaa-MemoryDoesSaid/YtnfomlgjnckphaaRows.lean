/-
  No cell of these rows narrows 'for every input' (looked for: loops, veiled, ifaces, maps, wideKeys, modest, calm, conditions, laid).
  DERIVED. THE GIVEN ROWS OF THIS SEAT. 8 by the template 'for every input the law returns true; each argument reads behind the call as it read before'; 0 by the template 'total and deterministic' (their statements: YtnfomlgjnckphaaTotals.lean).
  GIVEN WITH THE SEED: the statements are not yours to turn. If you find one false, say at which input.
  Laid BY PROGRAM, IN A SANDBOX (cutbox-rows.mjs): the forced cells as the released guide's own fill.sh prints them over the translation 449103ad53e2834c… (all of the seat's roots in one cut). By AI agents, Wed Nov 11 2026. No macro, syntax, notation, axiom, sorry.
-/
import Derived.Test.YtnfomlgjnckphaaChecked
import GoSem.Claim
import GoSem.ClaimJoined
import GoSem.ClaimMapViews
import Derived.JoinedTies
import Derived.KernelRfl
namespace Go.Proofs.Ytnfomlgjnckphaa
/- THE CELL 'sum', in the pinned program and in every row, IS THE sha256 OF THE DUMP (.gsa) THAT YtnfomlgjnckphaaProg.lean LOADS. Nothing in Lean hashes anything: it is a label: what it is worth is what the hold of that sum in a sandbox is worth. -/
noncomputable def Try.pinned : Pinned := { name := "ytnfomlgjnckphaa", sum := "449103ad53e2834c83de347eb1681e23ab7d30cfe6d877e6f2ceb077d223eb04", checked := Try.checked }
namespace Rows
def none {H : Type} : Left H := { results := [], args := [] }

/-- 'buttresslaw02.MemoryNews': WHATEVER THE INPUT: true; the input reads as it did. -/
def memoryNewsSpec : ChangeSpec := { name := "memoryNews", fn := fun _ => fun
  | [d] => { results := [.lit (.bool true)], args := [d] }
  | _ => none }
def memoryNewsRow : OpenClaim := { program := "ytnfomlgjnckphaa", sum := "449103ad53e2834c83de347eb1681e23ab7d30cfe6d877e6f2ceb077d223eb04", func := "buttress/buttresslaw02.MemoryNews", spec := "memoryNews", apart := false }
def MemoryNewsSaid : Prop := memoryNewsRow.holds Try.pinned (OpenSpec.ofChange memoryNewsSpec)

/-- ITS FALSE NEIGHBOUR: 'it returns false'. Refute it at one input. -/
def memoryNewsWrong : ChangeSpec := { name := "memoryNews", fn := fun _ => fun
  | [d] => { results := [.lit (.bool false)], args := [d] }
  | _ => none }
def MemoryNewsWrongFalsely : Prop := memoryNewsRow.holds Try.pinned (OpenSpec.ofChange memoryNewsWrong)

/-- 'buttresslaw02.MemoryKeeps': WHATEVER THE INPUT: true; the input reads as it did. -/
def memoryKeepsSpec : ChangeSpec := { name := "memoryKeeps", fn := fun _ => fun
  | [d1, d2] => { results := [.lit (.bool true)], args := [d1, d2] }
  | _ => none }
def memoryKeepsRow : OpenClaim := { program := "ytnfomlgjnckphaa", sum := "449103ad53e2834c83de347eb1681e23ab7d30cfe6d877e6f2ceb077d223eb04", func := "buttress/buttresslaw02.MemoryKeeps", spec := "memoryKeeps", apart := false }
def MemoryKeepsSaid : Prop := memoryKeepsRow.holds Try.pinned (OpenSpec.ofChange memoryKeepsSpec)

/-- ITS FALSE NEIGHBOUR: 'it returns false'. Refute it at one input. -/
def memoryKeepsWrong : ChangeSpec := { name := "memoryKeeps", fn := fun _ => fun
  | [d1, d2] => { results := [.lit (.bool false)], args := [d1, d2] }
  | _ => none }
def MemoryKeepsWrongFalsely : Prop := memoryKeepsRow.holds Try.pinned (OpenSpec.ofChange memoryKeepsWrong)

/-- 'buttresslaw02.MemoryFills': WHATEVER THE INPUT: true; the input reads as it did. -/
def memoryFillsSpec : ChangeSpec := { name := "memoryFills", fn := fun _ => fun
  | [d1, d2] => { results := [.lit (.bool true)], args := [d1, d2] }
  | _ => none }
def memoryFillsRow : OpenClaim := { program := "ytnfomlgjnckphaa", sum := "449103ad53e2834c83de347eb1681e23ab7d30cfe6d877e6f2ceb077d223eb04", func := "buttress/buttresslaw02.MemoryFills", spec := "memoryFills", apart := false }
def MemoryFillsSaid : Prop := memoryFillsRow.holds Try.pinned (OpenSpec.ofChange memoryFillsSpec)

/-- ITS FALSE NEIGHBOUR: 'it returns false'. Refute it at one input. -/
def memoryFillsWrong : ChangeSpec := { name := "memoryFills", fn := fun _ => fun
  | [d1, d2] => { results := [.lit (.bool false)], args := [d1, d2] }
  | _ => none }
def MemoryFillsWrongFalsely : Prop := memoryFillsRow.holds Try.pinned (OpenSpec.ofChange memoryFillsWrong)

/-- 'buttresslaw02.MemoryParts': WHATEVER THE INPUT: true; the input reads as it did. -/
def memoryPartsSpec : ChangeSpec := { name := "memoryParts", fn := fun _ => fun
  | [d1, d2] => { results := [.lit (.bool true)], args := [d1, d2] }
  | _ => none }
def memoryPartsRow : OpenClaim := { program := "ytnfomlgjnckphaa", sum := "449103ad53e2834c83de347eb1681e23ab7d30cfe6d877e6f2ceb077d223eb04", func := "buttress/buttresslaw02.MemoryParts", spec := "memoryParts", apart := false }
def MemoryPartsSaid : Prop := memoryPartsRow.holds Try.pinned (OpenSpec.ofChange memoryPartsSpec)

/-- ITS FALSE NEIGHBOUR: 'it returns false'. Refute it at one input. -/
def memoryPartsWrong : ChangeSpec := { name := "memoryParts", fn := fun _ => fun
  | [d1, d2] => { results := [.lit (.bool false)], args := [d1, d2] }
  | _ => none }
def MemoryPartsWrongFalsely : Prop := memoryPartsRow.holds Try.pinned (OpenSpec.ofChange memoryPartsWrong)

/-- 'buttresslaw02.MemoryMoves': WHATEVER THE INPUT: true; the input reads as it did. -/
def memoryMovesSpec : ChangeSpec := { name := "memoryMoves", fn := fun _ => fun
  | [d1, d2, d3] => { results := [.lit (.bool true)], args := [d1, d2, d3] }
  | _ => none }
def memoryMovesRow : OpenClaim := { program := "ytnfomlgjnckphaa", sum := "449103ad53e2834c83de347eb1681e23ab7d30cfe6d877e6f2ceb077d223eb04", func := "buttress/buttresslaw02.MemoryMoves", spec := "memoryMoves", apart := false }
def MemoryMovesSaid : Prop := memoryMovesRow.holds Try.pinned (OpenSpec.ofChange memoryMovesSpec)

/-- ITS FALSE NEIGHBOUR: 'it returns false'. Refute it at one input. -/
def memoryMovesWrong : ChangeSpec := { name := "memoryMoves", fn := fun _ => fun
  | [d1, d2, d3] => { results := [.lit (.bool false)], args := [d1, d2, d3] }
  | _ => none }
def MemoryMovesWrongFalsely : Prop := memoryMovesRow.holds Try.pinned (OpenSpec.ofChange memoryMovesWrong)

/-- 'buttresslaw02.MemoryNone': WHATEVER THE INPUT: true; the input reads as it did. -/
def memoryNoneSpec : ChangeSpec := { name := "memoryNone", fn := fun _ => fun
  | [d1, d2] => { results := [.lit (.bool true)], args := [d1, d2] }
  | _ => none }
def memoryNoneRow : OpenClaim := { program := "ytnfomlgjnckphaa", sum := "449103ad53e2834c83de347eb1681e23ab7d30cfe6d877e6f2ceb077d223eb04", func := "buttress/buttresslaw02.MemoryNone", spec := "memoryNone", apart := false }
def MemoryNoneSaid : Prop := memoryNoneRow.holds Try.pinned (OpenSpec.ofChange memoryNoneSpec)

/-- ITS FALSE NEIGHBOUR: 'it returns false'. Refute it at one input. -/
def memoryNoneWrong : ChangeSpec := { name := "memoryNone", fn := fun _ => fun
  | [d1, d2] => { results := [.lit (.bool false)], args := [d1, d2] }
  | _ => none }
def MemoryNoneWrongFalsely : Prop := memoryNoneRow.holds Try.pinned (OpenSpec.ofChange memoryNoneWrong)

/-- 'buttresslaw02.MemoryDoes': WHATEVER THE INPUT: true; the input reads as it did. -/
def memoryDoesSpec : ChangeSpec := { name := "memoryDoes", fn := fun _ => fun
  | [d1, d2] => { results := [.lit (.bool true)], args := [d1, d2] }
  | _ => none }
def memoryDoesRow : OpenClaim := { program := "ytnfomlgjnckphaa", sum := "449103ad53e2834c83de347eb1681e23ab7d30cfe6d877e6f2ceb077d223eb04", func := "buttress/buttresslaw02.MemoryDoes", spec := "memoryDoes", apart := false }
def MemoryDoesSaid : Prop := memoryDoesRow.holds Try.pinned (OpenSpec.ofChange memoryDoesSpec)

/-- ITS FALSE NEIGHBOUR: 'it returns false'. Refute it at one input. -/
def memoryDoesWrong : ChangeSpec := { name := "memoryDoes", fn := fun _ => fun
  | [d1, d2] => { results := [.lit (.bool false)], args := [d1, d2] }
  | _ => none }
def MemoryDoesWrongFalsely : Prop := memoryDoesRow.holds Try.pinned (OpenSpec.ofChange memoryDoesWrong)

/-- 'buttresslaw02.MemoryApart': WHATEVER THE INPUT: true; the input reads as it did. -/
def memoryApartSpec : ChangeSpec := { name := "memoryApart", fn := fun _ => fun
  | [d1, d2] => { results := [.lit (.bool true)], args := [d1, d2] }
  | _ => none }
def memoryApartRow : OpenClaim := { program := "ytnfomlgjnckphaa", sum := "449103ad53e2834c83de347eb1681e23ab7d30cfe6d877e6f2ceb077d223eb04", func := "buttress/buttresslaw02.MemoryApart", spec := "memoryApart", apart := false }
def MemoryApartSaid : Prop := memoryApartRow.holds Try.pinned (OpenSpec.ofChange memoryApartSpec)

/-- ITS FALSE NEIGHBOUR: 'it returns false'. Refute it at one input. -/
def memoryApartWrong : ChangeSpec := { name := "memoryApart", fn := fun _ => fun
  | [d1, d2] => { results := [.lit (.bool false)], args := [d1, d2] }
  | _ => none }
def MemoryApartWrongFalsely : Prop := memoryApartRow.holds Try.pinned (OpenSpec.ofChange memoryApartWrong)

/- THE SECOND FORM. 'bulk': how many values and letters a reading holds, each counted each time it is reached (what is shared counts as often as it is met; a slice's spare places count too). A statement '..UptoSaid' is the law's where the arguments, and the package variables that the reading takes, are together of bulk at most 1048576: NARROWER than '..Said'. Prove '..Said' where nothing that the law and all that it calls make is longer than what came in: it says more and counts as full. Else prove '..UptoSaid'. A law counts once. -/
mutual
def uptoBulk {H : Type} : DataW H → Nat
  | .lit (.string bytes) => bytes.length + 1
  | .lit _ => 1
  | .nil => 1
  | .ptr d => uptoBulk d + 1
  | .slice elems spare => uptoBulkAll elems + uptoBulkAll spare + 1
  | .agg parts => uptoBulkAll parts + 1
  | .iface _ d => uptoBulk d + 1
  | .map entries => uptoBulkEntries entries + 1
  | .held _ => 1
def uptoBulkAll {H : Type} : List (DataW H) → Nat
  | [] => 0
  | d :: r => uptoBulk d + uptoBulkAll r
def uptoBulkEntries {H : Type} : List (Lit × DataW H) → Nat
  | [] => 0
  | x :: r => uptoBulkEntry x + uptoBulkEntries r
def uptoBulkEntry {H : Type} : Lit × DataW H → Nat
  | (.string bytes, d) => bytes.length + uptoBulk d + 1
  | (_, d) => uptoBulk d + 1
 end
def uptoSmall : (H : Type) → List (DataW H) → Bool := fun _ ds => decide (uptoBulkAll ds ≤ 1048576)
def OpenSpec.upto (s : _root_.Go.ChangeSpec) : _root_.Go.OpenSpec := { _root_.Go.OpenSpec.ofChange s with cond := some uptoSmall }

/-- 'buttresslaw02.MemoryNews', WHERE WHAT IT READS IS OF BULK AT MOST 1048576: true; the input reads as it did. -/
def memoryNewsUptoRow : OpenClaim := { program := "ytnfomlgjnckphaa", sum := "449103ad53e2834c83de347eb1681e23ab7d30cfe6d877e6f2ceb077d223eb04", func := "buttress/buttresslaw02.MemoryNews", spec := "memoryNews", apart := false, narrowed := true }
def MemoryNewsUptoSaid : Prop := memoryNewsUptoRow.holds Try.pinned (OpenSpec.upto memoryNewsSpec)

/-- 'buttresslaw02.MemoryKeeps', WHERE WHAT IT READS IS OF BULK AT MOST 1048576: true; the input reads as it did. -/
def memoryKeepsUptoRow : OpenClaim := { program := "ytnfomlgjnckphaa", sum := "449103ad53e2834c83de347eb1681e23ab7d30cfe6d877e6f2ceb077d223eb04", func := "buttress/buttresslaw02.MemoryKeeps", spec := "memoryKeeps", apart := false, narrowed := true }
def MemoryKeepsUptoSaid : Prop := memoryKeepsUptoRow.holds Try.pinned (OpenSpec.upto memoryKeepsSpec)

/-- 'buttresslaw02.MemoryFills', WHERE WHAT IT READS IS OF BULK AT MOST 1048576: true; the input reads as it did. -/
def memoryFillsUptoRow : OpenClaim := { program := "ytnfomlgjnckphaa", sum := "449103ad53e2834c83de347eb1681e23ab7d30cfe6d877e6f2ceb077d223eb04", func := "buttress/buttresslaw02.MemoryFills", spec := "memoryFills", apart := false, narrowed := true }
def MemoryFillsUptoSaid : Prop := memoryFillsUptoRow.holds Try.pinned (OpenSpec.upto memoryFillsSpec)

/-- 'buttresslaw02.MemoryParts', WHERE WHAT IT READS IS OF BULK AT MOST 1048576: true; the input reads as it did. -/
def memoryPartsUptoRow : OpenClaim := { program := "ytnfomlgjnckphaa", sum := "449103ad53e2834c83de347eb1681e23ab7d30cfe6d877e6f2ceb077d223eb04", func := "buttress/buttresslaw02.MemoryParts", spec := "memoryParts", apart := false, narrowed := true }
def MemoryPartsUptoSaid : Prop := memoryPartsUptoRow.holds Try.pinned (OpenSpec.upto memoryPartsSpec)

/-- 'buttresslaw02.MemoryMoves', WHERE WHAT IT READS IS OF BULK AT MOST 1048576: true; the input reads as it did. -/
def memoryMovesUptoRow : OpenClaim := { program := "ytnfomlgjnckphaa", sum := "449103ad53e2834c83de347eb1681e23ab7d30cfe6d877e6f2ceb077d223eb04", func := "buttress/buttresslaw02.MemoryMoves", spec := "memoryMoves", apart := false, narrowed := true }
def MemoryMovesUptoSaid : Prop := memoryMovesUptoRow.holds Try.pinned (OpenSpec.upto memoryMovesSpec)

/-- 'buttresslaw02.MemoryNone', WHERE WHAT IT READS IS OF BULK AT MOST 1048576: true; the input reads as it did. -/
def memoryNoneUptoRow : OpenClaim := { program := "ytnfomlgjnckphaa", sum := "449103ad53e2834c83de347eb1681e23ab7d30cfe6d877e6f2ceb077d223eb04", func := "buttress/buttresslaw02.MemoryNone", spec := "memoryNone", apart := false, narrowed := true }
def MemoryNoneUptoSaid : Prop := memoryNoneUptoRow.holds Try.pinned (OpenSpec.upto memoryNoneSpec)

/-- 'buttresslaw02.MemoryDoes', WHERE WHAT IT READS IS OF BULK AT MOST 1048576: true; the input reads as it did. -/
def memoryDoesUptoRow : OpenClaim := { program := "ytnfomlgjnckphaa", sum := "449103ad53e2834c83de347eb1681e23ab7d30cfe6d877e6f2ceb077d223eb04", func := "buttress/buttresslaw02.MemoryDoes", spec := "memoryDoes", apart := false, narrowed := true }
def MemoryDoesUptoSaid : Prop := memoryDoesUptoRow.holds Try.pinned (OpenSpec.upto memoryDoesSpec)

/-- 'buttresslaw02.MemoryApart', WHERE WHAT IT READS IS OF BULK AT MOST 1048576: true; the input reads as it did. -/
def memoryApartUptoRow : OpenClaim := { program := "ytnfomlgjnckphaa", sum := "449103ad53e2834c83de347eb1681e23ab7d30cfe6d877e6f2ceb077d223eb04", func := "buttress/buttresslaw02.MemoryApart", spec := "memoryApart", apart := false, narrowed := true }
def MemoryApartUptoSaid : Prop := memoryApartUptoRow.holds Try.pinned (OpenSpec.upto memoryApartSpec)

end Rows
end Go.Proofs.Ytnfomlgjnckphaa

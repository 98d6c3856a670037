/- Things side by side, more; what comes last, and what is dropped. -/
import Derived.Test.YtgjlghjigfclpaaTlbL
set_option linter.all false
namespace Go.Proofs.Ytgjlghjigfclpaa
open Go.RowKit

/-- A block that is owned. -/
def BQ (q : Nat) (o : Obj) : Thing := fun O w => w.heap[q]? = some o ∧ O q
theorem BQ.ok (q : Nat) (o : Obj) : (BQ q o).Ok := ⟨fun h k hF => ⟨k.heap h.1 (hF _ h.2), h.2⟩, fun h => ⟨h.1, h.2, lt_of_heap h.1⟩, fun h hO => ⟨h.1, hO _ h.2⟩⟩
theorem Sep.any {P Q : Thing} {O : Nat → Prop} {w : World} (h : Sep P Q O w) : ∃ O2, Q O2 w := let ⟨_, O2, _, h2, _, _⟩ := h; ⟨O2, h2⟩
theorem Sep.one {P Q : Thing} {O : Nat → Prop} {w : World} (h : Sep P Q O w) : ∃ O1, P O1 w := let ⟨O1, _, h1, _, _, _⟩ := h; ⟨O1, h1⟩
theorem Sep.inr {P Q Q' : Thing} {O : Nat → Prop} {w : World} (h : Sep P Q O w) (f : ∀ O2, Q O2 w → Q' O2 w) : Sep P Q' O w := let ⟨O1, O2, h1, h2, h3, h4⟩ := h; ⟨O1, O2, h1, f O2 h2, h3, h4⟩
/-- The third one comes first. -/
theorem Sep.third {P Q R S : Thing} {O : Nat → Prop} {w : World} (h : Sep P (Sep Q (Sep R S)) O w) : Sep R (Sep P (Sep Q S)) O w := (h.inr (fun _ h => h.turn)).turn

/-- What is filled in comes last, and no other line is of its page. -/
theorem fillE_last2 (room : Nat) (L : List Ln) (x : Ln) : ∃ M, fillE room L x = M ++ [x] ∧ dropP x.sp x.pg M = M := by
  unfold fillE
  split
  · rename_i h
    refine ⟨_, rfl, ?_⟩
    have e : dropP x.sp x.pg L = L := (List.filter_sublist (l := L)).eq_of_length h.1
    cases L with
    | nil => rfl
    | cons a l =>
      refine List.filter_eq_self.2 (fun y hy => List.filter_eq_self.1 e y (by simp at hy; simp [hy]))
  · exact ⟨_, rfl, by unfold dropP; rw [List.filter_filter]; simp⟩
theorem lookE_last2 (M : List Ln) (x : Ln) (h : dropP x.sp x.pg M = M) : lookE x.sp x.pg (M ++ [x]) = (x.fr, x.ri, true) := by
  have h1 : (M ++ [x]).find? (fun y => decide (y.sp = x.sp) && decide (y.pg = x.pg)) = some x := by
    rw [List.find?_append, List.find?_eq_none.2 (fun y hy => by have := List.filter_eq_self.1 h y hy; simpa only [Bool.not_eq_true, Bool.not_eq_true'] using this)]
    simp
  simp [lookE, h1]
theorem lookE_no {s p : Int} {L : List Ln} (h : ∀ y ∈ L, ¬ (y.sp = s ∧ y.pg = p)) : lookE s p L = (0, 0, false) := by
  have h1 : L.find? (fun y => decide (y.sp = s) && decide (y.pg = p)) = none := List.find?_eq_none.2 (fun y hy => by simpa using h y hy)
  simp [lookE, h1]
theorem dropP_last (M : List Ln) (x : Ln) (h : dropP x.sp x.pg M = M) : dropP x.sp x.pg (M ++ [x]) = M := by
  have h1 : dropP x.sp x.pg (M ++ [x]) = dropP x.sp x.pg M ++ dropP x.sp x.pg [x] := by simp [dropP]
  rw [h1, h]; simp [dropP]
theorem look_dropP (s p : Int) (L : List Ln) : lookE s p (dropP s p L) = (0, 0, false) := lookE_no (fun y hy => by
  have := (List.mem_filter.1 hy).2
  intro h
  simp [h.1, h.2] at this)
theorem look_dropS (s p : Int) (L : List Ln) : lookE s p (dropS s L) = (0, 0, false) := lookE_no (fun y hy => by
  have := (List.mem_filter.1 hy).2
  intro h
  simp [h.1] at this)
theorem look_dropF (M : List Ln) (x : Ln) (h : dropP x.sp x.pg M = M) : lookE x.sp x.pg (dropF x.fr (M ++ [x])) = (0, 0, false) := lookE_no (fun y hy => by
  have h1 := (List.mem_filter.1 hy).1
  have h2 := (List.mem_filter.1 hy).2
  simp only [List.mem_append, List.mem_singleton] at h1
  rcases h1 with h1 | rfl
  · have := List.filter_eq_self.1 h y h1
    intro h3
    simp [h3.1, h3.2] at this
  · simp at h2)
theorem dropS_less (M : List Ln) (x : Ln) : (dropS x.sp (M ++ [x])).length < (M ++ [x]).length := by
  have h1 : dropS x.sp (M ++ [x]) = dropS x.sp M := by simp [dropS]
  have h2 : (dropS x.sp M).length ≤ M.length := List.length_filter_le _ _
  rw [h1, List.length_append]; simp; omega
theorem dropF_less (M : List Ln) (x : Ln) : (dropF x.fr (M ++ [x])).length < (M ++ [x]).length := by
  have h1 : dropF x.fr (M ++ [x]) = dropF x.fr M := by simp [dropF]
  have h2 : (dropF x.fr M).length ≤ M.length := List.length_filter_le _ _
  rw [h1, List.length_append]; simp; omega
end Go.Proofs.Ytgjlghjigfclpaa

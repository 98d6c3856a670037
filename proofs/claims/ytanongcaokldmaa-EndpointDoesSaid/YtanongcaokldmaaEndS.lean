/- Things that a call owns, side by side: no block belongs to two of them. -/
import Derived.Test.YtanongcaokldmaaEndD
set_option linter.all false
namespace Go.Proofs.Ytanongcaokldmaa
open Go.RowKit

abbrev Thing := (Nat → Prop) → World → Prop
/-- What is owned stays if none of its blocks is written. -/
structure Thing.Ok (P : Thing) : Prop where
  kept : ∀ {O F : Nat → Prop} {w w' : World}, P O w → Kept F w w' → (∀ i, O i → ¬ F i) → P O w'
  sized : ∀ {O : Nat → Prop} {w : World}, P O w → P (fun k => O k ∧ k < w.heap.size) w
  mono : ∀ {O O' : Nat → Prop} {w : World}, P O w → (∀ k, O k → O' k) → P O' w
def Sep (P Q : Thing) : Thing := fun O w => ∃ O1 O2, P O1 w ∧ Q O2 w ∧ (∀ k, O1 k → O k ∧ ¬ O2 k) ∧ ∀ k, O2 k → O k
theorem Sep.ok {P Q : Thing} (hP : P.Ok) (hQ : Q.Ok) : (Sep P Q).Ok where
  kept := fun ⟨O1, O2, h1, h2, h3, h4⟩ k hF => ⟨O1, O2, hP.kept h1 k (fun i hi => hF i (h3 i hi).1), hQ.kept h2 k (fun i hi => hF i (h4 i hi)), h3, h4⟩
  sized := fun ⟨O1, O2, h1, h2, h3, h4⟩ => ⟨_, _, hP.sized h1, hQ.sized h2, fun k hk => ⟨⟨(h3 k hk.1).1, hk.2⟩, fun h => (h3 k hk.1).2 h.1⟩, fun k hk => ⟨h4 k hk.1, hk.2⟩⟩
  mono := fun ⟨O1, O2, h1, h2, h3, h4⟩ hO => ⟨O1, O2, h1, h2, fun k hk => ⟨hO k (h3 k hk).1, (h3 k hk).2⟩, fun k hk => hO k (h4 k hk)⟩
theorem Sep.swap {P Q : Thing} {O : Nat → Prop} {w : World} (h : Sep P Q O w) : Sep Q P O w := let ⟨O1, O2, h1, h2, h3, h4⟩ := h; ⟨O2, O1, h2, h1, fun k hk => ⟨h4 k hk, fun h => (h3 k h).2 hk⟩, fun k hk => (h3 k hk).1⟩
theorem Sep.turn {P Q R : Thing} {O : Nat → Prop} {w : World} (h : Sep P (Sep Q R) O w) : Sep Q (Sep P R) O w := by
  obtain ⟨O1, O2, h1, ⟨O3, O4, h5, h6, h7, h8⟩, h3, h4⟩ := h
  exact ⟨O3, fun k => O1 k ∨ O4 k, h5, ⟨O1, O4, h1, h6, fun k hk => ⟨.inl hk, fun h => (h3 k hk).2 (h8 k h)⟩, fun k hk => .inr hk⟩,
    fun k hk => ⟨h4 k (h7 k hk).1, fun h => h.elim (fun h => (h3 k h).2 (h7 k hk).1) (fun h => (h7 k hk).2 h)⟩, fun k hk => hk.elim (fun h => (h3 k h).1) (fun h => h4 k (h8 k h))⟩
/-- The first one is turned: what it now owns it owned before, or it is new. -/
theorem Sep.step {P' Q : Thing} {O O1 O2 : Nat → Prop} {w w' : World} (hQ : Q.Ok) (h2 : Q O2 w) (h3 : ∀ k, O1 k → O k ∧ ¬ O2 k) (h4 : ∀ k, O2 k → O k)
    (h1 : P' (fun k => O1 k ∨ w.heap.size ≤ k) w') (hk : Kept O1 w w') (hO : ∀ k, w.heap.size ≤ k → O k) : Sep P' Q O w' ∧ Kept O w w' := by
  refine ⟨⟨_, _, h1, hQ.kept (hQ.sized h2) hk (fun i hi h => (h3 i h).2 hi.1), fun k hk => ?_, fun k hk => h4 k hk.1⟩, hk.mono (fun i _ h => (h3 i h).1)⟩
  rcases hk with h | h
  · exact ⟨(h3 k h).1, fun h' => (h3 k h).2 h'.1⟩
  · exact ⟨hO k h, fun h' => by have := h'.2; omega⟩
/-- A new one beside. -/
theorem Sep.fresh {P N : Thing} {O : Nat → Prop} {w w' : World} (hP : P.Ok) (h : P O w) (hN : N (fun k => w.heap.size ≤ k) w') (hk : New w w') (hO : ∀ k, w.heap.size ≤ k → O k) : Sep N P O w' :=
  ⟨_, _, hN, hP.kept (hP.sized h) hk (fun _ _ h => h), fun k hk => ⟨hO k hk, fun h => by have := h.2; omega⟩, fun k hk => hk.1⟩

/-- A block that is owned. -/
def BQ (q : Nat) (o : Obj) : Thing := fun O w => w.heap[q]? = some o ∧ O q
theorem BQ.ok (q : Nat) (o : Obj) : (BQ q o).Ok := ⟨fun h k hF => ⟨k.heap h.1 (hF _ h.2), h.2⟩, fun h => ⟨h.1, h.2, lt_of_heap h.1⟩, fun h hO => ⟨h.1, hO _ h.2⟩⟩
theorem Sep.any {P Q : Thing} {O : Nat → Prop} {w : World} (h : Sep P Q O w) : ∃ O2, Q O2 w := let ⟨_, O2, _, h2, _, _⟩ := h; ⟨O2, h2⟩
theorem Sep.one {P Q : Thing} {O : Nat → Prop} {w : World} (h : Sep P Q O w) : ∃ O1, P O1 w := let ⟨O1, _, h1, _, _, _⟩ := h; ⟨O1, h1⟩
theorem Sep.inr {P Q Q' : Thing} {O : Nat → Prop} {w : World} (h : Sep P Q O w) (f : ∀ O2, Q O2 w → Q' O2 w) : Sep P Q' O w := let ⟨O1, O2, h1, h2, h3, h4⟩ := h; ⟨O1, O2, h1, f O2 h2, h3, h4⟩
/-- The third one comes first. -/
theorem Sep.third {P Q R S : Thing} {O : Nat → Prop} {w : World} (h : Sep P (Sep Q (Sep R S)) O w) : Sep R (Sep P (Sep Q S)) O w := (h.inr (fun _ h => h.turn)).turn

end Go.Proofs.Ytanongcaokldmaa

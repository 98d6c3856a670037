/- Things that a call owns, side by side: no block belongs to two of them. -/
import Derived.Test.YtgjlghjigfclpaaTlbK
set_option linter.all false
namespace Go.Proofs.Ytgjlghjigfclpaa
open Go.RowKit

abbrev Thing := (Nat → Prop) → World → Prop
/-- What is owned stays if none of its blocks is written. -/
structure Thing.Ok (P : Thing) : Prop where
  kept : ∀ {O F : Nat → Prop} {w w' : World}, P O w → Kept F w w' → (∀ i, O i → ¬ F i) → P O w'
  sized : ∀ {O : Nat → Prop} {w : World}, P O w → P (fun k => O k ∧ k < w.heap.size) w
  mono : ∀ {O O' : Nat → Prop} {w : World}, P O w → (∀ k, O k → O' k) → P O' w
def Sep (P Q : Thing) : Thing := fun O w => ∃ O1 O2, P O1 w ∧ Q O2 w ∧ (∀ k, O1 k → O k ∧ ¬ O2 k) ∧ ∀ k, O2 k → O k
theorem Sep.ok {P Q : Thing} (hP : P.Ok) (hQ : Q.Ok) : (Sep P Q).Ok where
  kept := fun ⟨O1, O2, h1, h2, h3, h4⟩ k hF => ⟨O1, O2, hP.kept h1 k (fun i hi => hF i (h3 i hi).1), hQ.kept h2 k (fun i hi => hF i (h4 i hi)), h3, h4⟩
  sized := fun ⟨O1, O2, h1, h2, h3, h4⟩ => ⟨_, _, hP.sized h1, hQ.sized h2, fun k hk => ⟨⟨(h3 k hk.1).1, hk.2⟩, fun h => (h3 k hk.1).2 h.1⟩, fun k hk => ⟨h4 k hk.1, hk.2⟩⟩
  mono := fun ⟨O1, O2, h1, h2, h3, h4⟩ hO => ⟨O1, O2, h1, h2, fun k hk => ⟨hO k (h3 k hk).1, (h3 k hk).2⟩, fun k hk => hO k (h4 k hk)⟩
theorem Sep.swap {P Q : Thing} {O : Nat → Prop} {w : World} (h : Sep P Q O w) : Sep Q P O w := let ⟨O1, O2, h1, h2, h3, h4⟩ := h; ⟨O2, O1, h2, h1, fun k hk => ⟨h4 k hk, fun h => (h3 k h).2 hk⟩, fun k hk => (h3 k hk).1⟩
theorem Sep.turn {P Q R : Thing} {O : Nat → Prop} {w : World} (h : Sep P (Sep Q R) O w) : Sep Q (Sep P R) O w := by
  obtain ⟨O1, O2, h1, ⟨O3, O4, h5, h6, h7, h8⟩, h3, h4⟩ := h
  exact ⟨O3, fun k => O1 k ∨ O4 k, h5, ⟨O1, O4, h1, h6, fun k hk => ⟨.inl hk, fun h => (h3 k hk).2 (h8 k h)⟩, fun k hk => .inr hk⟩,
    fun k hk => ⟨h4 k (h7 k hk).1, fun h => h.elim (fun h => (h3 k h).2 (h7 k hk).1) (fun h => (h7 k hk).2 h)⟩, fun k hk => hk.elim (fun h => (h3 k h).1) (fun h => h4 k (h8 k h))⟩
/-- The first one is turned: what it now owns it owned before, or it is new. -/
theorem Sep.step {P' Q : Thing} {O O1 O2 : Nat → Prop} {w w' : World} (hQ : Q.Ok) (h2 : Q O2 w) (h3 : ∀ k, O1 k → O k ∧ ¬ O2 k) (h4 : ∀ k, O2 k → O k)
    (h1 : P' (fun k => O1 k ∨ w.heap.size ≤ k) w') (hk : Kept O1 w w') (hO : ∀ k, w.heap.size ≤ k → O k) : Sep P' Q O w' ∧ Kept O w w' := by
  refine ⟨⟨_, _, h1, hQ.kept (hQ.sized h2) hk (fun i hi h => (h3 i h).2 hi.1), fun k hk => ?_, fun k hk => h4 k hk.1⟩, hk.mono (fun i _ h => (h3 i h).1)⟩
  rcases hk with h | h
  · exact ⟨(h3 k h).1, fun h' => (h3 k h).2 h'.1⟩
  · exact ⟨hO k h, fun h' => by have := h'.2; omega⟩
/-- A new one beside. -/
theorem Sep.fresh {P N : Thing} {O : Nat → Prop} {w w' : World} (hP : P.Ok) (h : P O w) (hN : N (fun k => w.heap.size ≤ k) w') (hk : New w w') (hO : ∀ k, w.heap.size ≤ k → O k) : Sep N P O w' :=
  ⟨_, _, hN, hP.kept (hP.sized h) hk (fun _ _ h => h), fun k hk => ⟨hO k hk, fun h => by have := h.2; omega⟩, fun k hk => hk.1⟩

/-- A TLB with these lines. -/
def TP (b room : Nat) (L : List Ln) : Thing := fun O w => Tb O w b room L
theorem TP.ok (b room : Nat) (L : List Ln) : (TP b room L).Ok := ⟨fun h k hF => Tb.kept h k hF, fun h => Tb.sized h, fun h hO => Tb.mono h hO⟩

/-- All that is filled in, one behind the other. -/
def fillsE (room : Nat) (xs : List Ln) : List Ln := xs.foldl (fillE room) []
theorem fillsE_snoc (room : Nat) (xs : List Ln) (x : Ln) : fillsE room (xs ++ [x]) = fillE room (fillsE room xs) x := by simp [fillsE]
theorem fillsE_take {room k : Nat} {L : List Ln} {x : Ln} (h : L[k]? = some x) : fillsE room (L.take (k + 1)) = fillE room (fillsE room (L.take k)) x := by
  rw [List.take_add_one, h]; exact fillsE_snoc _ _ _
theorem fillsE_length (room : Nat) (h0 : 1 ≤ room) (xs : List Ln) : (fillsE room xs).length ≤ room := by
  have : ∀ (xs L : List Ln), L.length ≤ room → (xs.foldl (fillE room) L).length ≤ room := by
    intro xs
    induction xs with
    | nil => intro L h; exact h
    | cons a l ih => intro L h; exact ih _ (length_fillE room L a h h0)
  exact this xs [] (by simp)

theorem fill_suffix {n m : Nat} (hn : 1 ≤ n) (hm : n < m) {P La : List Ln} (x : Ln) (ha : La.length ≤ n) (hb : (P ++ La).length ≤ m) : ∃ P', fillE m (P ++ La) x = P' ++ fillE n La x := by
  have hdP : (dropP x.sp x.pg P).length ≤ P.length := List.length_filter_le _ _
  have hdL : (dropP x.sp x.pg La).length ≤ La.length := List.length_filter_le _ _
  have hap : dropP x.sp x.pg (P ++ La) = dropP x.sp x.pg P ++ dropP x.sp x.pg La := by simp [dropP]
  by_cases h1 : (dropP x.sp x.pg La).length = La.length
  · have e1 : dropP x.sp x.pg La = La := (List.filter_sublist (l := La)).eq_of_length h1
    by_cases h2 : (dropP x.sp x.pg P).length = P.length
    · have e2 : dropP x.sp x.pg P = P := (List.filter_sublist (l := P)).eq_of_length h2
      simp only [fillE, hap, e1, e2, true_and]
      by_cases h3 : m ≤ (P ++ La).length
      · rw [if_pos h3]
        cases P with
        | nil => simp at h3; omega
        | cons a l =>
          by_cases h4 : n ≤ La.length
          · rw [if_pos h4]
            cases La with
            | nil => simp at h4; omega
            | cons c k => exact ⟨l ++ [c], by simp⟩
          · rw [if_neg h4]; exact ⟨l, by simp⟩
      · rw [if_neg h3]
        by_cases h4 : n ≤ La.length
        · rw [if_pos h4]
          cases La with
          | nil => simp at h4; omega
          | cons c k => exact ⟨P ++ [c], by simp⟩
        · rw [if_neg h4]; exact ⟨P, by simp⟩
    · have h5 : ¬ ((dropP x.sp x.pg (P ++ La)).length = (P ++ La).length ∧ m ≤ (P ++ La).length) := by
        rw [hap]; simp only [List.length_append]; omega
      rw [fillE, if_neg h5, fillE, hap, e1]
      by_cases h4 : n ≤ La.length
      · rw [if_pos ⟨rfl, h4⟩]
        cases La with
        | nil => simp at h4; omega
        | cons c k => exact ⟨dropP x.sp x.pg P ++ [c], by simp⟩
      · rw [if_neg (fun h => h4 h.2)]; exact ⟨dropP x.sp x.pg P, by simp⟩
  · have h5 : ¬ ((dropP x.sp x.pg (P ++ La)).length = (P ++ La).length ∧ m ≤ (P ++ La).length) := by
      rw [hap]; simp only [List.length_append]; omega
    rw [fillE, if_neg h5, fillE, if_neg (fun h => h1 h.1), hap]
    exact ⟨dropP x.sp x.pg P, by simp⟩

theorem fills_suffix {n m : Nat} (hn : 1 ≤ n) (hm : n < m) (xs : List Ln) : ∃ P, fillsE m xs = P ++ fillsE n xs := by
  have : ∀ (xs P La : List Ln), La.length ≤ n → (P ++ La).length ≤ m → ∃ P', xs.foldl (fillE m) (P ++ La) = P' ++ xs.foldl (fillE n) La := by
    intro xs
    induction xs with
    | nil => intro P La _ _; exact ⟨P, rfl⟩
    | cons a l ih =>
      intro P La h1 h2
      obtain ⟨P', hP'⟩ := fill_suffix hn hm a h1 h2
      have h3 := length_fillE m (P ++ La) a h2 (by omega)
      simp only [List.foldl_cons]
      rw [hP'] at h3 ⊢
      exact ih P' _ (length_fillE n La a h1 hn) h3
  exact this xs [] [] (by simp) (by simp)
end Go.Proofs.Ytgjlghjigfclpaa

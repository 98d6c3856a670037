/- Reading an argument whose cells are integers, bools, or slices of flat elements; slices of such. -/
import Derived.Test.YtjimjkfnpklhiaaOrdU
set_option linter.all false
namespace Go.Proofs.Ytjimjkfnpklhiaa
open Go.ChangeShapes Go.WideShapes Go.ChangeAt Go.RowKit

inductive FK2 where
  | int (k : IntKind)
  | bool
  | sl (ks : List FK)
def FK2.ok (w : World) : FK2 → Value → Prop
  | .int k, v => ∃ n, v = .int k n ∧ (Lit.int k n).wf = true
  | .bool, v => ∃ b, v = .bool b
  | .sl ks, v => ∃ rows : List (List Value), Src w v rows.length ks.length rows.flatten ∧ (∀ x ∈ rows, FlatOk ks x) ∧ rows.length ≤ maxLen ∧ ∃ ao n c, v = .slice ao n c ∧ n ≤ c
def Flat2Ok (w : World) : List FK2 → List Value → Prop
  | [], [] => True
  | k :: ks, v :: vs => k.ok w v ∧ Flat2Ok w ks vs
  | _, _ => False
theorem Flat2Ok.cons {w : World} {k : FK2} {ks : List FK2} {vs : List Value} (h : Flat2Ok w (k :: ks) vs) : ∃ v r, vs = v :: r ∧ k.ok w v ∧ Flat2Ok w ks r := by
  cases vs with
  | nil => exact h.elim
  | cons v r => exact ⟨v, r, rfl, h.1, h.2⟩
theorem Flat2Ok.nil {w : World} {vs : List Value} (h : Flat2Ok w [] vs) : vs = [] := by
  cases vs with
  | nil => rfl
  | cons v r => exact h.elim
theorem Flat2Ok.length {w : World} {ks : List FK2} : ∀ {vs : List Value}, Flat2Ok w ks vs → vs.length = ks.length := by
  induction ks with
  | nil => intro vs h; rw [h.nil]; rfl
  | cons k ks ih => intro vs h; obtain ⟨v, r, rfl, _, h2⟩ := h.cons; simp [ih h2]
theorem Flat2Ok.append {w : World} {ks ks' : List FK2} : ∀ {vs vs' : List Value}, Flat2Ok w ks vs → Flat2Ok w ks' vs' → Flat2Ok w (ks ++ ks') (vs ++ vs') := by
  induction ks with
  | nil => intro vs vs' h h'; rw [h.nil]; exact h'
  | cons k ks ih => intro vs vs' h h'; obtain ⟨v, r, rfl, h1, h2⟩ := h.cons; exact ⟨h1, ih h2 h'⟩
theorem Flat2Ok.int {w : World} {k : IntKind} {ks : List FK2} {vs : List Value} (h : Flat2Ok w (.int k :: ks) vs) : ∃ n r, vs = .int k n :: r ∧ (Lit.int k n).wf = true ∧ Flat2Ok w ks r := by
  obtain ⟨v, r, rfl, ⟨n, rfl, hn⟩, h2⟩ := h.cons; exact ⟨n, r, rfl, hn, h2⟩
theorem Flat2Ok.bool {w : World} {ks : List FK2} {vs : List Value} (h : Flat2Ok w (.bool :: ks) vs) : ∃ b r, vs = .bool b :: r ∧ Flat2Ok w ks r := by
  obtain ⟨v, r, rfl, ⟨b, rfl⟩, h2⟩ := h.cons; exact ⟨b, r, rfl, h2⟩

def flat2Of (P : Program) : Nat → TypeId → Option (List FK2)
  | 0, _ => none
  | n + 1, t =>
    match P.underlying t with
    | some (.int k) => some [.int k]
    | some .bool => some [.bool]
    | some (.slice e) => (flatOf P n e).bind fun ks => if ks.length = P.cellsOf e then some [.sl ks] else none
    | some (.struct fs) =>
      (fs.toList.foldlM (fun (acc : List FK2) f => if f.offset = acc.length then (flat2Of P n f.type).bind fun ks => if ks.length = P.cellsOf f.type then some (acc ++ ks) else none else none) []).bind fun ks =>
        if ks.length = P.cellsOf t then some ks else none
    | _ => none

section
variable {H : Type} {enc : TypeId × Value → H} {P : Program} {w : World} {base : Nat} {spare : Nat → Bool} {held : Bool}

/-- A slice's cell, read. -/
theorem trod_sl (n m : Nat) {t e : TypeId} {ks : List FK} (ht : P.underlying t = some (.slice e)) (hk : flatOf P n e = some ks) (hc : ks.length = P.cellsOf e) {cs : List Value} {x : DataW H × List MemPlace} (hx : DataW.trod enc P w base spare held m t cs = some x) : Flat2Ok w [.sl ks] cs := by
  rcases Deep.open_slice ht hx with ⟨hcs, _⟩ | ⟨a, len', cap', m', n', D, Pl, hcs, _, hl, hm, hmm, _, hel⟩
  · subst hcs
    exact ⟨⟨[], ⟨none, 0, rfl, fun _ => rfl, by simp, by simp⟩, by simp, by simp, none, 0, 0, rfl, Nat.le_refl _⟩, trivial⟩
  · subst hcs
    have hle : len' ≤ m' := by rw [hmm]; split <;> omega
    have hel' : ∀ i, i < len' → ∃ cs, FlatOk ks cs ∧ ∀ j u, cs[j]? = some u → w.cell? ((a.add (i * ks.length)).add j) = some u := by
      intro i hi
      obtain ⟨cs, h1, h2⟩ := hel i (by omega)
      rw [← hc] at h1
      exact ⟨cs, trod_flat n n' hk h2, (cells?_at h1).2⟩
    obtain ⟨R, hR⟩ := Deep.choose_lt (p := fun i cs => FlatOk ks cs ∧ ∀ j u, cs[j]? = some u → w.cell? ((a.add (i * ks.length)).add j) = some u) hel'
    let R' : Nat → List Value := fun i => if i < len' then R i else List.replicate ks.length undef
    have hR' : ∀ i, (R' i).length = ks.length := by
      intro i
      by_cases hi : i < len'
      · simp only [R', if_pos hi]; exact (hR i hi).1.length
      · simp [R', if_neg hi]
    refine ⟨⟨(List.range len').map R', ⟨some a, cap', by simp, by simp, ?_, ?_⟩, ?_, by simp; omega, some a, len', cap', rfl, hl⟩, trivial⟩
    · rw [length_flatten_range R' hR']; simp
    · intro j u hj
      obtain ⟨i, j', h1, h2, rfl, h3⟩ := flatten_at R' hR' len' j u hj
      refine ⟨a, rfl, ?_⟩
      rw [← Deep.add_add]
      simp only [R', if_pos h1] at h3
      exact (hR i h1).2 j' u h3
    · intro x hx
      obtain ⟨i, hi, rfl⟩ := List.mem_map.1 hx
      have hi' := List.mem_range.1 hi
      simp only [R', if_pos hi']
      exact (hR i hi').1

theorem flat2_fields (n m : Nat) (ih : ∀ {t : TypeId} {ks : List FK2}, flat2Of P n t = some ks → ∀ {cs : List Value} {x : DataW H × List MemPlace}, DataW.trod enc P w base spare held m t cs = some x → Flat2Ok w ks cs)
    (cs : List Value) : ∀ (fs : List Field) (xs : List (DataW H × List MemPlace)) (acc ks : List FK2),
      fs.foldlM (fun (acc : List FK2) f => if f.offset = acc.length then (flat2Of P n f.type).bind fun ks => if ks.length = P.cellsOf f.type then some (acc ++ ks) else none else none) acc = some ks →
      (fs.mapM fun f => DataW.trod enc P w base spare held m f.type ((cs.drop f.offset).take (P.cellsOf f.type))) = some xs →
      Flat2Ok w acc (cs.take acc.length) → ks.length ≤ cs.length → Flat2Ok w ks (cs.take ks.length)
  | [], xs, acc, ks, h, _, h0, hl => by
    simp at h
    subst h
    exact h0
  | f :: fs, xs, acc, ks, h, hx, h0, hl => by
    simp only [List.foldlM_cons] at h
    split at h
    · rename_i hoff
      cases hf : flat2Of P n f.type with
      | none => simp [hf] at h
      | some k1 =>
        simp only [hf, Option.bind_some] at h
        split at h
        · rename_i hk1
          simp only [Option.bind_eq_bind, Option.bind_some] at h
          simp only [List.mapM_cons, Option.bind_eq_bind, Option.bind_eq_some_iff] at hx
          obtain ⟨y, hy, ys, hys, _⟩ := hx
          have h1 := ih hf hy
          have hmono : (acc ++ k1).length ≤ ks.length := by
            clear h0 hl
            have : ∀ (fs : List Field) (acc ks : List FK2), fs.foldlM (fun (acc : List FK2) f => if f.offset = acc.length then (flat2Of P n f.type).bind fun ks => if ks.length = P.cellsOf f.type then some (acc ++ ks) else none else none) acc = some ks → acc.length ≤ ks.length := by
              intro fs
              induction fs with
              | nil => intro acc ks h; simp at h; subst h; exact Nat.le_refl _
              | cons f fs ihf =>
                intro acc ks h
                simp only [List.foldlM_cons] at h
                split at h
                · cases hf : flat2Of P n f.type with
                  | none => simp [hf] at h
                  | some k1 =>
                    simp only [hf, Option.bind_some] at h
                    split at h
                    · simp only [Option.bind_eq_bind, Option.bind_some] at h
                      have := ihf _ _ h
                      simp at this; omega
                    · simp at h
                · simp at h
            exact this _ _ _ h
          refine flat2_fields n m ih cs fs ys (acc ++ k1) ks h hys ?_ hl
          rw [hoff, ← hk1] at h1
          rw [List.length_append, List.take_add]
          exact h0.append h1
        · simp at h
    · simp at h

theorem trod_flat2 : ∀ (n m : Nat) {t : TypeId} {ks : List FK2}, flat2Of P n t = some ks → ∀ {cs : List Value} {x : DataW H × List MemPlace}, DataW.trod enc P w base spare held m t cs = some x → Flat2Ok w ks cs := by
  intro n
  induction n with
  | zero => intro m t ks h; simp [flat2Of] at h
  | succ n ih =>
    intro m t ks h cs x hx
    unfold flat2Of at h
    split at h
    · rename_i k hu
      simp at h
      subst h
      obtain ⟨a, rfl, _, hw⟩ := DataW.trod_int hu hx
      exact ⟨⟨a, rfl, hw⟩, trivial⟩
    · rename_i hu
      simp at h
      subst h
      obtain ⟨b, rfl, _⟩ := DataW.trod_bool hu hx
      exact ⟨⟨b, rfl⟩, trivial⟩
    · rename_i e hu
      simp only [Option.bind_eq_some_iff] at h
      obtain ⟨k1, h1, h2⟩ := h
      split at h2
      · rename_i hl
        simp at h2
        subst h2
        exact trod_sl n m hu h1 hl hx
      · simp at h2
    · rename_i fs hu
      cases m with
      | zero => simp [DataW.trod] at hx
      | succ m =>
      unfold DataW.trod at hx
      rw [hu] at hx
      simp only [Option.bind_eq_some_iff] at h
      obtain ⟨ks', h1, h2⟩ := h
      split at h2
      · rename_i hl
        simp at h2
        subst h2
        simp only at hx
        split at hx
        · rename_i hcl
          simp only [Option.map_eq_some_iff] at hx
          obtain ⟨xs, hxs, _⟩ := hx
          have := flat2_fields n m (fun {t ks} h => ih m h) cs fs.toList xs [] ks' h1 hxs trivial (by omega)
          rwa [List.take_of_length_le (by omega)] at this
        · simp at hx
      · simp at h2
    · simp at h

/-- Such an argument by value. -/
theorem open_flat2 {r : Reach} {b0 : Nat} {t : TypeId} {fs : Array Field} {v : Value} {d : DataW H} {p : List MemPlace} (n : Nat) {ks : List FK2} (hs : P.underlying t = some (.struct fs)) (hk : flat2Of P n t = some ks)
    (hv : Value.okWide P w r b0 t v) (h : DataW.Trod enc P w base spare held t v d p) : ∃ cs : List Value, v = .agg cs.toArray ∧ Flat2Ok w ks cs := by
  obtain ⟨cs, rfl, _⟩ := okWide_struct hs hv
  obtain ⟨m, hm⟩ := h
  refine ⟨cs.toList, by simp, ?_⟩
  exact trod_flat2 n m hk (by simpa [Value.cells] using hm)

/-- A slice of such elements. -/
theorem open_flats2 {r : Reach} {b0 : Nat} {t e : TypeId} {v : Value} {d : DataW H} {p : List MemPlace} (n : Nat) {ks : List FK2} (ht : P.underlying t = some (.slice e)) (hk : flat2Of P n e = some ks) (hc : P.cellsOf e = ks.length)
    (hv : Value.okWide P w r b0 t v) (h : DataW.Trod enc P w base (fun _ => true) held t v d p) :
    ∃ rows : List (List Value), Src w v rows.length ks.length rows.flatten ∧ (∀ x ∈ rows, Flat2Ok w ks x) ∧ rows.length ≤ maxLen := by
  obtain ⟨ao, len, cap, rfl⟩ := okWide_slice ht hv
  obtain ⟨fuel, hf⟩ := h
  rcases Deep.open_slice ht hf with ⟨hcs, _⟩ | ⟨a, len', cap', m, n', D, Pl, hcs, _, hl, hm, hmm, _, hel⟩
  · simp [Value.cells] at hcs
    obtain ⟨rfl, rfl, rfl⟩ := hcs
    exact ⟨[], ⟨none, 0, rfl, fun _ => rfl, by simp, by simp⟩, by simp, by simp⟩
  · simp [Value.cells] at hcs
    obtain ⟨rfl, rfl, rfl⟩ := hcs
    simp at hmm
    have hel' : ∀ i, i < len → ∃ cs, Flat2Ok w ks cs ∧ ∀ j u, cs[j]? = some u → w.cell? ((a.add (i * ks.length)).add j) = some u := by
      intro i hi
      obtain ⟨cs, h1, h2⟩ := hel i (by omega)
      rw [hc] at h1
      exact ⟨cs, trod_flat2 n n' hk h2, (cells?_at h1).2⟩
    obtain ⟨R, hR⟩ := Deep.choose_lt (p := fun i cs => Flat2Ok w ks cs ∧ ∀ j u, cs[j]? = some u → w.cell? ((a.add (i * ks.length)).add j) = some u) hel'
    let R' : Nat → List Value := fun i => if i < len then R i else List.replicate ks.length undef
    have hR' : ∀ i, (R' i).length = ks.length := by
      intro i
      by_cases hi : i < len
      · simp only [R', if_pos hi]; exact (hR i hi).1.length
      · simp [R', if_neg hi]
    refine ⟨(List.range len).map R', ⟨some a, cap, by simp, by simp, ?_, ?_⟩, ?_, by simp; omega⟩
    · rw [length_flatten_range R' hR']; simp
    · intro j u hj
      obtain ⟨i, j', h1, h2, rfl, h3⟩ := flatten_at R' hR' len j u hj
      refine ⟨a, rfl, ?_⟩
      rw [← Deep.add_add]
      simp only [R', if_pos h1] at h3
      exact (hR i h1).2 j' u h3
    · intro x hx
      obtain ⟨i, hi, rfl⟩ := List.mem_map.1 hx
      have hi' := List.mem_range.1 hi
      simp only [R', if_pos hi']
      exact (hR i hi').1
end

def ksSeen : List FK2 := [.int .i64, .int .i64, .int .i64, .int .i64, .int .u64, .int .i64, .sl [.int .i64, .int .i64, .int .i64, .int .i64], .int .i64, .int .i64, .bool]
theorem ksSeen40 : flat2Of Try.prog 8 40 = some ksSeen := by kernel_rfl

/-- What is seen, told of its cells. -/
theorem sn_of_flat {w : World} {x : List Value} (h : Flat2Ok w ksSeen x) : ∃ s : Sn, x = encS s ∧ Src w s.v s.t.fg.length 4 (s.t.fg.flatMap encL) ∧ s.t.fg.length ≤ maxLen ∧ (∃ ao n c, s.v = .slice ao n c ∧ n ≤ c) ∧ (Lit.int .i64 s.c).wf = true ∧ (Lit.int .i64 s.n).wf = true := by
  obtain ⟨k, _, rfl, _, h⟩ := h.int
  obtain ⟨c, _, rfl, wc, h⟩ := h.int
  obtain ⟨n, _, rfl, wn, h⟩ := h.int
  obtain ⟨e, _, rfl, _, h⟩ := h.int
  obtain ⟨tw, _, rfl, _, h⟩ := h.int
  obtain ⟨tk, _, rfl, _, h⟩ := h.int
  obtain ⟨v, _, rfl, ⟨rows, h1, h2, h3, h4⟩, h⟩ := h.cons
  obtain ⟨fr, _, rfl, _, h⟩ := h.int
  obtain ⟨rt, _, rfl, _, h⟩ := h.int
  obtain ⟨is, _, rfl, hn⟩ := h.bool
  obtain rfl := hn.nil
  obtain ⟨L, hL, hl⟩ := lines_of_rows h2
  rw [hL, ← hl] at h1
  exact ⟨⟨k, c, n, ⟨e, tw, tk, L⟩, v, fr, rt, is⟩, rfl, h1, by rw [← hl] at h3; exact h3, h4, wc, wn⟩
theorem sns_of_rows {w : World} : ∀ {rows : List (List Value)}, (∀ x ∈ rows, Flat2Ok w ksSeen x) → ∃ L : List Sn, rows.flatten = L.flatMap encS ∧ L.length = rows.length ∧ ∀ s ∈ L, Src w s.v s.t.fg.length 4 (s.t.fg.flatMap encL) ∧ s.t.fg.length ≤ maxLen ∧ (∃ ao n c, s.v = .slice ao n c ∧ n ≤ c) ∧ (Lit.int .i64 s.c).wf = true ∧ (Lit.int .i64 s.n).wf = true
  | [], _ => ⟨[], rfl, rfl, by simp⟩
  | r :: rows, h => by
    obtain ⟨L, h1, h2, h3⟩ := sns_of_rows (rows := rows) (fun x hx => h x (by simp [hx]))
    obtain ⟨s, rfl, hs⟩ := sn_of_flat (h r (by simp))
    refine ⟨s :: L, by simp [h1], by simp [h2], fun x hx => ?_⟩
    rcases List.mem_cons.1 hx with rfl | hx
    · exact hs
    · exact h3 x hx
end Go.Proofs.Ytjimjkfnpklhiaa

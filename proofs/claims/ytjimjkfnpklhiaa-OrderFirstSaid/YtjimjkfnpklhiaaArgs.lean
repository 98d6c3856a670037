/- From a law's walk to its row: arguments that are flat (integers, bools, structs and arrays of these) or slices of such, opened; read again behind the call. -/
import Derived.Test.YtjimjkfnpklhiaaBase
import Derived.ProofKit
import Derived.OpenShut
import Derived.ChangeOld
import Derived.Deep.Slices
set_option linter.all false
namespace Go.Proofs.Ytjimjkfnpklhiaa
open Go.ChangeShapes Go.WideShapes Go.ChangeAt Go.RowKit

/-- What a cell of a flat value holds. -/
inductive FK where
  | int (k : IntKind)
  | bool

def FK.ok : FK → Value → Prop
  | .int k, v => ∃ n, v = .int k n ∧ (Lit.int k n).wf = true
  | .bool, v => ∃ b, v = .bool b

def FlatOk : List FK → List Value → Prop
  | [], [] => True
  | k :: ks, v :: vs => k.ok v ∧ FlatOk ks vs
  | _, _ => False

theorem FlatOk.cons {k : FK} {ks : List FK} {vs : List Value} (h : FlatOk (k :: ks) vs) : ∃ v r, vs = v :: r ∧ k.ok v ∧ FlatOk ks r := by
  cases vs with
  | nil => exact h.elim
  | cons v r => exact ⟨v, r, rfl, h.1, h.2⟩
theorem FlatOk.nil {vs : List Value} (h : FlatOk [] vs) : vs = [] := by
  cases vs with
  | nil => rfl
  | cons v r => exact h.elim
theorem FlatOk.length {ks : List FK} : ∀ {vs : List Value}, FlatOk ks vs → vs.length = ks.length := by
  induction ks with
  | nil => intro vs h; rw [h.nil]; rfl
  | cons k ks ih => intro vs h; obtain ⟨v, r, rfl, _, h2⟩ := h.cons; simp [ih h2]
theorem FlatOk.append {ks ks' : List FK} : ∀ {vs vs' : List Value}, FlatOk ks vs → FlatOk ks' vs' → FlatOk (ks ++ ks') (vs ++ vs') := by
  induction ks with
  | nil => intro vs vs' h h'; rw [h.nil]; exact h'
  | cons k ks ih => intro vs vs' h h'; obtain ⟨v, r, rfl, h1, h2⟩ := h.cons; exact ⟨h1, ih h2 h'⟩
theorem FlatOk.int {k : IntKind} {ks : List FK} {vs : List Value} (h : FlatOk (.int k :: ks) vs) : ∃ n r, vs = .int k n :: r ∧ (Lit.int k n).wf = true ∧ FlatOk ks r := by
  obtain ⟨v, r, rfl, ⟨n, rfl, hn⟩, h2⟩ := h.cons; exact ⟨n, r, rfl, hn, h2⟩
theorem FlatOk.bool {ks : List FK} {vs : List Value} (h : FlatOk (.bool :: ks) vs) : ∃ b r, vs = .bool b :: r ∧ FlatOk ks r := by
  obtain ⟨v, r, rfl, ⟨b, rfl⟩, h2⟩ := h.cons; exact ⟨b, r, rfl, h2⟩
theorem FlatOk.one {ks : List FK} : ∀ {vs : List Value}, FlatOk ks vs → ∀ u ∈ vs, u.oneCell' = true := by
  induction ks with
  | nil => intro vs h; rw [h.nil]; simp
  | cons k ks ih =>
    intro vs h
    obtain ⟨v, r, rfl, h1, h2⟩ := h.cons
    intro u hu
    rcases List.mem_cons.1 hu with rfl | hu
    · cases k with
      | int k => obtain ⟨n, rfl, _⟩ := h1; rfl
      | bool => obtain ⟨b, rfl⟩ := h1; rfl
    · exact ih h2 u hu

theorem ints_of_rows {k : IntKind} : ∀ {rows : List (List Value)}, (∀ x ∈ rows, FlatOk [.int k] x) → ∃ zs : List Int, rows.flatten = zs.map (Value.int k) ∧ zs.length = rows.length ∧ ∀ z ∈ zs, (Lit.int k z).wf = true
  | [], _ => ⟨[], rfl, rfl, by simp⟩
  | r :: rows, h => by
    obtain ⟨zs, h1, h2, h3⟩ := ints_of_rows (rows := rows) (fun x hx => h x (by simp [hx]))
    obtain ⟨n, l, rfl, hw, hl⟩ := (h r (by simp)).int
    obtain rfl := hl.nil
    refine ⟨n :: zs, by simp [h1], by simp [h2], ?_⟩
    intro z hz
    rcases List.mem_cons.1 hz with rfl | hz
    · exact hw
    · exact h3 z hz

theorem flatten_get {s : Nat} : ∀ {rows : List (List Value)}, (∀ x ∈ rows, x.length = s) → ∀ {i j : Nat} (hi : i < rows.length), j < s → rows.flatten[i * s + j]? = rows[i][j]?
  | [], _, i, j, hi, _ => by simp at hi
  | r :: rows, h, 0, j, hi, hj => by
    have hr := h r (by simp)
    simp [List.getElem?_append, hr, hj]
  | r :: rows, h, i + 1, j, hi, hj => by
    have hr := h r (by simp)
    have ih := flatten_get (rows := rows) (fun x hx => h x (by simp [hx])) (i := i) (j := j) (by simpa using hi) hj
    rw [List.flatten_cons, List.getElem?_append, if_neg (by rw [hr, Nat.add_mul]; omega), hr, show (i + 1) * s + j - s = i * s + j by rw [Nat.add_mul]; omega, ih]
    rfl

theorem spot_of_cell {w : World} {a : Addr} {u : Value} (h : w.cell? a = some u) : a.spot = none := by
  unfold World.cell? at h
  split at h
  · split at h
    · cases h
    · rename_i hs; simpa using hs
  · cases h

/-- A slice of flat elements, element by element. -/
theorem Src.rows {w : World} {v : Value} {n s : Nat} {ks : List FK} {rows : List (List Value)} (h : Src w v n s rows.flatten) (hs : s = ks.length) (hn : rows.length = n) (hf : ∀ x ∈ rows, FlatOk ks x) (hk : 0 < s) :
    ∃ ao c, v = .slice ao n c ∧ ∀ i, i < n → ∃ B O x, ao = some ⟨B, O, none⟩ ∧ FlatOk ks x ∧ rows[i]? = some x ∧ ∀ j u, x[j]? = some u → w.cell? ⟨B, O + i * s + j, none⟩ = some u := by
  subst hs
  obtain ⟨ao, c, rfl, _, hl, h3⟩ := h
  refine ⟨ao, c, rfl, fun i hi => ?_⟩
  have hlen : ∀ x ∈ rows, x.length = ks.length := fun x hx => (hf x hx).length
  have hi' : i < rows.length := by omega
  have hx := hf rows[i] (List.getElem_mem hi')
  have hat : ∀ i (hi' : i < rows.length), ∀ j u, rows[i][j]? = some u → ∃ ad, ao = some ad ∧ w.cell? (ad.add (i * ks.length + j)) = some u := by
    intro i hi' j u hj
    have hjs : j < ks.length := by
      have := (List.getElem?_eq_some_iff.1 hj).1
      rwa [hlen _ (List.getElem_mem hi')] at this
    exact h3 _ u (by rw [flatten_get hlen hi' hjs]; exact hj)
  have h0 : 0 < rows.length := by omega
  have hx0 := hf rows[0] (List.getElem_mem h0)
  obtain ⟨u0, hu0⟩ : ∃ u, rows[0][0]? = some u := ⟨rows[0][0]'(by rw [hx0.length]; exact hk), by rw [List.getElem?_eq_getElem]⟩
  obtain ⟨ad, rfl, hc0⟩ := hat 0 h0 0 u0 hu0
  have hsp : ad.spot = none := by
    have := spot_of_cell hc0
    simpa [Addr.add] using this
  obtain ⟨B, O, sp⟩ := ad
  simp only at hsp
  subst hsp
  refine ⟨B, O, rows[i], rfl, hx, List.getElem?_eq_getElem hi', fun j u hj => ?_⟩
  obtain ⟨ad', h1, h2⟩ := hat i hi' j u hj
  cases h1
  rw [addr_add] at h2
  rwa [Nat.add_assoc]

/-- The kinds of a flat type's cells. -/
def flatOf (P : Program) : Nat → TypeId → Option (List FK)
  | 0, _ => none
  | n + 1, t =>
    match P.underlying t with
    | some (.int k) => some [.int k]
    | some .bool => some [.bool]
    | some (.struct fs) =>
      (fs.toList.foldlM (fun (acc : List FK) f => if f.offset = acc.length then (flatOf P n f.type).bind fun ks => if ks.length = P.cellsOf f.type then some (acc ++ ks) else none else none) []).bind fun ks =>
        if ks.length = P.cellsOf t then some ks else none
    | some (.array m e) => (flatOf P n e).bind fun ks => if ks.length = P.cellsOf e ∧ m * ks.length = P.cellsOf t then some (List.replicate m ks).flatten else none
    | _ => none

section
variable {H : Type} {enc : TypeId × Value → H} {P : Program} {w : World} {base : Nat} {spare : Nat → Bool} {held : Bool}

theorem flat_fields (n m : Nat) (ih : ∀ {t : TypeId} {ks : List FK}, flatOf P n t = some ks → ∀ {cs : List Value} {x : DataW H × List MemPlace}, DataW.trod enc P w base spare held m t cs = some x → FlatOk ks cs)
    (cs : List Value) : ∀ (fs : List Field) (xs : List (DataW H × List MemPlace)) (acc ks : List FK),
      fs.foldlM (fun (acc : List FK) f => if f.offset = acc.length then (flatOf P n f.type).bind fun ks => if ks.length = P.cellsOf f.type then some (acc ++ ks) else none else none) acc = some ks →
      (fs.mapM fun f => DataW.trod enc P w base spare held m f.type ((cs.drop f.offset).take (P.cellsOf f.type))) = some xs →
      FlatOk acc (cs.take acc.length) → ks.length ≤ cs.length → FlatOk ks (cs.take ks.length)
  | [], xs, acc, ks, h, _, h0, hl => by
    simp at h
    subst h
    exact h0
  | f :: fs, xs, acc, ks, h, hx, h0, hl => by
    simp only [List.foldlM_cons] at h
    split at h
    · rename_i hoff
      cases hf : flatOf P n f.type with
      | none => simp [hf] at h
      | some k1 =>
        simp only [hf, Option.bind_some] at h
        split at h
        · rename_i hk1
          simp only [Option.bind_eq_bind, Option.bind_some] at h
          simp only [List.mapM_cons, Option.bind_eq_bind, Option.bind_eq_some_iff] at hx
          obtain ⟨y, hy, ys, hys, _⟩ := hx
          have h1 := ih hf hy
          have hmono : (acc ++ k1).length ≤ ks.length := by
            clear h0 hl
            have : ∀ (fs : List Field) (acc ks : List FK), fs.foldlM (fun (acc : List FK) f => if f.offset = acc.length then (flatOf P n f.type).bind fun ks => if ks.length = P.cellsOf f.type then some (acc ++ ks) else none else none) acc = some ks → acc.length ≤ ks.length := by
              intro fs
              induction fs with
              | nil => intro acc ks h; simp at h; subst h; exact Nat.le_refl _
              | cons f fs ihf =>
                intro acc ks h
                simp only [List.foldlM_cons] at h
                split at h
                · cases hf : flatOf P n f.type with
                  | none => simp [hf] at h
                  | some k1 =>
                    simp only [hf, Option.bind_some] at h
                    split at h
                    · simp only [Option.bind_eq_bind, Option.bind_some] at h
                      have := ihf _ _ h
                      simp at this; omega
                    · simp at h
                · simp at h
            exact this _ _ _ h
          refine flat_fields n m ih cs fs ys (acc ++ k1) ks h hys ?_ hl
          rw [hoff, ← hk1] at h1
          rw [List.length_append, List.take_add]
          exact h0.append h1
        · simp at h
    · simp at h

theorem trod_flat : ∀ (n m : Nat) {t : TypeId} {ks : List FK}, flatOf P n t = some ks → ∀ {cs : List Value} {x : DataW H × List MemPlace}, DataW.trod enc P w base spare held m t cs = some x → FlatOk ks cs := by
  intro n
  induction n with
  | zero => intro m t ks h; simp [flatOf] at h
  | succ n ih =>
    intro m t ks h cs x hx
    unfold flatOf at h
    split at h
    · rename_i k hu
      simp at h
      subst h
      obtain ⟨a, rfl, _, hw⟩ := DataW.trod_int hu hx
      exact ⟨⟨a, rfl, hw⟩, trivial⟩
    · rename_i hu
      simp at h
      subst h
      obtain ⟨b, rfl, _⟩ := DataW.trod_bool hu hx
      exact ⟨⟨b, rfl⟩, trivial⟩
    · rename_i fs hu
      cases m with
      | zero => simp [DataW.trod] at hx
      | succ m =>
      unfold DataW.trod at hx
      rw [hu] at hx
      simp only [Option.bind_eq_some_iff] at h
      obtain ⟨ks', h1, h2⟩ := h
      split at h2
      · rename_i hl
        simp at h2
        subst h2
        simp only at hx
        split at hx
        · rename_i hcl
          simp only [Option.map_eq_some_iff] at hx
          obtain ⟨xs, hxs, _⟩ := hx
          have := flat_fields n m (fun {t ks} h => ih m h) cs fs.toList xs [] ks' h1 hxs trivial (by omega)
          rwa [List.take_of_length_le (by omega)] at this
        · simp at hx
      · simp at h2
    · rename_i a e hu
      cases m with
      | zero => simp [DataW.trod] at hx
      | succ m =>
      unfold DataW.trod at hx
      rw [hu] at hx
      simp only [Option.bind_eq_some_iff] at h
      obtain ⟨k1, h1, h2⟩ := h
      split at h2
      · rename_i hl
        simp at h2
        subst h2
        simp only at hx
        split at hx
        · rename_i hcl
          simp only [Option.map_eq_some_iff] at hx
          obtain ⟨xs, hxs, _⟩ := hx
          have key : ∀ j, j ≤ a → FlatOk (List.replicate j k1).flatten (cs.take (j * k1.length)) := by
            intro j
            induction j with
            | zero => intro _; simp [FlatOk]
            | succ j ihj =>
              intro hj
              have hja := ihj (by omega)
              have hel : ∃ y, DataW.trod enc P w base spare held m e ((cs.drop (j * P.cellsOf e)).take (P.cellsOf e)) = some y := by
                have hmem : j ∈ List.range a := List.mem_range.2 (by omega)
                clear hja ihj
                have : ∀ (l : List Nat) (xs : List (DataW H × List MemPlace)), (l.mapM fun i => DataW.trod enc P w base spare held m e ((cs.drop (i * P.cellsOf e)).take (P.cellsOf e))) = some xs → ∀ i ∈ l, ∃ y, DataW.trod enc P w base spare held m e ((cs.drop (i * P.cellsOf e)).take (P.cellsOf e)) = some y := by
                  intro l
                  induction l with
                  | nil => intro xs _ i hi; simp at hi
                  | cons b l ihl =>
                    intro xs h i hi
                    simp only [List.mapM_cons, Option.bind_eq_bind, Option.bind_eq_some_iff] at h
                    obtain ⟨y, hy, ys, hys, _⟩ := h
                    rcases List.mem_cons.1 hi with rfl | hi
                    · exact ⟨y, hy⟩
                    · exact ihl ys hys i hi
                exact this _ _ hxs j hmem
              obtain ⟨y, hy⟩ := hel
              have h1' := ih m h1 hy
              rw [List.replicate_succ', List.flatten_concat, Nat.add_mul, Nat.one_mul, List.take_add]
              rw [hl.1]
              exact (hl.1 ▸ hja).append h1'
          have := key a (Nat.le_refl _)
          rwa [hl.2, List.take_of_length_le (by omega)] at this
        · simp at hx
      · simp at h2
    · simp at h

/-- A flat argument by value. -/
theorem open_flat {r : Reach} {b0 : Nat} {t : TypeId} {fs : Array Field} {v : Value} {d : DataW H} {p : List MemPlace} (n : Nat) {ks : List FK} (hs : P.underlying t = some (.struct fs)) (hk : flatOf P n t = some ks)
    (hv : Value.okWide P w r b0 t v) (h : DataW.Trod enc P w base spare held t v d p) : ∃ cs : List Value, v = .agg cs.toArray ∧ FlatOk ks cs := by
  obtain ⟨cs, rfl, _⟩ := okWide_struct hs hv
  obtain ⟨m, hm⟩ := h
  refine ⟨cs.toList, by simp, ?_⟩
  exact trod_flat n m hk (by simpa [Value.cells] using hm)

theorem length_flatten_range {s : Nat} (R : Nat → List Value) (hR : ∀ i, (R i).length = s) : ∀ len, ((List.range len).map R).flatten.length = len * s
  | 0 => by simp
  | len + 1 => by rw [List.range_succ, List.map_append, List.flatten_append, List.length_append, length_flatten_range R hR len]; simp [hR, Nat.add_mul]

theorem flatten_at {s : Nat} (R : Nat → List Value) (hR : ∀ i, (R i).length = s) : ∀ (len j : Nat) (u : Value), ((List.range len).map R).flatten[j]? = some u → ∃ i j', i < len ∧ j' < s ∧ j = i * s + j' ∧ (R i)[j']? = some u
  | 0, j, u, h => by simp at h
  | len + 1, j, u, h => by
    rw [List.range_succ, List.map_append, List.flatten_append, List.getElem?_append] at h
    have hl := length_flatten_range R hR len
    split at h
    · obtain ⟨i, j', h1, h2⟩ := flatten_at R hR len j u h
      exact ⟨i, j', by omega, h2⟩
    · rename_i hge
      rw [hl] at h hge
      simp only [List.map_cons, List.map_nil, List.flatten_cons, List.flatten_nil, List.append_nil] at h
      have h3 : j - len * s < s := by
        have := (List.getElem?_eq_some_iff.1 h).1
        rwa [hR] at this
      exact ⟨len, j - len * s, by omega, h3, by omega, h⟩

theorem cells?_at {W : World} {a : Addr} {n : Nat} {cs : List Value} (h : W.cells? base a n = some cs) : cs.length = n ∧ ∀ j u, cs[j]? = some u → W.cell? (a.add j) = some u := by
  unfold World.cells? at h
  split at h
  · have key : ∀ (l : List Nat) (cs : List Value), (l.mapM fun (i : Nat) => W.cell? (a.add i)) = some cs → cs.length = l.length ∧ ∀ (j : Nat) (u : Value), cs[j]? = some u → ∃ i : Nat, l[j]? = some i ∧ W.cell? (a.add i) = some u := by
      intro l
      induction l with
      | nil => intro cs h; simp at h; subst h; simp
      | cons b l ih =>
        intro cs h
        simp only [List.mapM_cons, Option.bind_eq_bind, Option.bind_eq_some_iff] at h
        obtain ⟨y, hy, ys, hys, h⟩ := h
        simp at h
        subst h
        obtain ⟨h1, h2⟩ := ih ys hys
        refine ⟨by simp [h1], fun j u hj => ?_⟩
        cases j with
        | zero => simp at hj; subst hj; exact ⟨b, rfl, hy⟩
        | succ j => simpa using h2 j u (by simpa using hj)
    obtain ⟨h1, h2⟩ := key _ _ h
    refine ⟨by simpa using h1, fun j u hj => ?_⟩
    obtain ⟨i, hi, hc⟩ := h2 j u hj
    have hjn : j < n := by have := (List.getElem?_eq_some_iff.1 hj).1; simp at h1; omega
    rw [List.getElem?_range hjn] at hi
    cases hi
    exact hc
  · cases h

/-- A slice of flat elements. -/
theorem open_flats {r : Reach} {b0 : Nat} {t e : TypeId} {v : Value} {d : DataW H} {p : List MemPlace} (n : Nat) {ks : List FK} (ht : P.underlying t = some (.slice e)) (hk : flatOf P n e = some ks) (hc : P.cellsOf e = ks.length)
    (hv : Value.okWide P w r b0 t v) (h : DataW.Trod enc P w base (fun _ => true) held t v d p) :
    ∃ rows : List (List Value), Src w v rows.length ks.length rows.flatten ∧ (∀ x ∈ rows, FlatOk ks x) ∧ rows.length ≤ maxLen := by
  obtain ⟨ao, len, cap, rfl⟩ := okWide_slice ht hv
  obtain ⟨fuel, hf⟩ := h
  rcases Deep.open_slice ht hf with ⟨hcs, _⟩ | ⟨a, len', cap', m, n', D, Pl, hcs, _, hl, hm, hmm, _, hel⟩
  · simp [Value.cells] at hcs
    obtain ⟨rfl, rfl, rfl⟩ := hcs
    exact ⟨[], ⟨none, 0, rfl, fun _ => rfl, by simp, by simp⟩, by simp, by simp⟩
  · simp [Value.cells] at hcs
    obtain ⟨rfl, rfl, rfl⟩ := hcs
    simp at hmm
    have hel' : ∀ i, i < len → ∃ cs, FlatOk ks cs ∧ ∀ j u, cs[j]? = some u → w.cell? ((a.add (i * ks.length)).add j) = some u := by
      intro i hi
      obtain ⟨cs, h1, h2⟩ := hel i (by omega)
      rw [hc] at h1
      exact ⟨cs, trod_flat n n' hk h2, (cells?_at h1).2⟩
    obtain ⟨R, hR⟩ := Deep.choose_lt (p := fun i cs => FlatOk ks cs ∧ ∀ j u, cs[j]? = some u → w.cell? ((a.add (i * ks.length)).add j) = some u) hel'
    let R' : Nat → List Value := fun i => if i < len then R i else List.replicate ks.length undef
    have hR' : ∀ i, (R' i).length = ks.length := by
      intro i
      by_cases hi : i < len
      · simp only [R', if_pos hi]; exact (hR i hi).1.length
      · simp [R', if_neg hi]
    refine ⟨(List.range len).map R', ⟨some a, cap, by simp, by simp, ?_, ?_⟩, ?_, by simp; omega⟩
    · rw [length_flatten_range R' hR']; simp
    · intro j u hj
      obtain ⟨i, j', h1, h2, rfl, h3⟩ := flatten_at R' hR' len j u hj
      refine ⟨a, rfl, ?_⟩
      rw [← Deep.add_add]
      simp only [R', if_pos h1] at h3
      exact (hR i h1).2 j' u h3
    · intro x hx
      obtain ⟨i, hi, rfl⟩ := List.mem_map.1 hx
      have hi' := List.mem_range.1 hi
      simp only [R', if_pos hi']
      exact (hR i hi').1

/-- All arguments read behind the call as they read before. -/
theorem all_again (hl : laidOutB P = true) {W W' : World} (hb : Below W.heap.size W W') : ∀ (ts : List TypeId) (vs : List Value) (ds : List (DataW H)) (ps : List MemPlace), (∀ t ∈ ts, P.readableRec t = true ∧ t < P.types.size) →
    DataW.TrodAll enc P W 0 (fun _ => true) true ts vs ds ps → DataW.TrodAll enc P W' 0 (fun b => decide (b < W.heap.size)) true ts vs ds ps
  | [], vs, ds, ps, _, h => by
    cases vs <;> cases ds <;> first | exact h | exact h.elim
  | t :: ts, vs, ds, ps, ht, h => by
    obtain ⟨v, vs', d, ds', p, q, rfl, rfl, rfl, h1, h2⟩ := trodAll_cons h
    have k1 := h1
    have lt : ∀ x ∈ p, x.block < W.heap.size := by obtain ⟨m, hm⟩ := k1; exact DataW.trod_lt m _ _ _ hm
    exact trodAll_cons_mk (Below.trod hl (ht t (by simp)).1 (ht t (by simp)).2 h1 hb lt) (all_again hl hb ts vs' ds' q (fun t' h' => ht t' (by simp [h'])) h2)

/-- The law's own post: true; the arguments read as before. -/
theorem law_post (hl : laidOutB P = true) {fn : Func} {spec : ChangeSpec} {rt : TypeId} (hrt : fn.resultTypes = #[rt]) (hb : P.underlying rt = some .bool) (hts : fn.params.toList.all (fun t => P.readableRec t && decide (t < P.types.size)) = true)
    (hv : spec.vars = []) {W W' : World} {args : Array Value} {ds gs : List (DataW H)} {before : List MemPlace} (hspec : spec.fn H ds = { results := [.lit (.bool true)], args := ds })
    (hW : DataW.Whole enc P fn.params.toList spec.vars false W args.toList ds gs before) (bel : Below W.heap.size W W') :
    spec.post enc P fn false true false false W args (.bool true) W' := by
  have hW' := hW
  obtain ⟨p, q, hA, hV, rfl, hfz, hnd⟩ := hW
  rw [hv] at hV
  obtain ⟨rfl, rfl⟩ := trodVars_none hV
  refine ⟨ds, [], _, [], p, [], hW', ?_, ?_, ?_, bel.frame _, fun h => by cases h⟩
  · rw [List.append_nil, hspec, hrt]
    exact trodAll_mk1 (shut_bool hb _)
  · rw [List.append_nil, hspec]
    refine all_again hl bel _ _ _ _ ?_ hA
    intro t ht
    have := List.all_eq_true.1 hts t ht
    simpa using this
  · rw [List.append_nil, hspec, hv]
    rfl
end

end Go.Proofs.Ytjimjkfnpklhiaa

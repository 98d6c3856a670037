/- Package order: the map of those that stand in line: key by key; what is told of it. -/
import Derived.Test.YtjimjkfnpklhiaaOrdD
import Derived.Maps.RangeWalk
set_option linter.all false
namespace Go.Proofs.Ytjimjkfnpklhiaa
open Go.RowKit Go.Maps

/-! How a pointer reads. -/
def ptrR : Value → Option (DataW Unit × List MemPlace)
  | .pointer (some ⟨b, 0, none⟩) => some (.lit (.int .i64 b), [])
  | .pointer none => some (.lit (.int .i64 (-1)), [])
  | _ => none
theorem ptrR_inv {v : Value} {y : DataW Unit × List MemPlace} (h : ptrR v = some y) : (v = .pointer none ∧ y = (.lit (.int .i64 (-1)), [])) ∨ ∃ b : Nat, v = .pointer (some ⟨b, 0, none⟩) ∧ y = (.lit (.int .i64 b), []) := by
  unfold ptrR at h
  split at h
  · cases h; exact .inr ⟨_, rfl, rfl⟩
  · cases h; exact .inl ⟨rfl, rfl⟩
  · cases h
theorem keys3 : Keyed Try.prog 3 := int_keyed Try.underlying3
theorem zero66 (w : World) : (zeroValue 66).run Try.prog w = .ok (.pointer none) w := by kernel_rfl
abbrev ky (c : Int) : Lit := .int .i64 c
theorem key3 {c : Int} (h : (Lit.int .i64 c).wf = true) : keyOf Try.prog 3 (.int .i64 c) = some (ky c) := keyOf_int_mk Try.underlying3 h
theorem ky_ne {c d : Int} (h : c ≠ d) : ky c ≠ ky d := fun e => h (by injection e)

theorem tight {w : World} {b n : Nat} {D : DataW Unit} (h : w.ownsMap Try.prog 3 ptrR b n D) : w.ownsMap Try.prog 3 ptrR b (size D) D := by
  obtain ⟨es, clock, hb, F, hs, rfl⟩ := h
  exact ⟨es, clock, hb, F, by simp [size, length_sorted], rfl⟩

theorem byOf_cases (N : List (Int × Nat)) (x : Int) : (byOf N x = none ∧ x ∉ N.map Prod.fst) ∨ ∃ p, byOf N x = some ⟨p, 0, none⟩ ∧ x ∈ N.map Prod.fst := by
  induction N with
  | nil => exact .inl ⟨rfl, by simp⟩
  | cons a l ih =>
    obtain ⟨c, p⟩ := a
    by_cases h : c = x
    · exact .inr ⟨p, by rw [byOf, if_pos h], by simp [h]⟩
    · rcases ih with ⟨h1, h2⟩ | ⟨q, h1, h2⟩
      · exact .inl ⟨by rw [byOf, if_neg h, h1], by simp only [List.map_cons, List.mem_cons, not_or]; exact ⟨fun e => h e.symm, h2⟩⟩
      · exact .inr ⟨q, by rw [byOf, if_neg h, h1], by simp only [List.map_cons, List.mem_cons]; exact .inr h2⟩

/-- The datum holds just these. -/
structure Holds (D : DataW Unit) (G : List (Int × Nat)) : Prop where
  has : ∀ c, Maps.has D (ky c) = decide (c ∈ G.map Prod.fst)
  at_ : ∀ c p, byOf G c = some ⟨p, 0, none⟩ → ∀ z, D.atKey (ky c) z = .lit (.int .i64 p)
  size : Maps.size D = G.length
  nodup : (G.map Prod.fst).Nodup

/-- Block b is a map of just these. -/
def Mp (w : World) (b : Nat) (G : List (Int × Nat)) : Prop := ∃ D, w.ownsMap Try.prog 3 ptrR b G.length D ∧ Holds D G

variable {w w' : World} {b : Nat} {G : List (Int × Nat)}
theorem Mp.lt (h : Mp w b G) : b < w.heap.size := let ⟨_, h1, _⟩ := h; h1.lt
theorem Mp.blk (h : Mp w b G) : ∃ es ck, w.heap[b]? = some (.map es ck) := let ⟨_, ⟨es, ck, h1, _⟩, _⟩ := h; ⟨es, ck, h1⟩
theorem own_map_kept {F : Nat → Prop} {n : Nat} {D : DataW Unit} (h : w.ownsMap Try.prog 3 ptrR b n D) (k : Kept F w w') (hF : ¬ F b) : w'.ownsMap Try.prog 3 ptrR b n D := by
  obtain ⟨es, clock, hb, r⟩ := h
  exact ⟨es, clock, k.heap hb hF, r⟩
theorem Mp.kept {F : Nat → Prop} (h : Mp w b G) (k : Kept F w w') (hF : ¬ F b) : Mp w' b G := let ⟨D, h1, h2⟩ := h; ⟨D, own_map_kept h1 k hF, h2⟩
theorem Mp.same (h : Mp w b G) (k : New w w') : Mp w' b G := h.kept k (fun h => h)
theorem Kept.of_turned {w w' : World} {b : Nat} (h : w.mapTurned w' b) : Kept (fun k => k = b) w w' := (Kept.refl _ w).grown h.grown (fun k hk => by cases hk; exact .inr rfl)

theorem Mp.made (w : World) : Mp (w.alloc (.map #[] 0)) w.heap.size [] :=
  ⟨_, World.ownsMap_made w Try.prog 3 ptrR, ⟨fun c => (by simp [Maps.has]), fun c p h => (by cases h), rfl, (by simp)⟩⟩

/-- 'm[c]'. -/
theorem Mp.look (h : Mp w b G) {c : Int} (hc : (Lit.int .i64 c).wf = true) : (Instr.lookup 48 (.map (some b)) (.int .i64 c) false).run Try.prog w = .ok (.pointer (byOf G c)) w := by
  obtain ⟨D, h1, h2⟩ := h
  obtain ⟨v, ps, hrun, hv⟩ := h1.lookup keys3 Try.underlying48 (zero66 w) (z := .pointer none) (zd := .lit (.int .i64 (-1))) (zp := []) rfl (key3 hc)
  rw [hrun]
  rcases byOf_cases G c with ⟨e1, e2⟩ | ⟨p, e1, e2⟩
  · rw [atKey_of_not_has (by rw [h2.has]; simpa using e2)] at hv
    rcases ptrR_inv hv with ⟨rfl, _⟩ | ⟨q, rfl, e⟩
    · rw [e1]
    · injection e with e _; injection e with e; injection e with _ e; omega
  · rw [h2.at_ c p e1] at hv
    rcases ptrR_inv hv with ⟨rfl, e⟩ | ⟨q, rfl, e⟩
    · injection e with e _; injection e with e; injection e with _ e; omega
    · injection e with e _; injection e with e; injection e with _ e
      rw [e1, show q = p by omega]

/-- 'm[c]', and whether it is there. -/
theorem Mp.look_ok (h : Mp w b G) {c : Int} (hc : (Lit.int .i64 c).wf = true) (r : Bool) (hr : decide (c ∈ G.map Prod.fst) = r) : (Instr.lookup 48 (.map (some b)) (.int .i64 c) true).run Try.prog w = .ok (.tuple #[.pointer (byOf G c), .bool r]) w := by
  obtain ⟨D, h1, h2⟩ := h
  obtain ⟨v, ps, hrun, hv⟩ := h1.look_ok keys3 Try.underlying48 (zero66 w) (z := .pointer none) (zd := .lit (.int .i64 (-1))) (zp := []) rfl (key3 hc)
  rw [hrun, h2.has, hr]
  rcases byOf_cases G c with ⟨e1, e2⟩ | ⟨p, e1, e2⟩
  · rw [atKey_of_not_has (by rw [h2.has]; simpa using e2)] at hv
    rcases ptrR_inv hv with ⟨rfl, _⟩ | ⟨q, rfl, e⟩
    · rw [e1]
    · injection e with e _; injection e with e; injection e with _ e; omega
  · rw [h2.at_ c p e1] at hv
    rcases ptrR_inv hv with ⟨rfl, e⟩ | ⟨q, rfl, e⟩
    · injection e with e _; injection e with e; injection e with _ e; omega
    · injection e with e _; injection e with e; injection e with _ e
      rw [e1, show q = p by omega]

/-- 'len(m)'. -/
theorem Mp.len (h : Mp w b G) (ty : TypeId) : (Builtin.len_ #[48] ty #[.map (some b)]).run Try.prog w = .ok (.int .i64 G.length) w := by
  obtain ⟨D, h1, h2⟩ := h
  rw [h1.len Try.underlying48 ty, h2.size]

/-- 'm[c] = p', c not there. -/
theorem Holds.put {D : DataW Unit} (h : Holds D G) (T : Tidy D) {c : Int} (p : Nat) (hk : WideAt.IsKeyLit (ky c)) (hc : c ∉ G.map Prod.fst) : Holds (D.put (ky c) (.lit (.int .i64 p))) (G ++ [(c, p)]) := by
  refine ⟨fun d => ?_, fun d q hq z => ?_, ?_, ?_⟩
  · by_cases e : d = c
    · subst e; rw [has_put_same T.isMap hk]; simp
    · rw [has_put_other (ky_ne e), h.has]; simp [e]
  · rw [byOf_append hc] at hq
    by_cases e : d = c
    · subst e
      rw [if_pos rfl] at hq
      rw [atKey_put_same T.isMap hk]
      injection hq with hq; injection hq with hq; rw [hq]
    · rw [if_neg e] at hq
      rw [atKey_put_other (ky_ne e)]
      exact h.at_ d q hq z
  · rw [size_put T, h.has, h.size]; simp [hc]
  · rw [List.map_append, List.nodup_append]
    exact ⟨h.nodup, by simp, fun a ha b hb e => by simp at hb; subst hb; exact hc (e ▸ ha)⟩
theorem Mp.put (h : Mp w b G) {c : Int} (p : Nat) (hc : (Lit.int .i64 c).wf = true) (hm : c ∉ G.map Prod.fst) (hl : G.length < 1000) :
    ∃ w', (Instr.mapUpdate 48 (.map (some b)) (.int .i64 c) (.pointer (some ⟨p, 0, none⟩))).run Try.prog w = .ok () w' ∧ Mp w' b (G ++ [(c, p)]) ∧ Kept (fun k => k = b) w w' := by
  obtain ⟨D, h1, h2⟩ := h
  obtain ⟨w', hrun, r1, r2⟩ := h1.store keys3 Try.underlying48 (Nat.lt_of_lt_of_le hl (by unfold maxLen; omega)) (key3 hc) (val := .pointer (some ⟨p, 0, none⟩)) (d := .lit (.int .i64 p)) (ps := []) rfl
  exact ⟨w', hrun, ⟨_, by rw [List.length_append]; exact r1, h2.put (h1.tidy keys3) p (keys3.key (key3 hc)) hm⟩, Kept.of_turned r2⟩

/-- 'delete(m, c)', c the first of the list. -/
theorem Holds.del {D : DataW Unit} {c : Int} {p : Nat} (h : Holds D ((c, p) :: G)) (T : Tidy D) : Holds (D.del (ky c)) G := by
  have hn := h.nodup
  simp only [List.map_cons, List.nodup_cons] at hn
  refine ⟨fun d => ?_, fun d q hq z => ?_, ?_, hn.2⟩
  · by_cases e : d = c
    · subst e; rw [has_del_same]; simpa using hn.1
    · rw [has_del_other (ky_ne e), h.has]; simp [e]
  · by_cases e : d = c
    · subst e; rw [byOf_none hn.1] at hq; cases hq
    · rw [atKey_del_other (ky_ne e)]
      exact h.at_ d q (by rw [byOf, if_neg (fun x => e x.symm), hq]) z
  · have := size_del (k := ky c) T
    rw [h.has, h.size] at this
    simp at this
    omega
theorem Mp.del {c : Int} {p : Nat} (h : Mp w b ((c, p) :: G)) (hc : (Lit.int .i64 c).wf = true) (ty : TypeId) :
    ∃ w', (Builtin.delete_ #[48, 3] ty #[.map (some b), .int .i64 c]).run Try.prog w = .ok (.tuple #[]) w' ∧ Mp w' b G ∧ Kept (fun k => k = b) w w' := by
  obtain ⟨D, h1, h2⟩ := h
  obtain ⟨w', hrun, r1, r2⟩ := h1.drop keys3 Try.underlying48 (key3 hc) ty
  have h3 := h2.del (h1.tidy keys3)
  exact ⟨w', hrun, ⟨_, h3.size ▸ tight r1, h3⟩, Kept.of_turned r2⟩

end Go.Proofs.Ytjimjkfnpklhiaa

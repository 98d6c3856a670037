/- Package order: what the laws call, of what 'bound' hands back and its beginnings. -/
import Derived.Test.YtjimjkfnpklhiaaOrdK
set_option linter.all false
namespace Go.Proofs.Ytjimjkfnpklhiaa
open Go.RowKit Go.Maps

/-- A slice of things seen, each with few lines. -/
structure Sd (W : World) (v : Value) (M : List Sn) : Prop where
  src : Src W v M.length 10 (M.flatMap encS)
  all : ∀ s ∈ M, Src W s.v s.t.fg.length 4 (s.t.fg.flatMap encL) ∧ s.t.fg.length ≤ 6
  len : M.length ≤ 61
theorem Sd.same {W W' : World} {v : Value} {M : List Sn} (h : Sd W v M) (k : New W W') : Sd W' v M := ⟨h.src.same k, fun s hs => ⟨(h.all s hs).1.same k, (h.all s hs).2⟩, h.len⟩
theorem Bd.sd {w0 W : World} {v : Value} {M : List Sn} (h : Bd w0 W v M) : Sd W v M := ⟨Src.of_own h.own, fun s hs => ⟨Src.of_own (h.src s hs), h.small s hs⟩, by have := h.len; omega⟩
theorem Sd.take {W : World} {ao : Option Addr} {n c k : Nat} {M : List Sn} (h : Sd W (.slice ao n c) M) (hk : k ≤ n) : Sd W (.slice ao k c) (M.take k) := by
  obtain ⟨ao', c', he, hc, hl, h3⟩ := h.src
  simp only [Value.slice.injEq] at he
  obtain ⟨rfl, rfl, rfl⟩ := he
  have hlt : (M.take k).length = k := by rw [List.length_take]; omega
  refine ⟨⟨ao, c, by rw [hlt], hc, by rw [seen_len], fun j u hj => h3 j u ?_⟩, fun s hs => h.all s (List.mem_of_mem_take hs), by have := h.len; omega⟩
  have hjl := (List.getElem?_eq_some_iff.1 hj).1
  rw [← List.take_append_drop k M, List.flatMap_append, List.getElem?_append_left hjl]
  exact hj
theorem Sd.wide {W : World} {v : Value} {M : List Sn} (h : Sd W v M) : ∀ s ∈ M, Src W s.v s.t.fg.length 4 (s.t.fg.flatMap encL) ∧ s.t.fg.length ≤ 1000000 := fun s hs => ⟨(h.all s hs).1, by have := (h.all s hs).2; omega⟩
theorem Sd.first {w0 W : World} {v : Value} {M : List Sn} (h : Sd W v M) (k : New w0 W) (n : Nat) (h1 : 1 ≤ n) (h8 : n ≤ 8) (r : Int) (hr : (goE n [] 0 M 0).1 = r) :
    Calls Try.prog 11 #[.int .i64 n, v] W fun e w' => e = .returned (.int .i64 r) ∧ New w0 w' :=
  (ofirst_any n v M W h1 h8 h.src h.wide (by have := h.len; omega) r _ _ (Prod.ext hr rfl)).mono fun e w' ⟨h1, h2⟩ => ⟨h1, k.trans h2⟩
theorem Sd.waits {w0 W : World} {v : Value} {M : List Sn} (h : Sd W v M) (k : New w0 W) (n : Nat) (h1 : 1 ≤ n) (h8 : n ≤ 8) (m : Nat) (hm : (goE n [] 0 M 0).2.2 = m) :
    Calls Try.prog 18 #[.int .i64 n, v] W fun e w' => e = .returned (.int .i64 m) ∧ New w0 w' :=
  (owaits_any n v M W h1 h8 h.src h.wide (by have := h.len; omega) _ _ m (Prod.ext rfl (Prod.ext rfl hm))).mono fun e w' ⟨h1, h2⟩ => ⟨h1, k.trans h2⟩
theorem Sd.line {w0 W : World} {v : Value} {M : List Sn} (h : Sd W v M) (k : New w0 W) (n : Nat) (h1 : 1 ≤ n) (h8 : n ≤ 8) (E : List En) (hE : (goE n [] 0 M 0).2.1 = E) :
    Calls Try.prog 14 #[.int .i64 n, v] W fun e w' => ∃ ao c, e = .returned (.slice ao E.length c) ∧ Src w' (.slice ao E.length c) E.length 1 ((coreL E).map (Value.int .i64)) ∧ New w0 w' := by
  refine (oline_any n v M W h1 h8 h.src h.wide (by have := h.len; omega) _ E _ (Prod.ext rfl (Prod.ext hE rfl))).mono ?_
  rintro e w' ⟨v', rfl, h2, h3⟩
  have h4 := Src.of_own h2
  obtain ⟨ao, c, rfl, -⟩ := id h4
  exact ⟨ao, c, rfl, h4, k.trans h3⟩
theorem Sd.calls {w0 W : World} {v : Value} {M : List Sn} (h : Sd W v M) (k : New w0 W) (C : List Int) (hC : callsE M = C) :
    Calls Try.prog 16 #[v] W fun e w' => ∃ ao c, e = .returned (.slice ao C.length c) ∧ Src w' (.slice ao C.length c) C.length 1 (C.map (Value.int .i64)) ∧ New w0 w' := by
  refine (ocalls_any v M W h.src (fun s hs => (h.wide s hs).1) (by have := h.len; omega)).mono ?_
  rintro e w' ⟨v', rfl, h2, h3⟩
  rw [hC] at h2
  have h4 := Src.of_own h2
  obtain ⟨ao, c, rfl, -⟩ := id h4
  exact ⟨ao, c, rfl, h4, k.trans h3⟩
theorem fixed_new {w0 W : World} (k : New w0 W) : Calls Try.prog 20 #[] W fun e w' => e = .returned (.bool true) ∧ New w0 w' := (fixed_any W).mono fun e w' ⟨h1, h2⟩ => ⟨h1, k.trans h2⟩
/-- 'bound', of an argument that was read. -/
theorem bound_rows (w : World) (v : Value) (rows : List (List Value)) (hs : Src w v rows.length 10 rows.flatten) (hr : ∀ x ∈ rows, Flat2Ok w ksSeen x) (hm : rows.length ≤ maxLen) :
    Calls Try.prog 10 #[v] w fun e w' => ∃ ao n c M, e = .returned (.slice ao n c) ∧ n = M.length ∧ n ≤ c ∧ n ≤ 60 ∧ Sd w' (.slice ao n c) M ∧ New w w' := by
  obtain ⟨L, h1, h2, h3⟩ := sns_of_rows hr
  rw [h1, ← h2] at hs
  refine (bound_any v L w hs (fun s hs => ⟨(h3 s hs).1, (h3 s hs).2.1, (h3 s hs).2.2.1⟩) (by omega)).mono ?_
  rintro e w' ⟨v', M, rfl, hB, hk⟩
  have hl := hB.len
  rcases hB.own.2 with ⟨rfl, h0⟩ | ⟨g, cap, cur, rfl, _, _, hc, _⟩
  · exact ⟨none, 0, 0, M, rfl, h0.symm, by omega, by omega, hB.sd, hk⟩
  · exact ⟨_, _, cap, M, rfl, rfl, hc, hl, hB.sd, hk⟩
end Go.Proofs.Ytjimjkfnpklhiaa

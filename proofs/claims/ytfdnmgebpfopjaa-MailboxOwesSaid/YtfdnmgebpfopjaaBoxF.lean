/- Package mailbox: the calls of a script that are read; what a call leaves. -/
import Derived.Test.YtfdnmgebpfopjaaBoxE
set_option linter.all false
namespace Go.Proofs.Ytfdnmgebpfopjaa
open Go.RowKit

structure Mo where
  kind : Int
  fr : Int
  to : Int
  wh : Int
  ab : Int
def encQ (z : Mo) : List Value := [.int .i64 z.kind, .int .i64 z.fr, .int .i64 z.to, .int .i64 z.wh, .int .i64 z.ab]
abbrev blkQ (z : Mo) : Obj := .cells #[.int .i64 z.kind, .int .i64 z.fr, .int .i64 z.to, .int .i64 z.wh, .int .i64 z.ab] 37
theorem encQ_len (z : Mo) : (encQ z).length = 5 := rfl
theorem mos_len (L : List Mo) : (L.flatMap encQ).length = L.length * 5 := by rw [enc_length encQ_len, Nat.mul_comm]
theorem mos_of_rows : ∀ {rows : List (List Value)}, (∀ x ∈ rows, FlatOk [.int .i64, .int .i64, .int .i64, .int .i64, .int .i64] x) → ∃ L : List Mo, rows.flatten = L.flatMap encQ ∧ L.length = rows.length
  | [], _ => ⟨[], rfl, rfl⟩
  | r :: rows, h => by
    obtain ⟨L, g1, g2⟩ := mos_of_rows (rows := rows) (fun x hx => h x (by simp [hx]))
    obtain ⟨a, l0, rfl, _, h0⟩ := (h r (by simp)).int
    obtain ⟨b, l1, rfl, _, h1⟩ := h0.int
    obtain ⟨c, l2, rfl, _, h2⟩ := h1.int
    obtain ⟨d, l3, rfl, _, h3⟩ := h2.int
    obtain ⟨e, l4, rfl, _, h4⟩ := h3.int
    obtain rfl := h4.nil
    exact ⟨⟨a, b, c, d, e⟩ :: L, by simp [g1, encQ], by simp [g2]⟩
theorem Src.mos {w : World} {v : Value} {n : Nat} {L : List Mo} (h : Src w v n 5 (L.flatMap encQ)) : L.length = n ∧ ∃ ao c, v = .slice ao n c ∧ ∀ i z, L[i]? = some z → ∃ B Of, ao = some ⟨B, Of, none⟩ ∧ w.cell? ⟨B, Of + i * 5, none⟩ = some (.int .i64 z.kind) ∧ w.cell? ⟨B, Of + i * 5 + 1, none⟩ = some (.int .i64 z.fr) ∧ w.cell? ⟨B, Of + i * 5 + 2, none⟩ = some (.int .i64 z.to) ∧ w.cell? ⟨B, Of + i * 5 + 3, none⟩ = some (.int .i64 z.wh) ∧ w.cell? ⟨B, Of + i * 5 + 4, none⟩ = some (.int .i64 z.ab) := by
  obtain ⟨ao, c, rfl, _, hl, h3⟩ := h
  rw [mos_len] at hl
  refine ⟨by omega, ao, c, rfl, fun i x hx => ?_⟩
  have key : ∀ i x, L[i]? = some x → ∀ j v, j < 5 → (encQ x)[j]? = some v → ∃ ad, ao = some ad ∧ w.cell? (ad.add (i * 5 + j)) = some v := by
    intro i x hx j v hj hv
    have := enc_get encQ_len hx hj
    rw [hv] at this
    exact h3 _ _ this
  obtain ⟨⟨B, Of, sp⟩, rfl, h0⟩ := key i x hx 0 _ (by omega) rfl
  obtain ⟨x0, hx0⟩ : ∃ x0, L[0]? = some x0 := ⟨_, List.getElem?_eq_getElem (by have := lt_of_some hx; omega)⟩
  obtain ⟨ad, e, h00⟩ := key 0 x0 hx0 0 _ (by omega) rfl
  cases e
  have hsp : sp = none := by
    have := spot_of_cell h00
    simpa [Addr.add] using this
  subst hsp
  have k2 : ∀ j v, j < 5 → (encQ x)[j]? = some v → w.cell? ⟨B, Of + i * 5 + j, none⟩ = some v := by
    intro j v hj hv
    obtain ⟨ad, e, h⟩ := key i x hx j v hj hv
    cases e
    rw [addr_add, ← Nat.add_assoc] at h
    exact h
  exact ⟨B, Of, rfl, by simpa using k2 0 _ (by omega) rfl, k2 1 _ (by omega) rfl, k2 2 _ (by omega) rfl, k2 3 _ (by omega) rfl, k2 4 _ (by omega) rfl⟩
theorem op5 {w : World} {q : Nat} {z : Mo} (h : w.heap[q]? = some (blkQ z)) : w.cell? ⟨q, 0, none⟩ = some (.int .i64 z.kind) ∧ w.cell? ⟨q, 1, none⟩ = some (.int .i64 z.fr) ∧ w.cell? ⟨q, 2, none⟩ = some (.int .i64 z.to) ∧ w.cell? ⟨q, 3, none⟩ = some (.int .i64 z.wh) ∧ w.cell? ⟨q, 4, none⟩ = some (.int .i64 z.ab) := ⟨cell_blk h 0, cell_blk h 1, cell_blk h 2, cell_blk h 3, cell_blk h 4⟩

theorem inR_nat {X : List (List Ml)} {c : Int} (h : inR X c = true) : ∃ i : Nat, c = i ∧ i < X.length := by
  have h2 : 0 ≤ c ∧ c < X.length := by simpa [inR] using h
  exact ⟨c.toNat, by omega, by omega⟩
/-- What Send leaves. -/
theorem sendE_cases {X X' : List (List Ml)} {f t kd ab er : Int} (h : sendE X f t kd ab = (er, X')) :
    ((er = 1 ∨ er = 170 ∨ er = 2) ∧ X' = X) ∨ (er = 0 ∧ ∃ i j : Nat, f = i ∧ t = j ∧ i < X.length ∧ j < X.length ∧ i ≠ j ∧ ∃ L, X[j]? = some L ∧ L.length < 64 ∧ X' = X.set j (L ++ [⟨f, kd, ab⟩])) := by
  unfold sendE at h
  split at h
  · simp only [Prod.mk.injEq] at h
    exact .inl ⟨.inl h.1.symm, h.2.symm⟩
  · rename_i h1
    split at h
    · simp only [Prod.mk.injEq] at h
      exact .inl ⟨.inr (.inl h.1.symm), h.2.symm⟩
    · rename_i h2
      have hf : inR X f = true := by
        cases hh : inR X f with
        | true => rfl
        | false => exact (h1 (.inl hh)).elim
      have ht : inR X t = true := by
        cases hh : inR X t with
        | true => rfl
        | false => exact (h1 (.inr hh)).elim
      obtain ⟨i, rfl, hi⟩ := inR_nat hf
      obtain ⟨j, rfl, hj⟩ := inR_nat ht
      unfold sendB at h
      split at h
      · simp only [Prod.mk.injEq] at h
        exact .inl ⟨.inr (.inr h.1.symm), h.2.symm⟩
      · rename_i h3
        simp only [Prod.mk.injEq] at h
        obtain ⟨L, hL⟩ : ∃ L, X[j]? = some L := ⟨_, List.getElem?_eq_getElem hj⟩
        refine .inr ⟨h.1.symm, i, j, rfl, rfl, hi, hj, by omega, L, hL, ?_, ?_⟩
        · simp only [Int.toNat_natCast, List.any_cons, List.any_nil, Bool.or_false] at h3
          unfold fullB at h3
          rw [getD_at hL] at h3
          simpa using h3
        · rw [← h.2]
          simp only [Int.toNat_natCast]
          unfold addB
          simp only [List.foldl_cons, List.foldl_nil]
          rw [getD_at hL]
/-- How many lie in all boxes. -/
def tot (X : List (List Ml)) : Nat := (X.map List.length).sum
theorem sum_set : ∀ {X : List Nat} {j a b : Nat}, X[j]? = some a → (X.set j b).sum + a = X.sum + b
  | x :: X, 0, a, b, h => by
    simp only [List.getElem?_cons_zero, Option.some.injEq] at h
    subst h
    simp only [List.set_cons_zero, List.sum_cons]
    omega
  | x :: X, j + 1, a, b, h => by
    have := sum_set (X := X) (j := j) (a := a) (b := b) (by simpa using h)
    simp only [List.set_cons_succ, List.sum_cons]
    omega
theorem tot_set {X : List (List Ml)} {j : Nat} {L L' : List Ml} (h : X[j]? = some L) : tot (X.set j L') + L.length = tot X + L'.length := by
  unfold tot
  rw [List.map_set]
  exact sum_set (by rw [List.getElem?_map, h]; rfl)
theorem owed_set {X : List (List Ml)} {j : Nat} {L L' : List Ml} (c : Int) (h : X[j]? = some L) : owedE (X.set j L') c + cntB L c = owedE X c + cntB L' c := by
  unfold owedE
  rw [List.map_set]
  exact sum_set (by rw [List.getElem?_map, h]; rfl)
theorem set_mem {X : List (List Ml)} {j : Nat} {L' M : List Ml} {q : Nat} (h : ∀ L ∈ X, L.length ≤ q) (hq : L'.length ≤ q) (hM : M ∈ X.set j L') : M.length ≤ q := by
  rcases List.mem_or_eq_of_mem_set hM with h1 | h1
  · exact h M h1
  · rw [h1]; exact hq
theorem takeE_at {X : List (List Ml)} {j : Nat} {x : Ml} {l : List Ml} (h : X[j]? = some (x :: l)) : takeE X j = ((x, true), X.set j l) := by
  have hj := lt_of_some h
  unfold takeE boxE
  rw [show inR X (j : Int) = true by simp [inR]; omega, if_pos rfl, Int.toNat_natCast, getD_at h]
theorem boxE_at {X : List (List Ml)} {j : Nat} {L : List Ml} (h : X[j]? = some L) : boxE X j = L := by
  have hj := lt_of_some h
  unfold boxE
  rw [show inR X (j : Int) = true by simp [inR]; omega, if_pos rfl, Int.toNat_natCast, getD_at h]
/-- What Take leaves. -/
theorem takeE_cases {X X' : List (List Ml)} {c : Int} {m : Ml} {is : Bool} (h : takeE X c = ((m, is), X')) : (m = ⟨0, 0, 0⟩ ∧ is = false ∧ X' = X) ∨ (is = true ∧ ∃ (j : Nat) (l : List Ml), c = j ∧ X[j]? = some (m :: l) ∧ X' = X.set j l) := by
  unfold takeE at h
  cases hb : boxE X c with
  | nil =>
    rw [hb] at h
    simp only [Prod.mk.injEq] at h
    exact .inl ⟨h.1.1.symm, h.1.2.symm, h.2.symm⟩
  | cons x l =>
    rw [hb] at h
    simp only [Prod.mk.injEq] at h
    obtain ⟨⟨rfl, rfl⟩, rfl⟩ := h
    unfold boxE at hb
    cases hr : inR X c with
    | false => rw [hr] at hb; simp at hb
    | true =>
      rw [hr, if_pos rfl] at hb
      obtain ⟨j, rfl, hj⟩ := inR_nat hr
      refine .inr ⟨rfl, j, l, rfl, ?_, by rw [Int.toNat_natCast]⟩
      rw [Int.toNat_natCast, List.getD_eq_getElem?_getD, List.getElem?_eq_getElem hj] at hb
      rw [List.getElem?_eq_getElem hj]
      simpa using hb
end Go.Proofs.Ytfdnmgebpfopjaa

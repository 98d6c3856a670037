/- Package endpoint: the calls of a script that are read; those that wait, each once. -/
import Derived.Test.YtanongcaokldmaaEndG
import Derived.Test.YtanongcaokldmaaArgs
set_option linter.all false
namespace Go.Proofs.Ytanongcaokldmaa
open Go.RowKit

structure Opr where
  kind : Int
  x : On
  wa : Bool
def encP (o : Opr) : List Value := [.int .i64 o.kind, .int .i64 o.x.who, .int .i64 o.x.la, .int .u64 o.x.w0, .int .u64 o.x.w1, .int .u64 o.x.w2, .int .u64 o.x.w3, .int .u64 o.x.bg, .bool o.x.ca, .bool o.wa]
theorem encP_len (o : Opr) : (encP o).length = 10 := rfl
theorem encP_one (o : Opr) : ∀ u ∈ encP o, u.oneCell' = true := by
  intro u hu
  simp only [encP, List.mem_cons, List.not_mem_nil, or_false] at hu
  rcases hu with rfl | rfl | rfl | rfl | rfl | rfl | rfl | rfl | rfl | rfl <;> rfl
theorem oprs_len (L : List Opr) : (L.flatMap encP).length = L.length * 10 := by rw [enc_length encP_len, Nat.mul_comm]
theorem ops_of_rows : ∀ {rows : List (List Value)}, (∀ x ∈ rows, FlatOk [.int .i64, .int .i64, .int .i64, .int .u64, .int .u64, .int .u64, .int .u64, .int .u64, .bool, .bool] x) → ∃ L : List Opr, rows.flatten = L.flatMap encP ∧ L.length = rows.length ∧ ∀ o ∈ L, (Lit.int .u64 o.x.bg).wf = true
  | [], _ => ⟨[], rfl, rfl, by simp⟩
  | r :: rows, h => by
    obtain ⟨L, g1, g2, g3⟩ := ops_of_rows (rows := rows) (fun x hx => h x (by simp [hx]))
    obtain ⟨a, l0, rfl, _, h0⟩ := (h r (by simp)).int
    obtain ⟨b, l1, rfl, _, h1⟩ := h0.int
    obtain ⟨c, l2, rfl, _, h2⟩ := h1.int
    obtain ⟨d, l3, rfl, _, h3⟩ := h2.int
    obtain ⟨e, l4, rfl, _, h4⟩ := h3.int
    obtain ⟨f, l5, rfl, _, h5⟩ := h4.int
    obtain ⟨g, l6, rfl, _, h6⟩ := h5.int
    obtain ⟨m, l7, rfl, wb, h7⟩ := h6.int
    obtain ⟨n, l8, rfl, h8⟩ := h7.bool
    obtain ⟨o, l9, rfl, h9⟩ := h8.bool
    obtain rfl := h9.nil
    refine ⟨⟨a, ⟨b, c, d, e, f, g, m, n⟩, o⟩ :: L, by simp [g1, encP], by simp [g2], fun z hz => ?_⟩
    rcases List.mem_cons.1 hz with rfl | hz
    · exact wb
    · exact g3 z hz
theorem msg_of_flat {cs : List Value} (h : FlatOk [.int .i64, .int .u64, .int .u64, .int .u64, .int .u64, .int .u64, .bool] cs) (who : Int) : ∃ x : On, x.who = who ∧ Value.agg cs.toArray = msgV x := by
  obtain ⟨c, l2, rfl, _, h2⟩ := h.int
  obtain ⟨d, l3, rfl, _, h3⟩ := h2.int
  obtain ⟨e, l4, rfl, _, h4⟩ := h3.int
  obtain ⟨f, l5, rfl, _, h5⟩ := h4.int
  obtain ⟨g, l6, rfl, _, h6⟩ := h5.int
  obtain ⟨m, l7, rfl, _, h7⟩ := h6.int
  obtain ⟨n, l8, rfl, h8⟩ := h7.bool
  obtain rfl := h8.nil
  exact ⟨⟨who, c, d, e, f, g, m, n⟩, rfl, rfl⟩
/-- A slice of calls: its own block and place, if it has any. -/
theorem Src.ops {w : World} {v : Value} {n : Nat} {L : List Opr} (h : Src w v n 10 (L.flatMap encP)) : L.length = n ∧ ∃ ao c, v = .slice ao n c ∧ ∀ i z, L[i]? = some z → ∃ B Of, ao = some ⟨B, Of, none⟩ ∧
    w.cell? ⟨B, Of + i * 10, none⟩ = some (.int .i64 z.kind) ∧ w.cell? ⟨B, Of + i * 10 + 1, none⟩ = some (.int .i64 z.x.who) ∧ w.cell? ⟨B, Of + i * 10 + 2, none⟩ = some (.int .i64 z.x.la) ∧ w.cell? ⟨B, Of + i * 10 + 3, none⟩ = some (.int .u64 z.x.w0) ∧ w.cell? ⟨B, Of + i * 10 + 4, none⟩ = some (.int .u64 z.x.w1) ∧ w.cell? ⟨B, Of + i * 10 + 5, none⟩ = some (.int .u64 z.x.w2) ∧ w.cell? ⟨B, Of + i * 10 + 6, none⟩ = some (.int .u64 z.x.w3) ∧ w.cell? ⟨B, Of + i * 10 + 7, none⟩ = some (.int .u64 z.x.bg) ∧ w.cell? ⟨B, Of + i * 10 + 8, none⟩ = some (.bool z.x.ca) ∧ w.cell? ⟨B, Of + i * 10 + 9, none⟩ = some (.bool z.wa) := by
  obtain ⟨ao, c, rfl, _, hl, h3⟩ := h
  rw [oprs_len] at hl
  refine ⟨by omega, ao, c, rfl, fun i x hx => ?_⟩
  have key : ∀ i x, L[i]? = some x → ∀ j v, j < 10 → (encP x)[j]? = some v → ∃ ad, ao = some ad ∧ w.cell? (ad.add (i * 10 + j)) = some v := by
    intro i x hx j v hj hv
    have := enc_get encP_len hx hj
    rw [hv] at this
    exact h3 _ _ this
  obtain ⟨⟨B, Of, sp⟩, rfl, h0⟩ := key i x hx 0 _ (by omega) rfl
  obtain ⟨x0, hx0⟩ : ∃ x0, L[0]? = some x0 := ⟨_, List.getElem?_eq_getElem (by have := lt_of_some hx; omega)⟩
  obtain ⟨ad, e, h00⟩ := key 0 x0 hx0 0 _ (by omega) rfl
  cases e
  have hsp : sp = none := by
    have := spot_of_cell h00
    simpa [Addr.add] using this
  subst hsp
  have k2 : ∀ j v, j < 10 → (encP x)[j]? = some v → w.cell? ⟨B, Of + i * 10 + j, none⟩ = some v := by
    intro j v hj hv
    obtain ⟨ad, e, h⟩ := key i x hx j v hj hv
    cases e
    rw [addr_add, ← Nat.add_assoc] at h
    exact h
  exact ⟨B, Of, rfl, by simpa using k2 0 _ (by omega) rfl, k2 1 _ (by omega) rfl, k2 2 _ (by omega) rfl, k2 3 _ (by omega) rfl, k2 4 _ (by omega) rfl, k2 5 _ (by omega) rfl, k2 6 _ (by omega) rfl, k2 7 _ (by omega) rfl, k2 8 _ (by omega) rfl, k2 9 _ (by omega) rfl⟩

def lineE (L : List Int) (who : Int) : List Int := if who ∈ L then L else L ++ [who]
def linesE (xs : List Int) : List Int := xs.foldl lineE []
theorem linesE_take {k : Nat} {L : List Int} {x : Int} (h : L[k]? = some x) : linesE (L.take (k + 1)) = lineE (linesE (L.take k)) x := by
  rw [List.take_add_one, h]; simp [linesE]
theorem lineE_length (L : List Int) (x : Int) : (lineE L x).length ≤ L.length + 1 := by
  unfold lineE; split <;> simp
theorem linesE_length : ∀ k (L : List Int), (linesE (L.take k)).length ≤ k
  | 0, L => by simp [linesE]
  | k + 1, L => by
    cases h : L[k]? with
    | none =>
      rw [List.take_of_length_le (by rw [List.getElem?_eq_none_iff] at h; omega)]
      have := linesE_length k L
      rw [List.take_of_length_le (by rw [List.getElem?_eq_none_iff] at h; omega)] at this
      omega
    | some x =>
      rw [linesE_take h]
      have := linesE_length k L
      have := lineE_length (linesE (L.take k)) x
      omega
theorem mem_lineE {L : List Int} {x y : Int} : y ∈ lineE L x ↔ y ∈ L ∨ y = x := by
  unfold lineE
  split
  · rename_i h
    constructor
    · exact .inl
    · rintro (h1 | rfl)
      · exact h1
      · exact h
  · simp

/-- Those that wait to receive. -/
abbrev RO (x : Int) : On := ⟨x, 0, 0, 0, 0, 0, 0, false⟩
theorem any_RO (F : List Int) (x : Int) : (F.map RO).any (fun y => y.who == x) = decide (x ∈ F) := by
  induction F with
  | nil => simp
  | cons a F ih =>
    rw [List.map_cons, List.any_cons, ih]
    by_cases h : a = x
    · simp [h]
    · have h1 : ((RO a).who == x) = false := by simpa using h
      have h2 : ¬ x = a := fun e => h e.symm
      rw [h1]
      simp [h2]
theorem who_RO (F : List Int) : (F.map RO).map (fun x => x.who) = F := by
  rw [List.map_map]
  exact List.map_id'' (fun _ => rfl) F
/-- One more waits to receive. -/
theorem recv_in {O : Nat → Prop} (b : Nat) (F : List Int) (x : Int) (w : World) (h : Ep O w b false (F.map RO)) (hL : F.length ≤ 1000) :
    Calls Try.prog 13 #[.pointer (some ⟨b, 0, none⟩), .int .i64 x, .bool true] w fun e w' => ∃ y, e = .returned y ∧ Ep (fun k => O k ∨ w.heap.size ≤ k) w' b false ((lineE F x).map RO) ∧ Kept O w w' := by
  by_cases hx : x ∈ F
  · refine (recv_there b false true (F.map RO) (RO x) w h (by simpa using hL) (by rw [any_RO]; simpa using hx)).mono ?_
    rintro e w1 ⟨rfl, h1⟩
    exact ⟨_, rfl, by rw [lineE, if_pos hx]; exact (h.same h1).mono (fun _ h => .inl h), h1.mono (fun _ _ h => h.elim)⟩
  · refine (recv_line b false true (F.map RO) (RO x) w h (by simpa using hL) (by rw [any_RO]; simpa using hx) (.inr (by decide)) rfl).mono ?_
    rintro e w1 ⟨rfl, h1, h2⟩
    exact ⟨_, rfl, by rw [lineE, if_neg hx, List.map_append]; exact h1, h2⟩
/-- Nobody waits anew. -/
theorem recv_out {O : Nat → Prop} (b : Nat) (F : List Int) (x er : Int) (w : World) (h : Ep O w b false (F.map RO)) (hL : F.length ≤ 1000) (hr : er = if x ∈ F then 110 else 0) :
    Calls Try.prog 13 #[.pointer (some ⟨b, 0, none⟩), .int .i64 x, .bool false] w fun e w' => e = .returned (.tuple #[metV false 0 0 on0, .int .i64 er]) ∧ New w w' := by
  by_cases hx : x ∈ F
  · rw [if_pos hx] at hr
    subst hr
    exact recv_there b false false (F.map RO) (RO x) w h (by simpa using hL) (by rw [any_RO]; simpa using hx)
  · rw [if_neg hx] at hr
    subst hr
    exact recv_no b false false (F.map RO) (RO x) w h (by simpa using hL) (by rw [any_RO]; simpa using hx) (.inr (by decide)) rfl
/-- Those that wait to receive, told. -/
theorem waits_R {O : Nat → Prop} (b : Nat) (F : List Int) (w : World) (h : Ep O w b false (F.map RO)) (hL : F.length ≤ 1000) :
    Calls Try.prog 11 #[.pointer (some ⟨b, 0, none⟩)] w fun e w' => ∃ v, e = .returned (.tuple #[v, .bool false]) ∧ w'.ownsRow w.heap.size 3 1 v F.length (vI F) ∧ New w w' := by
  refine (waits_any b false false (F.map RO) w h (by simpa using hL) rfl).mono ?_
  rintro e w1 ⟨v, rfl, h1, h2⟩
  rw [who_RO, List.length_map] at h1
  exact ⟨v, rfl, h1, h2⟩
theorem Src.tailI {w : World} {ao : Option Addr} {n cap m : Nat} {F : List Int} (h : Src w (.slice ao n cap) n 1 (vI F)) (hm : m ≤ n) : Src w (.slice (ao.map (fun x => x.add m)) (n - m) (cap - m)) (n - m) 1 (vI (F.drop m)) := by
  obtain ⟨ao', c', he, hc, hl, h3⟩ := h
  simp only [Value.slice.injEq, true_and] at he
  obtain ⟨rfl, rfl⟩ := he
  refine ⟨_, _, rfl, fun h => ?_, by simp [vI] at hl ⊢; omega, fun j u hj => ?_⟩
  · have : ao = none := by simpa using h
    rw [hc this]; omega
  · obtain ⟨ad, e, h4⟩ := h3 (m + j) u (by simpa [vI] using hj)
    subst e
    exact ⟨_, rfl, by rw [Deep.add_add]; exact h4⟩
theorem own_cap {w : World} {base : Nat} {v : Value} {n cap : Nat} {ao : Option Addr} {e : TypeId} {s : Nat} {xs : List Value} (h : w.ownsRow base e s v n xs) (hv : v = .slice ao n cap) : n ≤ cap := by
  rcases h.2 with ⟨h1, h2⟩ | ⟨g, cap', cur, h1, _, _, h2, _⟩
  · omega
  · rw [hv] at h1; cases h1; exact h2
end Go.Proofs.Ytanongcaokldmaa

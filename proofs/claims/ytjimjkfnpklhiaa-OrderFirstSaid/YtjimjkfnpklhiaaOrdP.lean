/- Package order: what the reference looks for, plain: the last one ahead of a core's and a kind; what stands in line is what was seen. -/
import Derived.Test.YtjimjkfnpklhiaaOrdN
set_option linter.all false
namespace Go.Proofs.Ytjimjkfnpklhiaa
open Go.RowKit Go.Maps

/-- The last one ahead of the kth, of a core and a kind; -1: there is none. -/
def lastF (L : List Sn) (c κ : Int) : Nat → Int
  | 0 => -1
  | i + 1 => match L[i]? with
    | some s => if s.c = c ∧ s.k = κ then (i : Int) else lastF L c κ i
    | none => lastF L c κ i
theorem lastF_hit {L : List Sn} {c κ : Int} {i : Nat} {s : Sn} (h : L[i]? = some s) (h1 : s.c = c) (h2 : s.k = κ) : lastF L c κ (i + 1) = i := by
  rw [lastF, h]; simp only []; rw [if_pos ⟨h1, h2⟩]
theorem lastF_miss {L : List Sn} {c κ : Int} {i : Nat} {s : Sn} (h : L[i]? = some s) (h1 : ¬ (s.c = c ∧ s.k = κ)) : lastF L c κ (i + 1) = lastF L c κ i := by
  rw [lastF, h]; simp only []; rw [if_neg h1]
theorem lastF_lt (L : List Sn) (c κ : Int) : ∀ k, lastF L c κ k < k ∧ -1 ≤ lastF L c κ k
  | 0 => ⟨by simp [lastF], by simp [lastF]⟩
  | k + 1 => by
    have ih := lastF_lt L c κ k
    rw [lastF]
    split
    · split
      · constructor <;> omega
      · constructor <;> omega
    · constructor <;> omega
/-- How many left behind the eth, ahead of the kth. -/
def lfN (L : List Sn) (e : Int) : Nat → Nat
  | 0 => 0
  | k + 1 => lfN L e k + (match L[k]? with | some s => if e < (k : Int) ∧ s.k = 2 then 1 else 0 | none => 0)
theorem lfN_succ {L : List Sn} {e : Int} {k : Nat} {s : Sn} (h : L[k]? = some s) : lfN L e (k + 1) = lfN L e k + (if e < (k : Int) ∧ s.k = 2 then 1 else 0) := by rw [lfN, h]
theorem lfN_zero (L : List Sn) (e : Int) : ∀ k : Nat, (k : Int) ≤ e + 1 → lfN L e k = 0
  | 0, _ => rfl
  | k + 1, h => by
    rw [lfN, lfN_zero L e k (by omega)]
    split
    · rw [if_neg (by omega)]
    · rfl
structure Hist (L : List Sn) (k : Nat) (E : List En) : Prop where
  ent : ∀ x ∈ E, ∃ (e : Nat) (z : Sn), lastF L x.c 0 k = (e : Int) ∧ e < k ∧ L[e]? = some z ∧ z.n = x.n ∧ x.wt = lfN L e k ∧
    (x.did = false → lastF L x.c 1 k < e) ∧ (x.did = true → ∃ (d : Nat) (z' : Sn), lastF L x.c 1 k = (d : Int) ∧ (e : Int) < d ∧ L[d]? = some z' ∧ z'.t = x.t)
theorem Hist.start (L : List Sn) : Hist L 0 [] := ⟨fun x hx => by cases hx⟩
/-- An entry that the kth does not speak of. -/
theorem Hist.keep {L : List Sn} {k : Nat} {s : Sn} {x : En} (hs : L[k]? = some s) (hc : ¬ (s.c = x.c ∧ s.k = 0)) (hc1 : ¬ (s.c = x.c ∧ s.k = 1))
    (h : ∃ (e : Nat) (z : Sn), lastF L x.c 0 k = (e : Int) ∧ e < k ∧ L[e]? = some z ∧ z.n = x.n ∧ x.wt = lfN L e k ∧
      (x.did = false → lastF L x.c 1 k < e) ∧ (x.did = true → ∃ (d : Nat) (z' : Sn), lastF L x.c 1 k = (d : Int) ∧ (e : Int) < d ∧ L[d]? = some z' ∧ z'.t = x.t)) :
    ∃ (e : Nat) (z : Sn), lastF L x.c 0 (k + 1) = (e : Int) ∧ e < k + 1 ∧ L[e]? = some z ∧ z.n = x.n ∧ x.wt + (if s.k = 2 then 1 else 0) = lfN L e (k + 1) ∧
      (x.did = false → lastF L x.c 1 (k + 1) < e) ∧ (x.did = true → ∃ (d : Nat) (z' : Sn), lastF L x.c 1 (k + 1) = (d : Int) ∧ (e : Int) < d ∧ L[d]? = some z' ∧ z'.t = x.t) := by
  obtain ⟨e, z, h1, h2, h3, h4, h5, h6, h7⟩ := h
  refine ⟨e, z, by rw [lastF_miss hs hc]; exact h1, by omega, h3, h4, ?_, by rw [lastF_miss hs hc1]; exact h6, by rw [lastF_miss hs hc1]; exact h7⟩
  rw [lfN_succ hs, h5]
  congr 1
  by_cases hk : s.k = 2
  · rw [if_pos hk, if_pos ⟨by omega, hk⟩]
  · rw [if_neg hk, if_neg (fun h => hk h.2)]
theorem Hist.step {n : Nat} {L : List Sn} {k : Nat} {E E' : List En} {m m' : Nat} {s : Sn} (h : Hist L k E) (hnd : (coreL E).Nodup) (hs : L[k]? = some s) (hm : mayE E m s = (true, E', m')) : Hist L (k + 1) E' := by
  by_cases k0 : s.k = 0
  · unfold mayE at hm
    rw [if_pos k0] at hm
    split at hm
    · cases hm
    · rename_i hni
      injection hm with _ hm; injection hm with h1 h2; subst h1; subst h2
      refine ⟨fun x hx => ?_⟩
      rcases List.mem_append.1 hx with hx | hx
      · have hne : s.c ≠ x.c := fun e => hni (by rw [e]; exact List.mem_map.2 ⟨x, hx, rfl⟩)
        have := Hist.keep hs (fun h => hne h.1) (fun h => hne h.1) (h.ent x hx)
        rw [if_neg (by omega)] at this
        exact this
      · obtain rfl := List.mem_singleton.1 hx
        refine ⟨k, s, lastF_hit hs rfl k0, by omega, hs, rfl, ?_, fun _ => ?_, fun h => by cases h⟩
        · rw [lfN_zero _ _ _ (by omega)]
        · rw [lastF_miss hs (fun h => by omega)]; exact (lastF_lt _ _ _ _).1
  · by_cases k1 : s.k = 1
    · cases E with
      | nil => rw [mayE1_no k1 (fun x hx => by cases hx)] at hm; cases hm
      | cons x r =>
        by_cases hx : x.c = s.c ∧ x.n = s.n ∧ x.did = false
        · rw [mayE1_yes k1 hx.1 hx.2.1 hx.2.2] at hm
          injection hm with _ hm; injection hm with h1 h2; subst h1; subst h2
          have hnd2 : x.c ∉ coreL r ∧ (coreL r).Nodup := List.nodup_cons.1 hnd
          refine ⟨fun y hy => ?_⟩
          rcases List.mem_cons.1 hy with hy | hy
          · subst hy
            obtain ⟨e, z, h1, h2, h3, h4, h5, h6, h7⟩ := h.ent x (by simp)
            refine ⟨e, z, ?_, by omega, h3, h4, ?_, (fun h => by cases h), fun _ => ⟨k, s, lastF_hit hs hx.1.symm k1, by omega, hs, rfl⟩⟩
            · show lastF L x.c 0 (k + 1) = _
              rw [lastF_miss hs (fun h => by omega)]; exact h1
            · show x.wt = _
              rw [lfN_succ hs, if_neg (fun h => by omega), Nat.add_zero]; exact h5
          · have hne : s.c ≠ y.c := fun e => hnd2.1 (by rw [hx.1, e]; exact List.mem_map.2 ⟨y, hy, rfl⟩)
            have := Hist.keep hs (fun h => hne h.1) (fun h => hne h.1) (h.ent y (by simp [hy]))
            rw [if_neg (by omega)] at this
            exact this
        · rw [mayE1_no k1 (fun y hy => by cases hy; exact hx)] at hm; cases hm
    · by_cases k2 : s.k = 2
      · cases E with
        | nil => rw [mayE2_no k2 (fun x hx => by cases hx)] at hm; cases hm
        | cons x r =>
          by_cases hx : x.c = s.c ∧ x.n = s.n ∧ x.did = true ∧ x.t = s.t
          · rw [mayE2_yes k2 hx.1 hx.2.1 hx.2.2.1 hx.2.2.2] at hm
            injection hm with _ hm; injection hm with h1 h2; subst h1; subst h2
            refine ⟨fun y hy => ?_⟩
            obtain ⟨z, hz, rfl⟩ := List.mem_map.1 hy
            have := Hist.keep hs (fun h => by omega) (fun h => by omega) (h.ent z (by simp [hz]))
            rw [if_pos k2] at this
            exact this
          · rw [mayE2_no k2 (fun y hy => by cases hy; exact hx)] at hm; cases hm
      · have hE : E' = E := by
          by_cases k3 : s.k = 3
          · rw [mayE3 k3] at hm; injection hm with _ hm; injection hm with h1 h2; exact h1.symm
          · by_cases k4 : s.k = 4 ∨ s.k = 5
            · rw [mayE4 k4] at hm; injection hm with _ hm; injection hm with h1 h2; exact h1.symm
            · rw [mayE6 k0 k1 k2 k3 (by omega) (by omega)] at hm; cases hm
        subst hE
        refine ⟨fun x hx => ?_⟩
        have := Hist.keep hs (fun h => k0 h.2) (fun h => k1 h.2) (h.ent x hx)
        rw [if_neg k2] at this
        exact this
/-- What may not be leaves all as it is. -/
theorem mayE_false {E E' : List En} {m m' : Nat} {s : Sn} (hm : mayE E m s = (false, E', m')) : E' = E ∧ m' = m := by
  by_cases k0 : s.k = 0
  · unfold mayE at hm
    rw [if_pos k0] at hm
    split at hm
    · injection hm with _ hm; injection hm with h1 h2; exact ⟨h1.symm, h2.symm⟩
    · cases hm
  · by_cases k1 : s.k = 1
    · cases E with
      | nil => rw [mayE1_no k1 (fun x hx => by cases hx)] at hm; injection hm with _ hm; injection hm with h1 h2; exact ⟨h1.symm, h2.symm⟩
      | cons x r =>
        by_cases hx : x.c = s.c ∧ x.n = s.n ∧ x.did = false
        · rw [mayE1_yes k1 hx.1 hx.2.1 hx.2.2] at hm; cases hm
        · rw [mayE1_no k1 (fun y hy => by cases hy; exact hx)] at hm; injection hm with _ hm; injection hm with h1 h2; exact ⟨h1.symm, h2.symm⟩
    · by_cases k2 : s.k = 2
      · cases E with
        | nil => rw [mayE2_no k2 (fun x hx => by cases hx)] at hm; injection hm with _ hm; injection hm with h1 h2; exact ⟨h1.symm, h2.symm⟩
        | cons x r =>
          by_cases hx : x.c = s.c ∧ x.n = s.n ∧ x.did = true ∧ x.t = s.t
          · rw [mayE2_yes k2 hx.1 hx.2.1 hx.2.2.1 hx.2.2.2] at hm; cases hm
          · rw [mayE2_no k2 (fun y hy => by cases hy; exact hx)] at hm; injection hm with _ hm; injection hm with h1 h2; exact ⟨h1.symm, h2.symm⟩
      · by_cases k3 : s.k = 3
        · rw [mayE3 k3] at hm; injection hm with _ hm; injection hm with h1 h2; exact ⟨h1.symm, h2.symm⟩
        · by_cases k4 : s.k = 4 ∨ s.k = 5
          · rw [mayE4 k4] at hm; injection hm with _ hm; injection hm with h1 h2; exact ⟨h1.symm, h2.symm⟩
          · rw [mayE6 k0 k1 k2 k3 (by omega) (by omega)] at hm; injection hm with _ hm; injection hm with h1 h2; exact ⟨h1.symm, h2.symm⟩
/-- All ahead of the kth may be; who stands in line then, and how long one waited. -/
structure Ok (n : Nat) (L : List Sn) (k : Nat) (E : List En) (m : Nat) : Prop where
  go : goE n [] 0 (L.take k) 0 = (-1, E, m)
  inv : ∃ dn lf, Inv n E m dn lf
  hist : Hist L k E
theorem Ok.start {n : Nat} (h : 1 ≤ n) (L : List Sn) : Ok n L 0 [] 0 := ⟨by rw [List.take_zero]; rfl, ⟨0, 0, Inv.start h⟩, Hist.start L⟩
theorem take_snoc2 {L : List Sn} {k : Nat} {s : Sn} (hs : L[k]? = some s) : L.take (k + 1) = L.take k ++ [s] := by rw [List.take_succ, hs]; rfl
theorem Ok.step {n : Nat} {L : List Sn} {k : Nat} {E E' : List En} {m m' : Nat} {s : Sn} (h : Ok n L k E m) (hs : L[k]? = some s) (hc : ¬ (s.c < 0 ∨ (n : Int) ≤ s.c)) (hm : mayE E m s = (true, E', m')) : Ok n L (k + 1) E' m' := by
  obtain ⟨dn, lf, hi⟩ := h.inv
  refine ⟨?_, ⟨_, _, hi.step hc hm⟩, h.hist.step (n := n) hi.nodup hs hm⟩
  rw [take_snoc2 hs, goE_append h.go, goE_yes hc hm]; rfl
/-- The kth may not be. -/
theorem Ok.stop {n : Nat} {L : List Sn} {k : Nat} {E : List En} {m : Nat} {s : Sn} (h : Ok n L k E m) (hs : L[k]? = some s) (hm : (s.c < 0 ∨ (n : Int) ≤ s.c) ∨ (mayE E m s).1 = false) : goE n [] 0 L 0 = ((k : Int), E, m) := by
  have hl : (L.take k).length = k := by rw [List.length_take]; have := lt_of_some hs; omega
  have e : L = L.take k ++ s :: L.drop (k + 1) := by
    have := lt_of_some hs
    obtain ⟨_, rfl⟩ := List.getElem?_eq_some_iff.1 hs
    simp
  have h2 : goE n E m (s :: L.drop (k + 1)) (0 + (L.take k).length) = ((k : Int), E, m) := by
    rw [hl, Nat.zero_add]
    by_cases hc : s.c < 0 ∨ (n : Int) ≤ s.c
    · rw [goE_out hc]
    · have hm' := hm.resolve_left hc
      obtain ⟨ok, E', m', he⟩ : ∃ ok E' m', mayE E m s = (ok, E', m') := ⟨_, _, _, rfl⟩
      rw [he] at hm'
      simp only at hm'
      subst hm'
      obtain ⟨rfl, rfl⟩ := mayE_false he
      rw [goE_no hc he]
  rw [e, goE_append h.go]
  exact h2
theorem Ok.whole {n : Nat} {L : List Sn} {E : List En} {m : Nat} (h : Ok n L L.length E m) : goE n [] 0 L 0 = (-1, E, m) := by
  have := h.go
  rwa [List.take_length] at this
/-- How it ends. -/
theorem Ok.ends {n : Nat} (h1 : 1 ≤ n) (L : List Sn) : ∃ (k : Nat) (E : List En) (m : Nat), k ≤ L.length ∧ Ok n L k E m ∧ ((k = L.length ∧ goE n [] 0 L 0 = (-1, E, m)) ∨ ∃ s, L[k]? = some s ∧ ((s.c < 0 ∨ (n : Int) ≤ s.c) ∨ (mayE E m s).1 = false) ∧ goE n [] 0 L 0 = ((k : Int), E, m)) := by
  have key : ∀ d k E m, k + d = L.length → Ok n L k E m → ∃ (k : Nat) (E : List En) (m : Nat), k ≤ L.length ∧ Ok n L k E m ∧ ((k = L.length ∧ goE n [] 0 L 0 = (-1, E, m)) ∨ ∃ s, L[k]? = some s ∧ ((s.c < 0 ∨ (n : Int) ≤ s.c) ∨ (mayE E m s).1 = false) ∧ goE n [] 0 L 0 = ((k : Int), E, m)) := by
    intro d
    induction d with
    | zero =>
      intro k E m hk h
      have hk' : k = L.length := by omega
      subst hk'
      exact ⟨_, E, m, Nat.le_refl _, h, .inl ⟨rfl, h.whole⟩⟩
    | succ d ih =>
      intro k E m hk h
      obtain ⟨s, hs⟩ : ∃ s, L[k]? = some s := ⟨_, List.getElem?_eq_getElem (by omega)⟩
      by_cases hc : s.c < 0 ∨ (n : Int) ≤ s.c
      · exact ⟨k, E, m, by omega, h, .inr ⟨s, hs, .inl hc, h.stop hs (.inl hc)⟩⟩
      · obtain ⟨ok, E', m', he⟩ : ∃ ok E' m', mayE E m s = (ok, E', m') := ⟨_, _, _, rfl⟩
        cases ok with
        | false => exact ⟨k, E, m, by omega, h, .inr ⟨s, hs, .inr (by rw [he]), h.stop hs (.inr (by rw [he]))⟩⟩
        | true => exact ih (k + 1) E' m' (by omega) (h.step hs hc he)
  exact key L.length 0 [] 0 (by omega) (Ok.start h1 L)
/-- The line, one thing further. -/
theorem core_step {E E' : List En} {m m' : Nat} {s : Sn} (hm : mayE E m s = (true, E', m')) :
    (s.k = 0 → coreL E' = coreL E ++ [s.c]) ∧ (s.k = 2 → ∃ a, coreL E = a :: coreL E') ∧ (s.k ≠ 0 → s.k ≠ 2 → coreL E' = coreL E) := by
  refine ⟨fun k0 => ?_, fun k2 => ?_, fun k0 k2 => ?_⟩
  · unfold mayE at hm
    rw [if_pos k0] at hm
    split at hm
    · cases hm
    · injection hm with _ hm; injection hm with h1 h2; rw [← h1, coreL, List.map_append]; rfl
  · cases E with
    | nil => rw [mayE2_no k2 (fun x hx => by cases hx)] at hm; cases hm
    | cons x r =>
      by_cases hx : x.c = s.c ∧ x.n = s.n ∧ x.did = true ∧ x.t = s.t
      · rw [mayE2_yes k2 hx.1 hx.2.1 hx.2.2.1 hx.2.2.2] at hm
        injection hm with _ hm; injection hm with h1 h2
        refine ⟨x.c, ?_⟩
        rw [← h1, coreL, coreL, List.map_map]; rfl
      · rw [mayE2_no k2 (fun y hy => by cases hy; exact hx)] at hm; cases hm
  · by_cases k1 : s.k = 1
    · cases E with
      | nil => rw [mayE1_no k1 (fun x hx => by cases hx)] at hm; cases hm
      | cons x r =>
        by_cases hx : x.c = s.c ∧ x.n = s.n ∧ x.did = false
        · rw [mayE1_yes k1 hx.1 hx.2.1 hx.2.2] at hm
          injection hm with _ hm; injection hm with h1 h2; rw [← h1]; rfl
        · rw [mayE1_no k1 (fun y hy => by cases hy; exact hx)] at hm; cases hm
    · by_cases k3 : s.k = 3
      · rw [mayE3 k3] at hm; injection hm with _ hm; injection hm with h1 h2; rw [← h1]
      · by_cases k4 : s.k = 4 ∨ s.k = 5
        · rw [mayE4 k4] at hm; injection hm with _ hm; injection hm with h1 h2; rw [← h1]
        · rw [mayE6 k0 k1 k2 k3 (by omega) (by omega)] at hm; cases hm
/-- The most, one thing further. -/
theorem most_step {n : Nat} {L : List Sn} {k : Nat} {E E' : List En} {m m' : Nat} {s : Sn} (h : Ok n L k E m) (hs : L[k]? = some s) (hm : mayE E m s = (true, E', m')) :
    (s.k = 2 → m' = max m (lfN L (lastF L s.c 0 k) k)) ∧ (s.k ≠ 2 → m' = m) := by
  refine ⟨fun k2 => ?_, fun k2 => ?_⟩
  · cases E with
    | nil => rw [mayE2_no k2 (fun x hx => by cases hx)] at hm; cases hm
    | cons x r =>
      by_cases hx : x.c = s.c ∧ x.n = s.n ∧ x.did = true ∧ x.t = s.t
      · rw [mayE2_yes k2 hx.1 hx.2.1 hx.2.2.1 hx.2.2.2] at hm
        injection hm with _ hm; injection hm with h1 h2
        obtain ⟨e, z, g1, g2, g3, g4, g5, -, -⟩ := h.hist.ent x (by simp)
        rw [← h2, ← hx.1, g1, ← g5]
      · rw [mayE2_no k2 (fun y hy => by cases hy; exact hx)] at hm; cases hm
  · by_cases k0 : s.k = 0
    · unfold mayE at hm
      rw [if_pos k0] at hm
      split at hm
      · cases hm
      · injection hm with _ hm; injection hm with h1 h2; exact h2.symm
    · by_cases k1 : s.k = 1
      · cases E with
        | nil => rw [mayE1_no k1 (fun x hx => by cases hx)] at hm; cases hm
        | cons x r =>
          by_cases hx : x.c = s.c ∧ x.n = s.n ∧ x.did = false
          · rw [mayE1_yes k1 hx.1 hx.2.1 hx.2.2] at hm
            injection hm with _ hm; injection hm with h1 h2; exact h2.symm
          · rw [mayE1_no k1 (fun y hy => by cases hy; exact hx)] at hm; cases hm
      · by_cases k3 : s.k = 3
        · rw [mayE3 k3] at hm; injection hm with _ hm; injection hm with h1 h2; exact h2.symm
        · by_cases k4 : s.k = 4 ∨ s.k = 5
          · rw [mayE4 k4] at hm; injection hm with _ hm; injection hm with h1 h2; exact h2.symm
          · rw [mayE6 k0 k1 k2 k3 (by omega) (by omega)] at hm; cases hm
end Go.Proofs.Ytjimjkfnpklhiaa

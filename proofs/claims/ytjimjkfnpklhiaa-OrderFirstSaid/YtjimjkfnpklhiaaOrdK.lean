/- Package order: laws of what is watched, plain. -/
import Derived.Test.YtjimjkfnpklhiaaOrdJ
import Derived.Test.YtjimjkfnpklhiaaWalkOrderLines
set_option linter.all false
namespace Go.Proofs.Ytjimjkfnpklhiaa
open Go.RowKit Go.Maps

theorem goE_out {n : Nat} {E : List En} {m : Nat} {s : Sn} {r : List Sn} {i : Nat} (h : s.c < 0 ∨ (n : Int) ≤ s.c) : goE n E m (s :: r) i = ((i : Int), E, m) := by rw [goE, if_pos h]
/-- The first that may not be: one of them, or none. -/
theorem goE_range (n : Nat) : ∀ (L : List Sn) (E : List En) (m i : Nat), (goE n E m L i).1 = -1 ∨ ((i : Int) ≤ (goE n E m L i).1 ∧ (goE n E m L i).1 < i + L.length)
  | [], E, m, i => .inl rfl
  | s :: r, E, m, i => by
    by_cases hc : s.c < 0 ∨ (n : Int) ≤ s.c
    · rw [goE_out hc]; right; simp; omega
    · obtain ⟨ok, E', m', hm⟩ : ∃ ok E' m', mayE E m s = (ok, E', m') := ⟨_, _, _, rfl⟩
      cases ok with
      | false => rw [goE_no hc hm]; right; simp; omega
      | true =>
        rw [goE_yes hc hm]
        rcases goE_range n r E' m' (i + 1) with h | ⟨h1, h2⟩
        · exact .inl h
        · right; simp at h1 h2 ⊢; omega
theorem goE_pre (n : Nat) : ∀ (L : List Sn) (k : Nat) (E : List En) (m i : Nat), (goE n E m (L.take k) i).1 = if (goE n E m L i).1 < i + k then (goE n E m L i).1 else -1
  | [], k, E, m, i => by rw [List.take_nil]; show (-1 : Int) = if (-1 : Int) < i + k then -1 else -1; rw [if_pos (by omega)]
  | s :: r, 0, E, m, i => by
    rcases goE_range n (s :: r) E m i with h | ⟨h, _⟩
    · rw [h, if_pos (by omega)]; rfl
    · rw [if_neg (by omega)]; rfl
  | s :: r, k + 1, E, m, i => by
    rw [List.take_succ_cons]
    by_cases hc : s.c < 0 ∨ (n : Int) ≤ s.c
    · rw [goE_out hc, goE_out hc]
      show (i : Int) = if (i : Int) < i + (k + 1 : Nat) then (i : Int) else -1
      rw [if_pos (by omega)]
    · obtain ⟨ok, E', m', hm⟩ : ∃ ok E' m', mayE E m s = (ok, E', m') := ⟨_, _, _, rfl⟩
      cases ok with
      | false =>
        rw [goE_no hc hm, goE_no hc hm]
        show (i : Int) = if (i : Int) < i + (k + 1 : Nat) then (i : Int) else -1
        rw [if_pos (by omega)]
      | true =>
        rw [goE_yes hc hm, goE_yes hc hm, goE_pre n r k E' m' (i + 1)]
        congr 1
        simp only [eq_iff_iff]
        omega
/-- With more cores no less may be. -/
theorem goE_cores {n n' : Nat} (hn : n ≤ n') : ∀ (L : List Sn) (E : List En) (m i : Nat), (goE n' E m L i).1 = -1 ∨ (0 ≤ (goE n E m L i).1 ∧ (goE n E m L i).1 ≤ (goE n' E m L i).1)
  | [], E, m, i => .inl rfl
  | s :: r, E, m, i => by
    by_cases hc' : s.c < 0 ∨ (n' : Int) ≤ s.c
    · have hc : s.c < 0 ∨ (n : Int) ≤ s.c := by omega
      rw [goE_out hc, goE_out hc']; right; simp
    · by_cases hc : s.c < 0 ∨ (n : Int) ≤ s.c
      · rw [goE_out hc]
        rcases goE_range n' (s :: r) E m i with h | ⟨h, _⟩
        · exact .inl h
        · right; simp; omega
      · obtain ⟨ok, E', m', hm⟩ : ∃ ok E' m', mayE E m s = (ok, E', m') := ⟨_, _, _, rfl⟩
        cases ok with
        | false => rw [goE_no hc hm, goE_no hc' hm]; right; simp
        | true => rw [goE_yes hc hm, goE_yes hc' hm]; exact goE_cores hn r E' m' (i + 1)
/-- What is ahead of the first one that may not be, may be. -/
theorem goE_all (n : Nat) (L : List Sn) : (goE n [] 0 (if 0 ≤ (goE n [] 0 L 0).1 then L.take (goE n [] 0 L 0).1.toNat else L) 0).1 = -1 := by
  rcases goE_range n L [] 0 0 with h | ⟨h1, h2⟩
  · rw [h, if_neg (by decide)]; exact h
  · rw [if_pos (by omega), goE_pre, if_neg (by omega)]

/-- Kinds that leave, or were done. -/
def leftN (L : List Sn) : Nat := (L.filter (fun s => s.k == 2)).length
structure Inv (n : Nat) (E : List En) (m dn lf : Nat) : Prop where
  nodup : (coreL E).Nodup
  range : ∀ c ∈ coreL E, 0 ≤ c ∧ c < (n : Int)
  wait : ∀ p x, E[p]? = some x → x.wt + p < n
  most : m < n
  tail : ∀ p x, E[p + 1]? = some x → x.did = false
  done : dn = lf + (match E with | x :: _ => if x.did = true then 1 else 0 | [] => 0)
/-- Numbers below n, each once, are at most n. -/
theorem nodup_below : ∀ (n : Nat) (l : List Int), l.Nodup → (∀ c ∈ l, 0 ≤ c ∧ c < (n : Int)) → l.length ≤ n
  | 0, l, _, h => by
    cases l with
    | nil => simp
    | cons a l => have := h a (by simp); omega
  | n + 1, l, hd, h => by
    have h1 := nodup_below n (l.erase (n : Int)) (hd.erase _) (fun c hc => by
      obtain ⟨h2, h3⟩ := hd.mem_erase_iff.1 hc
      have := h c h3
      omega)
    by_cases hm : (n : Int) ∈ l
    · rw [List.length_erase_of_mem hm] at h1; omega
    · rw [List.erase_of_not_mem hm] at h1; omega
theorem Inv.len {n : Nat} {E : List En} {m dn lf : Nat} (h : Inv n E m dn lf) : E.length ≤ n := by
  have := nodup_below n (coreL E) h.nodup h.range
  simpa [coreL] using this
theorem Inv.step {n : Nat} {E E' : List En} {m m' dn lf : Nat} {s : Sn} (h : Inv n E m dn lf) (hc : ¬ (s.c < 0 ∨ (n : Int) ≤ s.c)) (hm : mayE E m s = (true, E', m')) :
    Inv n E' m' (dn + if s.k = 1 then 1 else 0) (lf + if s.k = 2 then 1 else 0) := by
  by_cases k0 : s.k = 0
  · unfold mayE at hm
    rw [if_pos k0] at hm
    split at hm
    · cases hm
    · rename_i hni
      injection hm with _ hm; injection hm with h1 h2; subst h1; subst h2
      have hl : E.length < n := by
        have h9 : (coreL (E ++ [en0 s])).Nodup := by
          rw [coreL, List.map_append, List.nodup_append]
          refine ⟨h.nodup, by simp, fun a ha b hb e => ?_⟩
          simp at hb
          subst e; subst hb
          exact hni ha
        have := nodup_below n _ h9 (fun c hc' => by
          rw [coreL, List.map_append] at hc'
          rcases List.mem_append.1 hc' with hc' | hc'
          · exact h.range c hc'
          · simp at hc'; subst hc'; show 0 ≤ s.c ∧ s.c < _; omega)
        simp [coreL] at this
        omega
      refine ⟨?_, ?_, ?_, h.most, ?_, ?_⟩
      · rw [coreL, List.map_append, List.nodup_append]
        refine ⟨h.nodup, by simp, fun a ha b hb e => ?_⟩
        simp at hb
        subst e; subst hb
        exact hni ha
      · intro c hc'
        rw [coreL, List.map_append] at hc'
        rcases List.mem_append.1 hc' with hc' | hc'
        · exact h.range c hc'
        · simp at hc'; subst hc'; show 0 ≤ s.c ∧ s.c < _; omega
      · intro p x hx
        rw [List.getElem?_append] at hx
        split at hx
        · exact h.wait p x hx
        · have h5 : p - E.length = 0 := by have := lt_of_some hx; simp at this; omega
          rw [h5] at hx
          obtain rfl : en0 s = x := by simpa using hx
          show 0 + p < n
          omega
      · intro p x hx
        rw [List.getElem?_append] at hx
        split at hx
        · exact h.tail p x hx
        · have h5 : p + 1 - E.length = 0 := by have := lt_of_some hx; simp at this; omega
          rw [h5] at hx
          obtain rfl : en0 s = x := by simpa using hx
          rfl
      · rw [if_neg (by omega), if_neg (by omega), h.done]
        cases E with
        | nil => rfl
        | cons a r => rfl
  · by_cases k1 : s.k = 1
    · cases E with
      | nil => rw [mayE1_no k1 (fun x hx => by cases hx)] at hm; cases hm
      | cons x r =>
        by_cases hx : x.c = s.c ∧ x.n = s.n ∧ x.did = false
        · rw [mayE1_yes k1 hx.1 hx.2.1 hx.2.2] at hm
          injection hm with _ hm; injection hm with h1 h2; subst h1; subst h2
          refine ⟨h.nodup, h.range, ?_, h.most, ?_, ?_⟩
          · intro p y hy
            cases p with
            | zero => obtain rfl : en1 x s = y := by simpa using hy
                      exact h.wait 0 x rfl
            | succ p => exact h.wait (p + 1) y hy
          · intro p y hy
            exact h.tail p y hy
          · rw [if_pos k1, if_neg (by omega), h.done]
            show lf + (if x.did = true then 1 else 0) + 1 = lf + 0 + (if true = true then 1 else 0)
            rw [hx.2.2]; simp
        · rw [mayE1_no k1 (fun y hy => by cases hy; exact hx)] at hm; cases hm
    · by_cases k2 : s.k = 2
      · cases E with
        | nil => rw [mayE2_no k2 (fun x hx => by cases hx)] at hm; cases hm
        | cons x r =>
          by_cases hx : x.c = s.c ∧ x.n = s.n ∧ x.did = true ∧ x.t = s.t
          · rw [mayE2_yes k2 hx.1 hx.2.1 hx.2.2.1 hx.2.2.2] at hm
            injection hm with _ hm; injection hm with h1 h2; subst h1; subst h2
            have hcr : coreL (r.map (more 1)) = coreL r := by rw [coreL, List.map_map]; rfl
            refine ⟨?_, ?_, ?_, ?_, ?_, ?_⟩
            · rw [hcr]; exact (List.nodup_cons.1 h.nodup).2
            · rw [hcr]; exact fun c hc' => h.range c (List.mem_cons_of_mem _ hc')
            · intro p y hy
              rw [List.getElem?_map] at hy
              obtain ⟨z, hz, rfl⟩ := Option.map_eq_some_iff.1 hy
              have := h.wait (p + 1) z hz
              show z.wt + 1 + p < n
              omega
            · have := h.wait 0 x rfl
              have := h.most
              omega
            · intro p y hy
              rw [List.getElem?_map] at hy
              obtain ⟨z, hz, rfl⟩ := Option.map_eq_some_iff.1 hy
              exact h.tail (p + 1) z hz
            · rw [if_neg (by omega), if_pos k2, h.done]
              show lf + (if x.did = true then 1 else 0) + 0 = _
              rw [hx.2.2.1]
              cases r with
              | nil => simp
              | cons y r =>
                have h9 : y.did = false := h.tail 0 y rfl
                show _ = lf + 1 + (if y.did = true then 1 else 0)
                rw [h9]; simp
          · rw [mayE2_no k2 (fun y hy => by cases hy; exact hx)] at hm; cases hm
      · have hE : E' = E ∧ m' = m := by
          by_cases k3 : s.k = 3
          · rw [mayE3 k3] at hm; injection hm with _ hm; injection hm with h1 h2; exact ⟨h1.symm, h2.symm⟩
          · by_cases k4 : s.k = 4 ∨ s.k = 5
            · rw [mayE4 k4] at hm; injection hm with _ hm; injection hm with h1 h2; exact ⟨h1.symm, h2.symm⟩
            · rw [mayE6 k0 k1 k2 k3 (by omega) (by omega)] at hm; cases hm
        obtain ⟨rfl, rfl⟩ := hE
        rw [if_neg k1, if_neg k2]
        exact h
theorem Inv.run {n : Nat} : ∀ {L : List Sn} {E E' : List En} {m m' dn lf i : Nat}, Inv n E m dn lf → goE n E m L i = (-1, E', m') → Inv n E' m' (dn + (callsE L).length) (lf + leftN L)
  | [], E, E', m, m', dn, lf, i, h, hg => by
    rw [goE] at hg
    injection hg with _ hg; injection hg with h1 h2; subst h1; subst h2; exact h
  | s :: r, E, E', m, m', dn, lf, i, h, hg => by
    by_cases hc : s.c < 0 ∨ (n : Int) ≤ s.c
    · rw [goE_out hc] at hg; injection hg with hg _; omega
    · obtain ⟨ok, E2, m2, hm⟩ : ∃ ok E' m', mayE E m s = (ok, E', m') := ⟨_, _, _, rfl⟩
      cases ok with
      | false => rw [goE_no hc hm] at hg; injection hg with hg _; omega
      | true =>
        rw [goE_yes hc hm] at hg
        have h2 := Inv.run (h.step hc hm) hg
        have e1 : (callsE (s :: r)).length = (if s.k = 1 then 1 else 0) + (callsE r).length := by
          rw [callsE, callsE, List.length_map, List.length_map, List.filter_cons]
          by_cases k : s.k = 1
          · rw [if_pos (by simp [k]), if_pos k, List.length_cons]; omega
          · rw [if_neg (by simp [k]), if_neg k]; omega
        have e2 : leftN (s :: r) = (if s.k = 2 then 1 else 0) + leftN r := by
          rw [leftN, leftN, List.filter_cons]
          by_cases k : s.k = 2
          · rw [if_pos (by simp [k]), if_pos k, List.length_cons]; omega
          · rw [if_neg (by simp [k]), if_neg k]; omega
        rw [e1, e2, ← Nat.add_assoc, ← Nat.add_assoc]
        exact h2
theorem Inv.start {n : Nat} (h : 1 ≤ n) : Inv n [] 0 0 0 := ⟨by simp [coreL], by simp [coreL], by simp, h, by simp, rfl⟩
/-- Of what may be. -/
theorem waits_law {n : Nat} {L : List Sn} {E : List En} {m : Nat} (h1 : 1 ≤ n) (hg : goE n [] 0 L 0 = (-1, E, m)) :
    (coreL E).Nodup ∧ E.length ≤ n ∧ m < n ∧ ((callsE L).length = leftN L ∨ (callsE L).length = leftN L + 1) := by
  have h := Inv.run (Inv.start h1) hg
  refine ⟨h.nodup, h.len, h.most, ?_⟩
  have := h.done
  rw [Nat.zero_add, Nat.zero_add] at this
  rw [this]
  cases E with
  | nil => exact .inl rfl
  | cons x r =>
    show leftN L + (if x.did = true then 1 else 0) = leftN L ∨ leftN L + (if x.did = true then 1 else 0) = leftN L + 1
    by_cases hx : x.did = true
    · rw [if_pos hx]; exact .inr rfl
    · rw [if_neg hx]; exact .inl rfl
/-- A look more. -/
theorem loads_law {n : Nat} {L : List Sn} {E : List En} {m : Nat} (hg : goE n [] 0 L 0 = (-1, E, m)) (k : Nat) (hk : k < n) :
    goE n [] 0 (L ++ [ec 3 k]) 0 = ((if (k : Int) ∈ coreL E then (L.length : Int) else -1), E, m) := by
  have hc : ¬ ((ec 3 k).c < 0 ∨ (n : Int) ≤ (ec 3 k).c) := by simp; omega
  rw [goE_append hg, Nat.zero_add]
  by_cases h : (k : Int) ∈ coreL E
  · rw [if_pos h, goE_no hc (show mayE E m (ec 3 k) = (false, E, m) by rw [mayE3 rfl]; simp [h])]
  · rw [if_neg h, goE_yes hc (show mayE E m (ec 3 k) = (true, E, m) by rw [mayE3 rfl]; simp [h])]; rfl
end Go.Proofs.Ytjimjkfnpklhiaa

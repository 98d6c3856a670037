/- More of locks: appends that tell which block they write; what other types' blocks leave as it is. -/
import Derived.Test.YtbnjfkfmkbijnaaLockE
import Derived.ArgAppend
set_option linter.all false
namespace Go.Proofs.Ytbnjfkfmkbijnaa
open Go.RowKit

theorem wpList_append_src2 {P : Program} {w : World} {ops : Array Oper} {rest : List Oper} {o : Oper} {a : Act} {Q : Exit → Act → World → Prop} (hgd : o.guard = none) (s x : Operand) (t : TypeId)
    (ho : o.op = .call { callee := .builtin .append, args := #[s, x], argTypes := #[t, t] })
    (base : Nat) (e : TypeId) (i : TypeInfo) (z : Value) (size bytes : Nat) (ht : P.underlying t = some (.slice e)) (hi : P.info? e = some i) (hz : i.zero = some z)
    (hsize : i.size = size) (hby : i.bytes = bytes) (hzs : z.cells.size = size) (hsz : 0 < size)
    (v : Value) (n : Nat) (xs : List Value) (hs : a.eval s = v) (hown : w.ownsRow base e size v n xs)
    (sv : Value) (m : Nat) (news : List Value) (hx : a.eval x = sv) (hsrc : Src w sv m size news) (h1 : ∀ u ∈ news, u.oneCell' = true)
    (h63 : n + m ≤ maxLen) (hbytes : (n + m) * bytes ≤ 140737488355328) (hbase : base ≤ w.heap.size)
    (h : ∀ v' w', w'.ownsRow base e size v' (n + m) (xs ++ news) → w.grownBy w' v.ownBlock → (∀ k, v'.ownBlock = some k → v.ownBlock = some k ∨ w.heap.size ≤ k) → wpList P ops Q rest (a.put o.dst v') w') : wpList P ops Q (o :: rest) a w := by
  obtain ⟨ao, c, rfl, hc, hl, hnews⟩ := hsrc
  cases ao with
  | none =>
    obtain rfl : c = 0 := hc rfl
    have hn0 : news = [] := by
      cases news with
      | nil => rfl
      | cons u l => obtain ⟨ad, h', _⟩ := hnews 0 u rfl; cases h'
    subst hn0
    have hm : m = 0 := by
      have h' : 0 = m * size := by simpa using hl
      rcases Nat.mul_eq_zero.1 h'.symm with h'' | h'' <;> omega
    subst hm
    exact wpList_append_own_none hgd s x t ho base e i size ht hi v n xs hs hown hx (h v w (by simpa using hown) (World.grownBy.refl _ _) (fun k hk => .inl hk))
  | some ad =>
    have hnews' : ∀ j u, news[j]? = some u → w.cell? (ad.add j) = some u := fun j u hj => by obtain ⟨ad', h1', h2'⟩ := hnews j u hj; cases h1'; exact h2'
    rcases hown.2 with ⟨rfl, rfl⟩ | ⟨g, cap, cur, rfl, hbg, hg, hnc, hcm, hcs, htake⟩
    · have hown' : w.ownsRow w.heap.size e size (.slice none 0 0) 0 xs := ⟨hown.1, .inl ⟨rfl, rfl⟩⟩
      refine wpList_append_own w hgd s x t ho w.heap.size e i z size bytes ht hi hz hsize hby hzs hsz _ 0 xs hs hown' ad m c news hx hl hnews' h1 h63 hbytes (Nat.le_refl _) (fun v' w' a b _ => ?_)
      exact h v' w' (own_mono a hbase) b (fun k hk => .inr (own_block a hk))
    · by_cases hroom : n + m ≤ cap
      · subst hsize
        have hlen : (xs ++ news).length = (n + m) * i.size := by rw [List.length_append, hown.1, hl, Nat.add_mul]
        have hfit : n * i.size + news.length ≤ cur.size := by rw [hl, hcs, ← Nat.add_mul]; exact Nat.mul_le_mul_right _ hroom
        have hr := run_append_room (P := P) w t o.type e i ht hi g n cap cur hg ad m c news hl hnews' h1 hroom hfit
        have hK' := h (.slice (some ⟨g, 0, none⟩) (n + m) cap) (w.setRow g (cur.toList.take (n * i.size) ++ news ++ cur.toList.drop (n * i.size + news.length)).toArray)
          ⟨hlen, .inr ⟨g, cap, _, rfl, hbg, setRow_heap w g cur _ e _ hg, hroom, hcm, by
            simp only [List.size_toArray, List.length_append, List.length_take, List.length_drop, Array.length_toList]
            omega, by
            simp only []
            rw [htake, ← hlen]
            exact List.take_left⟩⟩
          ⟨rfl, rfl, rfl, by simp, fun k _ hk => setRow_other w g k _ (fun e => hk (by simp [Value.ownBlock, e]))⟩ (fun k hk => .inl hk)
        refine wpList_plain hgd fun K hK => ?_
        unfold Oper.wp execOp
        simp only [ho, resolve, invoke, builtin, Sem.run_bind, Sem.run_pure, Result.andThen_ok, List.map_toArray, List.map_cons, List.map_nil, hs, hx, hr]
        exact hK _ _ hK'
      · refine wpList_append_grows w hgd s x t ho e i z size bytes ht hi hz hsize hby hzs hsz (some ⟨g, 0, none⟩) n cap xs hs (by simp) hown.1 (fun b hb j u hj => by cases hb; exact hown.cells (g := g) rfl j u hj) ad m c news hx hl hnews' h1 (by omega) h63 hbytes ?_
        intro v' w' a b
        exact h v' w' (own_mono a hbase) ⟨b.os, b.tape, b.output, b.size, fun k hk _ => b.block k hk (by simp)⟩ (fun k hk => .inr (own_block a hk))

theorem Lock.kept3 {O F : Nat → Prop} {w w' : World} {b g n : Nat} {L : List Int} (h : Lock O w b g n L) (k : Kept F w w') (hF : ∀ i, F i → ∃ c T, w.heap[i]? = some (.cells c T (0, 0)) ∧ T ≠ 51 ∧ T ≠ 49 ∧ T ≠ 55) : Lock O w' b g n L := by
  obtain ⟨N, h1, h2, h3⟩ := h
  refine ⟨N, h1, h2.kept k ?_ ?_, h3⟩
  · intro i hi hFi
    obtain ⟨c, T, e1, e2, e3, e4⟩ := hF i hFi
    exact not_lt e1 e2 e3 e4 (h2.own_lt hi)
  · intro d c fz hFd hh
    obtain ⟨c', T, e1, e2, e3, e4⟩ := hF d hFd
    rw [e1] at hh
    simp at hh
    exact (e4 hh.2.1).elim
theorem own_type {w : World} {base s : Nat} {e : TypeId} {v : Value} {m : Nat} {xs : List Value} (h : w.ownsRow base e s v m xs) {k : Nat} (hk : v.ownBlock = some k) : ∃ c, w.heap[k]? = some (.cells c e (0, 0)) := by
  rcases h.2 with ⟨rfl, _⟩ | ⟨g, cap, cur, rfl, h2, h3, _⟩
  · simp [Value.ownBlock] at hk
  · simp [Value.ownBlock] at hk; subst hk; exact ⟨_, h3⟩
theorem own_size {w : World} {base s : Nat} {e : TypeId} {v : Value} {m : Nat} {xs : List Value} (h : w.ownsRow base e s v m xs) {k : Nat} (hk : v.ownBlock = some k) : k < w.heap.size := let ⟨_, h1⟩ := own_type h hk; lt_of_heap h1
/-- An append's frame. -/
theorem Kept.of_grown {w w' : World} {v : Value} (h : w.grownBy w' v.ownBlock) : Kept (fun k => v.ownBlock = some k) w w' := (Kept.refl _ w).grown h (fun k hk => .inr hk)

theorem pos_cons_ne {x a : Int} {l : List Int} {q : Nat} (h : pos x (a :: l) = (q : Int) + 1) : a ≠ x ∧ pos x l = q := by
  have hg := pos_ge x l
  rw [pos] at h
  split at h
  · omega
  · rename_i h'
    refine ⟨h', ?_⟩
    split at h <;> omega
theorem pos_append {x a : Int} : ∀ {l : List Int}, 0 ≤ pos x l → pos x (l ++ [a]) = pos x l
  | [], h => by simp [pos] at h
  | b :: l, h => by
    have hg := pos_ge x l
    rw [pos] at h
    simp only [List.cons_append, pos]
    by_cases h' : b = x
    · simp [h']
    · rw [if_neg h'] at h ⊢
      split at h
      · omega
      · rw [pos_append (by omega), if_neg h']
theorem pos_mem {x : Int} : ∀ {l : List Int}, x ∈ l → 0 ≤ pos x l ∧ pos x l < l.length
  | [], h => by simp at h
  | b :: l, h => by
    simp only [pos]
    by_cases h' : b = x
    · simp [h']
    · have hm : x ∈ l := by
        rcases List.mem_cons.1 h with e | e
        · exact (h' e.symm).elim
        · exact e
      have := pos_mem hm
      rw [if_neg h']
      split
      · omega
      · simp; omega
theorem pos_zero {x : Int} {l : List Int} (h : pos x l = 0) : l.head? = some x := by
  cases l with
  | nil => simp [pos] at h
  | cons a l =>
    have := pos_ge x l
    rw [pos] at h
    split at h
    · rename_i h'; simp [h']
    · split at h <;> omega
theorem pos_zero_iff {x : Int} {l : List Int} : pos x l = 0 ↔ l.head? = some x := by
  refine ⟨pos_zero, fun h => ?_⟩
  cases l with
  | nil => simp at h
  | cons a l => simp at h; subst h; simp [pos]
end Go.Proofs.Ytbnjfkfmkbijnaa

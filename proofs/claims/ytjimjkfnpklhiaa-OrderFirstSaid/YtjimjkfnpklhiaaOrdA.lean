/- Package lock: a line of nodes; what is, holds, Holder, Probe, Enter, Leave do. -/
import Derived.Test.YtjimjkfnpklhiaaRows
import Derived.Test.YtjimjkfnpklhiaaBase
import Derived.Test.YtjimjkfnpklhiaaArgs
import Derived.WalkKit
import Derived.Outline
import Derived.WalkSpells
import Derived.WalkLawsBesides
import Derived.Deep.QuietTactic
import Derived.BigQuiet
import Derived.StillTailTactics
set_option linter.all false
namespace Go.Proofs.Ytjimjkfnpklhiaa
open Go.RowKit

/-! Which node is a core's. -/
def byOf : List (Int × Nat) → Int → Option Addr
  | [], _ => none
  | (c, p) :: r, x => if c = x then some ⟨p, 0, none⟩ else byOf r x
theorem byOf_none : ∀ {N : List (Int × Nat)} {x : Int}, x ∉ N.map Prod.fst → byOf N x = none
  | [], _, _ => rfl
  | (c, p) :: r, x, h => by
    simp at h
    rw [byOf, if_neg (fun e => h.1 e.symm)]
    exact byOf_none (by simpa using h.2)
theorem byOf_at : ∀ {N : List (Int × Nat)} {i : Nat} {c : Int} {p : Nat}, (N.map Prod.fst).Nodup → N[i]? = some (c, p) → byOf N c = some ⟨p, 0, none⟩
  | [], _, _, _, _, h => by simp at h
  | (c', p') :: r, 0, c, p, _, h => by
    simp at h
    obtain ⟨rfl, rfl⟩ := h
    rw [byOf, if_pos rfl]
  | (c', p') :: r, i + 1, c, p, hd, h => by
    simp only [List.map_cons, List.nodup_cons] at hd
    simp only [List.getElem?_cons_succ] at h
    have hm : c ∈ r.map Prod.fst := List.mem_map.2 ⟨(c, p), List.mem_of_getElem? h, rfl⟩
    rw [byOf, if_neg (fun e => hd.1 (by rw [e]; exact hm))]
    exact byOf_at hd.2 h
theorem byOf_mem : ∀ {N : List (Int × Nat)} {x : Int}, x ∈ N.map Prod.fst → ∃ (i : Nat) (p : Nat), N[i]? = some (x, p)
  | N, x, h => by
    obtain ⟨⟨c, p⟩, hm, rfl⟩ := List.mem_map.1 h
    obtain ⟨i, hi⟩ := List.getElem?_of_mem hm
    exact ⟨i, p, hi⟩
theorem byOf_append : ∀ {N : List (Int × Nat)} {c x : Int} {p : Nat}, c ∉ N.map Prod.fst → byOf (N ++ [(c, p)]) x = if x = c then some ⟨p, 0, none⟩ else byOf N x
  | [], c, x, p, _ => by simp [byOf, eq_comm]
  | (c', p') :: r, c, x, p, h => by
    simp at h
    have ih := byOf_append (N := r) (c := c) (x := x) (p := p) (by simpa using h.2)
    simp only [List.cons_append, byOf, ih]
    by_cases h1 : c' = x
    · subst h1; simp [show ¬ c' = c from fun e => h.1 e.symm]
    · simp [h1]
theorem byOf_tail {N : List (Int × Nat)} {c x : Int} {p : Nat} (h : ((c, p) :: N |>.map Prod.fst).Nodup) : byOf N x = if x = c then none else byOf ((c, p) :: N) x := by
  simp only [List.map_cons, List.nodup_cons] at h
  by_cases h1 : x = c
  · subst h1; rw [if_pos rfl]; exact byOf_none h.1
  · rw [if_neg h1, byOf, if_neg (fun e => h1 e.symm)]

/-! The nodes. -/
def Dead (w : World) (t : Option Addr) : Prop := t = none ∨ ∃ d c, t = some ⟨d, 0, none⟩ ∧ w.heap[d]? = some (.cells #[.int .i64 c, .pointer none, .bool false] 64 (0, 0))
def Live (w : World) (t : Option Addr) : Prop := ∃ p c t', t = some ⟨p, 0, none⟩ ∧ w.heap[p]? = some (.cells #[.int .i64 c, .pointer t', .bool true] 64 (0, 0))
/-- The nodes from t on, the last one first. -/
def Chain (w : World) : Option Addr → List (Int × Nat) → Prop
  | t, [] => Dead w t
  | t, (c, p) :: r => t = some ⟨p, 0, none⟩ ∧ ∃ t', w.heap[p]? = some (.cells #[.int .i64 c, .pointer t', .bool true] 64 (0, 0)) ∧ Chain w t' r

theorem Dead.kept {F : Nat → Prop} {w w' : World} {t : Option Addr} (h : Dead w t) (k : Kept F w w') (hn : ∀ d c fz, F d → w.heap[d]? = some (.cells c 64 fz) → c[2]? = some (.bool true)) : Dead w' t := by
  rcases h with rfl | ⟨d, c, rfl, hd⟩
  · exact .inl rfl
  · exact .inr ⟨d, c, rfl, k.heap hd (fun hf => by have := hn d _ _ hf hd; simp at this)⟩
theorem Chain.kept {F : Nat → Prop} {w w' : World} (k : Kept F w w') (hd : ∀ d c fz, F d → w.heap[d]? = some (.cells c 64 fz) → c[2]? = some (.bool true)) : ∀ {R : List (Int × Nat)} {t : Option Addr}, Chain w t R → (∀ x ∈ R, ¬ F x.2) → Chain w' t R
  | [], t, h, _ => Dead.kept h k hd
  | (c, p) :: r, t, ⟨h1, t', h2, h3⟩, hn => ⟨h1, t', k.heap h2 (hn (c, p) (by simp)), Chain.kept k hd h3 (fun x hx => hn x (by simp [hx]))⟩
theorem Chain.at : ∀ {w : World} {R : List (Int × Nat)} {t : Option Addr}, Chain w t R → ∀ {i : Nat} {c : Int} {p : Nat}, R[i]? = some (c, p) → ∃ t', w.heap[p]? = some (.cells #[.int .i64 c, .pointer t', .bool true] 64 (0, 0)) ∧ Chain w t' (R.drop (i + 1))
  | w, [], t, _, i, c, p, h => by simp at h
  | w, (c', p') :: r, t, ⟨h1, t', h2, h3⟩, 0, c, p, h => by
    simp at h; obtain ⟨rfl, rfl⟩ := h
    exact ⟨t', h2, by simpa using h3⟩
  | w, (c', p') :: r, t, ⟨h1, t', h2, h3⟩, i + 1, c, p, h => by
    obtain ⟨t'', h4, h5⟩ := Chain.at h3 (i := i) (by simpa using h)
    exact ⟨t'', h4, by simpa using h5⟩
theorem Chain.live {w : World} {R : List (Int × Nat)} {t : Option Addr} (h : Chain w t R) (hR : R ≠ []) : Live w t := by
  match R, h, hR with
  | (c, p) :: r, ⟨h1, t', h2, _⟩, _ => exact ⟨p, c, t', h1, h2⟩
/-- The first one leaves: its node is dead. -/
theorem Chain.leave {F : Nat → Prop} {w w' : World} {c : Int} {p : Nat} (k : Kept F w w') (hp : w'.heap[p]? = some (.cells #[.int .i64 c, .pointer none, .bool false] 64 (0, 0))) :
    ∀ {R : List (Int × Nat)} {t : Option Addr}, Chain w t (R ++ [(c, p)]) → (∀ x ∈ R, ¬ F x.2) → Chain w' t R
  | [], t, ⟨h1, _⟩, _ => .inr ⟨p, c, h1, hp⟩
  | (c', p') :: r, t, ⟨h1, t', h2, h3⟩, hn => ⟨h1, t', k.heap h2 (hn (c', p') (by simp)), Chain.leave k hp h3 (fun x hx => hn x (by simp [hx]))⟩

/-- A lock of n cores: its struct in block b, its cores' nodes in block g; N: who stands in line, with the node's block. -/
structure Lk (w : World) (b g n : Nat) (N : List (Int × Nat)) : Prop where
  blk : ∃ t, w.heap[b]? = some (.cells #[.int .i64 n, .pointer t, .slice (some ⟨g, 0, none⟩) n n] 62 (0, 0)) ∧ Chain w t N.reverse
  row : Row w g n 59 ((List.range n).map fun i : Nat => Value.pointer (byOf N (i : Int)))
  nodup : (N.map Prod.fst).Nodup
  core : ∀ x ∈ N, 0 ≤ x.1 ∧ x.1 < n
  le : n ≤ 8
def Own (b g : Nat) (N : List (Int × Nat)) (k : Nat) : Prop := k = b ∨ k = g ∨ ∃ x ∈ N, x.2 = k
/-- Blocks of the lock's types. -/
def Lt (w : World) (k : Nat) : Prop := ∃ c T, w.heap[k]? = some (.cells c T (0, 0)) ∧ (T = 62 ∨ T = 59 ∨ T = 64)

section
variable {w w' : World} {b g n : Nat} {N : List (Int × Nat)}
theorem Lk.rowlt (h : Lk w b g n N) : g < w.heap.size := h.row.lt
theorem Lk.blt (h : Lk w b g n N) : b < w.heap.size := let ⟨_, h1, _⟩ := h.blk; lt_of_heap h1
theorem Lk.rowblk (h : Lk w b g n N) : ∃ c, w.heap[g]? = some (.cells c 59 (0, 0)) := let ⟨c, h1, _, _⟩ := h.row.ex; ⟨c, h1⟩
theorem Lk.ne (h : Lk w b g n N) : b ≠ g := by
  obtain ⟨t, h1, _⟩ := h.blk
  obtain ⟨c, h2⟩ := h.rowblk
  exact heap_ne h1 h2 (by decide)
theorem Lk.at (h : Lk w b g n N) {i : Nat} {c : Int} {p : Nat} (hi : N[i]? = some (c, p)) :
    ∃ t', w.heap[p]? = some (.cells #[.int .i64 c, .pointer t', .bool true] 64 (0, 0)) ∧ (i = 0 → Dead w t') ∧ (i ≠ 0 → Live w t') := by
  obtain ⟨t, _, hch⟩ := h.blk
  have hl : i < N.length := (List.getElem?_eq_some_iff.1 hi).1
  obtain ⟨t', h1, h2⟩ := hch.at (i := N.length - 1 - i) (c := c) (p := p) (by rw [List.getElem?_reverse (by omega), show N.length - 1 - (N.length - 1 - i) = i by omega]; exact hi)
  refine ⟨t', h1, ?_, ?_⟩
  · rintro rfl
    rw [List.drop_eq_nil_of_le (by simp; omega)] at h2
    exact h2
  · intro h0
    refine h2.live ?_
    intro hnil
    have := congrArg List.length hnil
    simp at this
    omega
theorem Lk.nodeblk (h : Lk w b g n N) {x : Int × Nat} (hx : x ∈ N) : ∃ t', w.heap[x.2]? = some (.cells #[.int .i64 x.1, .pointer t', .bool true] 64 (0, 0)) := by
  obtain ⟨i, hi⟩ := List.getElem?_of_mem hx
  obtain ⟨t', h1, _⟩ := h.at (i := i) (c := x.1) (p := x.2) hi
  exact ⟨t', h1⟩
theorem Lk.own_lt (h : Lk w b g n N) {k : Nat} (hk : Own b g N k) : Lt w k := by
  rcases hk with rfl | rfl | ⟨x, hx, rfl⟩
  · obtain ⟨t, h1, _⟩ := h.blk; exact ⟨_, _, h1, .inl rfl⟩
  · obtain ⟨c, h1⟩ := h.rowblk; exact ⟨_, _, h1, .inr (.inl rfl)⟩
  · obtain ⟨t, h1⟩ := h.nodeblk hx; exact ⟨_, _, h1, .inr (.inr rfl)⟩
theorem Lk.own_size (h : Lk w b g n N) {k : Nat} (hk : Own b g N k) : k < w.heap.size := let ⟨_, _, h1, _⟩ := h.own_lt hk; lt_of_heap h1
theorem Lk.kept {F : Nat → Prop} (h : Lk w b g n N) (k : Kept F w w') (hF : ∀ i, Own b g N i → ¬ F i) (hd : ∀ d c fz, F d → w.heap[d]? = some (.cells c 64 fz) → c[2]? = some (.bool true)) : Lk w' b g n N := by
  obtain ⟨t, h1, h2⟩ := h.blk
  exact ⟨⟨t, k.heap h1 (hF b (.inl rfl)), h2.kept k hd (fun x hx => hF _ (.inr (.inr ⟨x, by simpa using hx, rfl⟩)))⟩, h.row.kept k (hF g (.inr (.inl rfl))), h.nodup, h.core, h.le⟩
theorem Lk.own_live (h : Lk w b g n N) {d : Nat} {c : Array Value} {fz : Nat × Nat} (hd : Own b g N d) (hh : w.heap[d]? = some (.cells c 64 fz)) : c[2]? = some (.bool true) := by
  rcases hd with rfl | rfl | ⟨x, hx, rfl⟩
  · obtain ⟨t, h1, _⟩ := h.blk; rw [h1] at hh; simp at hh
  · obtain ⟨c', h1⟩ := h.rowblk; rw [h1] at hh; simp at hh
  · obtain ⟨t, h1⟩ := h.nodeblk hx; rw [h1] at hh; simp at hh; obtain ⟨rfl, _⟩ := hh; rfl
theorem Lk.same (h : Lk w b g n N) (k : New w w') : Lk w' b g n N := h.kept k (fun _ _ h => h) (fun _ _ _ h => h.elim)
theorem Lk.alloc (h : Lk w b g n N) (o : Obj) : Lk (w.alloc o) b g n N := h.same ((Kept.refl _ w).alloc o)
theorem Lk.drewN (h : Lk w b g n N) (q : Nat) : Lk (w.drewN q) b g n N := h.same ((Kept.refl _ w).drewN q)
theorem Lk.by_ (h : Lk w b g n N) {i : Nat} (hi : i < n) : w.cell? ⟨g, i, none⟩ = some (.pointer (byOf N i)) := by
  rw [h.row.cell (by simpa using hi)]; simp
end

theorem is_any (b g n : Nat) (N : List (Int × Nat)) (c : Int) (w : World) (h : Lk w b g n N) (r : Bool) (hr : decide (0 ≤ c ∧ c < n) = r) :
    Calls Try.prog 37 #[.pointer (some ⟨b, 0, none⟩), .int .i64 c] w fun e w' => e = .returned (.bool r) ∧ w = w' := by
  obtain ⟨t, hb, _⟩ := h.blk
  have hc : w.cell? ⟨b, 0, none⟩ = some (.int .i64 n) := cell_blk hb 0
  subst hr
  go_enter Try.func37, Try.ntmps37
  go_wp2
  all_goals go_ret
  all_goals refine ⟨ret_bool ?_, rfl⟩
  all_goals rw [Bool.eq_iff_iff]
  all_goals simp
  all_goals omega

theorem holds_yes (p : Nat) (c : Int) (t : Option Addr) (w : World) (h : w.heap[p]? = some (.cells #[.int .i64 c, .pointer t, .bool true] 64 (0, 0))) (hd : Dead w t) :
    Calls Try.prog 40 #[.pointer (some ⟨p, 0, none⟩)] w fun e w' => e = .returned (.bool true) ∧ w = w' := by
  have h1 : w.cell? ⟨p, 1, none⟩ = some (.pointer t) := cell_blk h 1
  rcases hd with rfl | ⟨d, c', rfl, hd⟩
  · go_enter Try.func40, Try.ntmps40
    go_wp2
    go_ret
    exact ⟨rfl, rfl⟩
  · have h2 : w.cell? ⟨d, 2, none⟩ = some (.bool false) := cell_blk hd 2
    go_enter Try.func40, Try.ntmps40
    go_wp2
    go_ret
    exact ⟨rfl, rfl⟩

theorem holds_no (p : Nat) (c : Int) (t : Option Addr) (w : World) (h : w.heap[p]? = some (.cells #[.int .i64 c, .pointer t, .bool true] 64 (0, 0))) (hl : Live w t) :
    Calls Try.prog 40 #[.pointer (some ⟨p, 0, none⟩)] w fun e w' => e = .returned (.bool false) ∧ w = w' := by
  have h1 : w.cell? ⟨p, 1, none⟩ = some (.pointer t) := cell_blk h 1
  obtain ⟨d, c', t', rfl, hd⟩ := hl
  have h2 : w.cell? ⟨d, 2, none⟩ = some (.bool true) := cell_blk hd 2
  go_enter Try.func40, Try.ntmps40
  go_wp2
  go_ret
  exact ⟨rfl, rfl⟩

/-- Does the core that stands there hold the lock? -/
theorem holds_at (b g n : Nat) (N : List (Int × Nat)) (i : Nat) (c : Int) (p : Nat) (w : World) (h : Lk w b g n N) (hi : N[i]? = some (c, p)) (r : Bool) (hr : decide (i = 0) = r) :
    Calls Try.prog 40 #[.pointer (some ⟨p, 0, none⟩)] w fun e w' => e = .returned (.bool r) ∧ w = w' := by
  obtain ⟨t, h1, h2, h3⟩ := h.at hi
  by_cases h0 : i = 0
  · obtain rfl : r = true := by rw [← hr]; simpa using h0
    exact holds_yes p c t w h1 (h2 h0)
  · obtain rfl : r = false := by rw [← hr]; simpa using h0
    exact holds_no p c t w h1 (h3 h0)

end Go.Proofs.Ytjimjkfnpklhiaa

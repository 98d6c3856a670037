/- Package lock: Holder, Probe, Enter, Leave. -/
import Derived.Test.YtjimjkfnpklhiaaOrdA
set_option linter.all false
namespace Go.Proofs.Ytjimjkfnpklhiaa
open Go.RowKit

def headN : List (Int × Nat) → Int
  | [] => -1
  | (c, _) :: _ => c

theorem headN_at {N : List (Int × Nat)} {c : Int} {p : Nat} (h : N[0]? = some (c, p)) : headN N = c := by
  cases N with
  | nil => simp at h
  | cons a l => obtain ⟨c', p'⟩ := a; simp at h; exact h.1
theorem nodup_at {N : List (Int × Nat)} (hd : (N.map Prod.fst).Nodup) {i j : Nat} {c : Int} {p q : Nat} (hi : N[i]? = some (c, p)) (hj : N[j]? = some (c, q)) : i = j := by
  have h1 : (N.map Prod.fst)[i]? = some c := by simp [hi]
  have h2 : (N.map Prod.fst)[j]? = some c := by simp [hj]
  have l1 := (List.getElem?_eq_some_iff.1 h1)
  have l2 := (List.getElem?_eq_some_iff.1 h2)
  obtain ⟨a1, b1⟩ := l1
  obtain ⟨a2, b2⟩ := l2
  have hp := List.pairwise_iff_getElem.1 hd
  rcases Nat.lt_trichotomy i j with h | h | h
  · exact (hp i j a1 a2 h (b1.trans b2.symm)).elim
  · exact h
  · exact (hp j i a2 a1 h (b2.trans b1.symm)).elim

def probeE (n : Nat) (L : List Int) (c : Int) : Bool × Int :=
  if ¬ (0 ≤ c ∧ c < n) then (false, 1) else if c ∈ L then (decide (L.head? = some c), 0) else (false, 161)

theorem probe_any (b g n : Nat) (N : List (Int × Nat)) (c : Int) (w : World) (h : Lk w b g n N) :
    Calls Try.prog 36 #[.pointer (some ⟨b, 0, none⟩), .int .i64 c] w fun e w' => e = .returned (.tuple #[.bool (probeE n (N.map Prod.fst) c).1, .int .i64 (probeE n (N.map Prod.fst) c).2]) ∧ w = w' := by
  obtain ⟨t, hb, _⟩ := h.blk
  have hc : w.cell? ⟨b, 2, none⟩ = some (.slice (some ⟨g, 0, none⟩) n n) := cell_blk hb 2
  by_cases hin : 0 ≤ c ∧ c < n
  · obtain ⟨k, rfl⟩ := Int.eq_ofNat_of_zero_le hin.1
    have hk : k < n := by omega
    have hby := h.by_ hk
    by_cases hm : (k : Int) ∈ N.map Prod.fst
    · obtain ⟨i, p, hi⟩ := byOf_mem hm
      rw [byOf_at h.nodup hi] at hby
      have hr : probeE n (N.map Prod.fst) k = (decide (i = 0), 0) := by
        rw [probeE, if_neg (by simpa using hin), if_pos hm]
        congr 1
        rw [Bool.eq_iff_iff]
        simp only [decide_eq_true_eq]
        constructor
        · intro hh
          obtain ⟨q, hq⟩ : ∃ q, N[0]? = some ((k : Int), q) := by
            cases N with
            | nil => simp at hh
            | cons a l => obtain ⟨a1, a2⟩ := a; simp at hh; subst hh; exact ⟨a2, rfl⟩
          exact nodup_at h.nodup hi hq
        · rintro rfl
          cases N with
          | nil => simp at hi
          | cons a l => simp at hi; subst hi; rfl
      rw [hr]
      go_enter Try.func36, Try.ntmps36
      go_wp2_with (first | (go_at_call 37; refine (is_any _ _ _ _ _ _ h true (by simpa using hin)).mono ?_; rintro e w' ⟨rfl, rfl⟩) | (go_at_call 40; refine (holds_at _ _ _ _ _ _ _ _ h hi _ rfl).mono ?_; rintro e w' ⟨rfl, rfl⟩))
      go_ret2
      exact ⟨rfl, rfl⟩
    · rw [byOf_none hm] at hby
      have hr : probeE n (N.map Prod.fst) k = (false, 161) := by rw [probeE, if_neg (by simpa using hin), if_neg hm]
      rw [hr]
      go_enter Try.func36, Try.ntmps36
      go_wp2_with (go_at_call 37; refine (is_any _ _ _ _ _ _ h true (by simpa using hin)).mono ?_; rintro e w' ⟨rfl, rfl⟩)
      go_ret2
      exact ⟨rfl, rfl⟩
  · have hr : probeE n (N.map Prod.fst) c = (false, 1) := by rw [probeE, if_pos hin]
    rw [hr]
    go_enter Try.func36, Try.ntmps36
    go_wp2_with (go_at_call 37; refine (is_any _ _ _ _ _ _ h false (by simpa using hin)).mono ?_; rintro e w' ⟨rfl, rfl⟩)
    go_ret2
    exact ⟨rfl, rfl⟩

def enterE (n : Nat) (L : List Int) (c : Int) : Int × List Int :=
  if ¬ (0 ≤ c ∧ c < n) then (1, L) else if c ∈ L then (160, L) else (0, L ++ [c])

theorem range_set {N N' : List (Int × Nat)} {n k : Nat} {q : Option Addr} (hq : ∀ i : Nat, i < n → byOf N' (i : Int) = if i = k then q else byOf N (i : Int)) :
    ((List.range n).map fun i : Nat => Value.pointer (byOf N (i : Int))).set k (.pointer q) = (List.range n).map fun i : Nat => Value.pointer (byOf N' (i : Int)) := by
  apply List.ext_getElem?
  intro i
  by_cases hi : i < n
  · rw [List.getElem?_set]
    by_cases hk : k = i
    · subst hk
      simp [hi, hq k hi]
    · rw [if_neg hk]
      simp [hi, hq i hi, show ¬ i = k from fun e => hk e.symm]
  · rw [List.getElem?_eq_none (by simp; omega), List.getElem?_eq_none (by simp; omega)]

theorem Lk.enter {b g n k : Nat} {N : List (Int × Nat)} {w : World} {t : Option Addr} (h : Lk w b g n N) (hk : k < n) (hm : (k : Int) ∉ N.map Prod.fst)
    (hb : w.heap[b]? = some (.cells #[.int .i64 n, .pointer t, .slice (some ⟨g, 0, none⟩) n n] 62 (0, 0))) (hch : Chain w t N.reverse) :
    Lk (((w.setCell ⟨b, 1, none⟩ (.pointer (some ⟨w.heap.size, 0, none⟩))).setCell ⟨g, k, none⟩ (.pointer (some ⟨w.heap.size, 0, none⟩))).alloc (.cells #[.int .i64 k, .pointer t, .bool true] 64)) b g n (N ++ [((k : Int), w.heap.size)]) ∧
    Kept (Own b g N) w (((w.setCell ⟨b, 1, none⟩ (.pointer (some ⟨w.heap.size, 0, none⟩))).setCell ⟨g, k, none⟩ (.pointer (some ⟨w.heap.size, 0, none⟩))).alloc (.cells #[.int .i64 k, .pointer t, .bool true] 64)) := by
  generalize hP : Value.pointer (some ⟨w.heap.size, 0, none⟩) = P
  have hbg := h.ne
  have b1 := heap_setCell_same w b 1 _ _ P hb
  have k1 : Kept (fun i => i = b ∨ i = g) w (w.setCell ⟨b, 1, none⟩ P) := (Kept.refl _ w).setCell (.inr (.inl rfl)) P
  have r1 := h.row.kept (F := fun i => i = b) ((Kept.refl (fun i => i = b) w).setCell (p := ⟨b, 1, none⟩) (.inr rfl) P) hbg.symm
  generalize hW1 : w.setCell ⟨b, 1, none⟩ P = w1 at *
  have k2 : Kept (fun i => i = g) w1 (w1.setCell ⟨g, k, none⟩ P) := (Kept.refl (fun i => i = g) w1).setCell (p := ⟨g, k, none⟩) (.inr rfl) P
  have b2 := k2.heap b1 hbg
  have r2 := r1.set k P
  have k12 : Kept (fun i => i = b ∨ i = g) w (w1.setCell ⟨g, k, none⟩ P) := k1.setCell (.inr (.inr rfl)) P
  have hsz : (w1.setCell ⟨g, k, none⟩ P).heap.size = w.heap.size := by rw [← hW1]; simp [World.setCell]
  generalize w1.setCell ⟨g, k, none⟩ P = w2 at *
  have k3 : Kept (fun i => i = b ∨ i = g) w (w2.alloc (.cells #[.int .i64 k, .pointer t, .bool true] 64)) := k12.alloc _
  have k4 : New w2 (w2.alloc (.cells #[.int .i64 k, .pointer t, .bool true] 64)) := (Kept.refl _ _).alloc _
  have hnew : (w2.alloc (.cells #[.int .i64 k, .pointer t, .bool true] 64)).heap[w.heap.size]? = some (.cells #[.int .i64 k, .pointer t, .bool true] 64 (0, 0)) := by rw [← hsz]; exact heap_alloc_new _ _
  have hown : ∀ x ∈ N, x.2 ≠ b ∧ x.2 ≠ g := by
    intro x hx
    obtain ⟨t', ht⟩ := h.nodeblk hx
    obtain ⟨c, hg⟩ := h.rowblk
    exact ⟨heap_ne ht hb (by decide), heap_ne ht hg (by decide)⟩
  refine ⟨⟨⟨some ⟨w.heap.size, 0, none⟩, ?_, ?_⟩, ?_, ?_, ?_, h.le⟩, k3.mono (fun i _ hi => hi.elim .inl (fun h => .inr (.inl h)))⟩
  · rw [k4.heap b2 (fun h => h), ← hP]; rfl
  · rw [List.reverse_append]
    refine ⟨rfl, t, hnew, hch.kept k3 ?_ ?_⟩
    · intro d c fz hd hh
      obtain ⟨c', hg⟩ := h.rowblk
      rcases hd with rfl | rfl
      · rw [hb] at hh; simp at hh
      · rw [hg] at hh; simp at hh
    · intro x hx hF
      have := hown x (by simpa using hx)
      rcases hF with h' | h'
      · exact this.1 h'
      · exact this.2 h'
  · have := r2.same k4
    rw [← hP, range_set (N' := N ++ [((k : Int), w.heap.size)]) (fun i hi => by
      rw [byOf_append hm]
      by_cases hik : i = k
      · subst hik; simp
      · rw [if_neg hik, if_neg (by omega)])] at this
    exact this
  · rw [List.map_append, List.nodup_append]
    refine ⟨h.nodup, by simp, ?_⟩
    intro a ha b' hb' 
    simp at hb'
    rintro rfl
    exact hm (hb' ▸ ha)
  · intro x hx
    rcases List.mem_append.1 hx with hx | hx
    · exact h.core x hx
    · simp at hx; subst hx; simp; omega

theorem enter_in (b g n : Nat) (N : List (Int × Nat)) (k : Nat) (w : World) (h : Lk w b g n N) (hk : k < n) (hm : (k : Int) ∉ N.map Prod.fst) :
    Calls Try.prog 32 #[.pointer (some ⟨b, 0, none⟩), .int .i64 k] w fun e w' => e = .returned (.int .i64 0) ∧ Lk w' b g n (N ++ [((k : Int), w.heap.size)]) ∧ Kept (Own b g N) w w' := by
  obtain ⟨t, hb, hch⟩ := h.blk
  have hc2 : w.cell? ⟨b, 2, none⟩ = some (.slice (some ⟨g, 0, none⟩) n n) := cell_blk hb 2
  have hc1 : w.cell? ⟨b, 1, none⟩ = some (.pointer t) := cell_blk hb 1
  have hf1 := free_blk hb 1
  have hby := h.by_ hk
  rw [byOf_none hm] at hby
  have hfg := h.row.free k
  have hbl := h.blt
  have hgl := h.rowlt
  have hbg := h.ne
  go_enter Try.func32, Try.ntmps32
  go_wp2_with (go_at_call 37; refine (is_any _ _ _ _ _ _ h true (by simp; omega)).mono ?_; rintro e w' ⟨rfl, rfl⟩)
  go_ret
  exact ⟨rfl, h.enter hk hm hb hch⟩

theorem enter_any (b g n : Nat) (N : List (Int × Nat)) (c : Int) (w : World) (h : Lk w b g n N) :
    Calls Try.prog 32 #[.pointer (some ⟨b, 0, none⟩), .int .i64 c] w fun e w' => ∃ N', e = .returned (.int .i64 (enterE n (N.map Prod.fst) c).1) ∧ N'.map Prod.fst = (enterE n (N.map Prod.fst) c).2 ∧
      Lk w' b g n N' ∧ Kept (Own b g N) w w' ∧ ∀ k, Own b g N' k → Own b g N k ∨ w.heap.size ≤ k := by
  by_cases hin : 0 ≤ c ∧ c < n
  · obtain ⟨k, rfl⟩ := Int.eq_ofNat_of_zero_le hin.1
    have hk : k < n := by omega
    by_cases hm : (k : Int) ∈ N.map Prod.fst
    · rw [enterE, if_neg (by simpa using hin), if_pos hm]
      obtain ⟨t, hb, _⟩ := h.blk
      have hc : w.cell? ⟨b, 2, none⟩ = some (.slice (some ⟨g, 0, none⟩) n n) := cell_blk hb 2
      have hby := h.by_ hk
      obtain ⟨i, p, hi⟩ := byOf_mem hm
      rw [byOf_at h.nodup hi] at hby
      go_enter Try.func32, Try.ntmps32
      go_wp2_with (go_at_call 37; refine (is_any _ _ _ _ _ _ h true (by simpa using hin)).mono ?_; rintro e w' ⟨rfl, rfl⟩)
      go_ret
      exact ⟨N, rfl, rfl, h, Kept.refl _ _, fun k hk => .inl hk⟩
    · rw [enterE, if_neg (by simpa using hin), if_neg hm]
      refine (enter_in b g n N k w h hk hm).mono ?_
      rintro e w' ⟨rfl, h', k'⟩
      refine ⟨_, rfl, by simp, h', k', ?_⟩
      rintro i (rfl | rfl | ⟨x, hx, rfl⟩)
      · exact .inl (.inl rfl)
      · exact .inl (.inr (.inl rfl))
      · rcases List.mem_append.1 hx with hx | hx
        · exact .inl (.inr (.inr ⟨x, hx, rfl⟩))
        · simp at hx; subst hx; exact .inr (Nat.le_refl _)
  · rw [enterE, if_pos hin]
    go_enter Try.func32, Try.ntmps32
    go_wp2_with (go_at_call 37; refine (is_any _ _ _ _ _ _ h false (by simpa using hin)).mono ?_; rintro e w' ⟨rfl, rfl⟩)
    go_ret
    exact ⟨N, rfl, rfl, h, Kept.refl _ _, fun k hk => .inl hk⟩

def leaveE (n : Nat) (L : List Int) (c : Int) : Int × List Int :=
  if ¬ (0 ≤ c ∧ c < n) then (1, L) else if L.head? = some c then (0, L.tail) else (161, L)

theorem Lk.leave {b g n k p : Nat} {N : List (Int × Nat)} {w : World} {t' : Option Addr} (h : Lk w b g n (((k : Int), p) :: N)) (hp : w.heap[p]? = some (.cells #[.int .i64 k, .pointer t', .bool true] 64 (0, 0))) :
    Lk (((w.setCell ⟨p, 2, none⟩ (.bool false)).setCell ⟨p, 1, none⟩ (.pointer none)).setCell ⟨g, k, none⟩ (.pointer none)) b g n N ∧
    Kept (Own b g (((k : Int), p) :: N)) w (((w.setCell ⟨p, 2, none⟩ (.bool false)).setCell ⟨p, 1, none⟩ (.pointer none)).setCell ⟨g, k, none⟩ (.pointer none)) := by
  obtain ⟨t, hb, hch⟩ := h.blk
  obtain ⟨cg, hg⟩ := h.rowblk
  have hbp : p ≠ b := heap_ne hp hb (by decide)
  have hgp : p ≠ g := heap_ne hp hg (by decide)
  have hbg := h.ne
  have k3 : Kept (fun i => i = p ∨ i = g) w (((w.setCell ⟨p, 2, none⟩ (.bool false)).setCell ⟨p, 1, none⟩ (.pointer none)).setCell ⟨g, k, none⟩ (.pointer none)) :=
    (((Kept.refl _ w).setCell (.inr (.inl rfl)) _).setCell (.inr (.inl rfl)) _).setCell (.inr (.inr rfl)) _
  have p1 := heap_setCell_same w p 2 _ _ (.bool false) hp
  have p2 := heap_setCell_same _ p 1 _ _ (.pointer none) p1
  have r2 := h.row.kept (F := fun i => i = p) (((Kept.refl (fun i => i = p) w).setCell (p := ⟨p, 2, none⟩) (.inr rfl) (.bool false)).setCell (p := ⟨p, 1, none⟩) (.inr rfl) (.pointer none)) hgp.symm
  generalize (w.setCell ⟨p, 2, none⟩ (.bool false)).setCell ⟨p, 1, none⟩ (.pointer none) = w2 at *
  have p3 := ((Kept.refl (fun i => i = g) w2).setCell (p := ⟨g, k, none⟩) (.inr rfl) (.pointer none)).heap p2 hgp
  have r3 := r2.set k (.pointer none)
  have hnd := h.nodup
  refine ⟨⟨⟨t, k3.heap hb (by rintro (h' | h'); exact hbp h'.symm; exact hbg h'), ?_⟩, ?_, ?_, fun x hx => h.core x (by simp [hx]), h.le⟩, k3.mono (fun i _ hi => ?_)⟩
  · rw [List.reverse_cons] at hch
    refine hch.leave k3 (c := k) (p := p) p3 ?_
    intro x hx hF
    obtain ⟨t'', ht⟩ := h.nodeblk (x := x) (by simp; right; simpa using hx)
    rcases hF with h' | h'
    · rw [h'] at ht
      have := heap_eq ht hp
      simp at this
      simp only [List.map_cons, List.nodup_cons] at hnd
      exact hnd.1 (List.mem_map.2 ⟨x, by simpa using hx, this.1⟩)
    · exact heap_ne ht hg (by decide) h'
  · rw [range_set (N' := N) (fun i hi => by
      rw [byOf_tail hnd]
      by_cases hik : i = k
      · subst hik; simp
      · rw [if_neg hik, if_neg (by omega)])] at r3
    exact r3
  · simp only [List.map_cons, List.nodup_cons] at hnd
    exact hnd.2
  · rcases hi with rfl | rfl
    · exact .inr (.inr ⟨_, List.mem_cons_self .., rfl⟩)
    · exact .inr (.inl rfl)

theorem leave_any (b g n : Nat) (N : List (Int × Nat)) (c : Int) (w : World) (h : Lk w b g n N) :
    Calls Try.prog 39 #[.pointer (some ⟨b, 0, none⟩), .int .i64 c] w fun e w' => ∃ N', e = .returned (.int .i64 (leaveE n (N.map Prod.fst) c).1) ∧ N'.map Prod.fst = (leaveE n (N.map Prod.fst) c).2 ∧
      Lk w' b g n N' ∧ Kept (Own b g N) w w' ∧ ∀ k, Own b g N' k → Own b g N k := by
  by_cases hin : 0 ≤ c ∧ c < n
  · obtain ⟨k, rfl⟩ := Int.eq_ofNat_of_zero_le hin.1
    have hk : k < n := by omega
    have hpr := probe_any b g n N k w h
    cases N with
    | nil =>
      rw [show probeE n (List.map Prod.fst ([] : List (Int × Nat))) k = (false, 161) by rw [probeE, if_neg (by simpa using hin)]; simp] at hpr
      rw [leaveE, if_neg (by simpa using hin), if_neg (by simp)]
      go_enter Try.func39, Try.ntmps39
      go_wp2_with (go_at_call 36; refine hpr.mono ?_; rintro e w' ⟨rfl, rfl⟩)
      go_ret
      exact ⟨[], rfl, rfl, h, Kept.refl _ _, fun k hk => hk⟩
    | cons a l =>
      obtain ⟨a, p⟩ := a
      by_cases hak : a = k
      · subst hak
        rw [show probeE n (List.map Prod.fst (((k : Int), p) :: l)) k = (true, 0) by rw [probeE, if_neg (by simpa using hin)]; simp] at hpr
        rw [leaveE, if_neg (by simpa using hin), if_pos (by simp)]
        obtain ⟨t, hb, _⟩ := h.blk
        have hc : w.cell? ⟨b, 2, none⟩ = some (.slice (some ⟨g, 0, none⟩) n n) := cell_blk hb 2
        have hby := h.by_ hk
        rw [byOf_at h.nodup (i := 0) rfl] at hby
        obtain ⟨t', hp⟩ := h.nodeblk (x := ((k : Int), p)) (by simp)
        simp only at hp
        have hf1 := free_blk hp 1
        have hf2 := free_blk hp 2
        have hc1 : w.cell? ⟨p, 1, none⟩ = some (.pointer t') := cell_blk hp 1
        have hc2 : w.cell? ⟨p, 2, none⟩ = some (.bool true) := cell_blk hp 2
        have hfg := h.row.free k
        obtain ⟨cg, hg⟩ := h.rowblk
        have hbp : p ≠ b := heap_ne hp hb (by decide)
        have hgp : p ≠ g := heap_ne hp hg (by decide)
        have hgp' : g ≠ p := hgp.symm
        have hbp' : b ≠ p := hbp.symm
        have hlv := h.leave hp
        go_enter Try.func39, Try.ntmps39
        go_wp2_with (go_at_call 36; refine hpr.mono ?_; rintro e w' ⟨rfl, rfl⟩)
        go_ret
        refine ⟨l, rfl, rfl, hlv.1, hlv.2, ?_⟩
        rintro i (rfl | rfl | ⟨x, hx, rfl⟩)
        · exact .inl rfl
        · exact .inr (.inl rfl)
        · exact .inr (.inr ⟨x, by simp [hx], rfl⟩)
      · have hne : (k : Int) ≠ a := fun e => hak e.symm
        rw [leaveE, if_neg (by simpa using hin), if_neg (by simpa using hak)]
        by_cases hm : (k : Int) ∈ List.map Prod.fst ((a, p) :: l)
        · rw [show probeE n (List.map Prod.fst ((a, p) :: l)) k = (false, 0) by rw [probeE, if_neg (by simpa using hin), if_pos hm]; simp [hak]] at hpr
          go_enter Try.func39, Try.ntmps39
          go_wp2_with (go_at_call 36; refine hpr.mono ?_; rintro e w' ⟨rfl, rfl⟩)
          go_ret
          exact ⟨_, rfl, rfl, h, Kept.refl _ _, fun k hk => hk⟩
        · rw [show probeE n (List.map Prod.fst ((a, p) :: l)) k = (false, 161) by rw [probeE, if_neg (by simpa using hin), if_neg hm]] at hpr
          go_enter Try.func39, Try.ntmps39
          go_wp2_with (go_at_call 36; refine hpr.mono ?_; rintro e w' ⟨rfl, rfl⟩)
          go_ret
          exact ⟨_, rfl, rfl, h, Kept.refl _ _, fun k hk => hk⟩
  · have hpr := probe_any b g n N c w h
    rw [show probeE n (N.map Prod.fst) c = (false, 1) by rw [probeE, if_pos hin]] at hpr
    rw [leaveE, if_pos hin]
    go_enter Try.func39, Try.ntmps39
    go_wp2_with (go_at_call 36; refine hpr.mono ?_; rintro e w' ⟨rfl, rfl⟩)
    go_ret
    exact ⟨N, rfl, rfl, h, Kept.refl _ _, fun k hk => hk⟩
end Go.Proofs.Ytjimjkfnpklhiaa

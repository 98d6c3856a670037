/- The reference's lock: the same contracts. -/
import Derived.Test.YtbnjfkfmkbijnaaLockG
set_option linter.all false
namespace Go.Proofs.Ytbnjfkfmkbijnaa
open Go.RowKit

def Rk (O : Nat → Prop) (w : World) (b n : Nat) (L : List Int) : Prop :=
  ∃ v, w.heap[b]? = some (.cells #[.int .i64 n, v] 47 (0, 0)) ∧ w.ownsRow 0 3 1 v L.length (L.map (Value.int .i64)) ∧ O b ∧ ∀ k, v.ownBlock = some k → O k
/-- Blocks of the reference's types. -/
def Rt (w : World) (k : Nat) : Prop := ∃ c T, w.heap[k]? = some (.cells c T (0, 0)) ∧ (T = 47 ∨ T = 3)

section
variable {O O' F : Nat → Prop} {w w' : World} {b n : Nat} {L : List Int}
theorem Rk.mono (h : Rk O w b n L) (hO : ∀ k, O k → O' k) : Rk O' w b n L := let ⟨v, h1, h2, h3, h4⟩ := h; ⟨v, h1, h2, hO _ h3, fun k hk => hO k (h4 k hk)⟩
theorem Rk.kept (h : Rk O w b n L) (k : Kept F w w') (hF : ∀ i, O i → ¬ F i) : Rk O w' b n L :=
  let ⟨v, h1, h2, h3, h4⟩ := h; ⟨v, k.heap h1 (hF _ h3), own_kept h2 k (fun i hi => hF i (h4 i hi)), h3, h4⟩
theorem Rk.same (h : Rk O w b n L) (k : New w w') : Rk O w' b n L := h.kept k (fun _ _ h => h)
theorem Rk.alloc (h : Rk O w b n L) (o : Obj) : Rk O (w.alloc o) b n L := h.same ((Kept.refl _ _).alloc o)
theorem Rk.typed (h : Rk O w b n L) : Rk (fun k => O k ∧ Rt w k) w b n L := let ⟨v, h1, h2, h3, h4⟩ := h; ⟨v, h1, h2, ⟨h3, _, _, h1, .inl rfl⟩, fun k hk => ⟨h4 k hk, let ⟨c, hc⟩ := own_type h2 hk; ⟨c, 3, hc, .inr rfl⟩⟩⟩
theorem Rt.not_lt {k : Nat} (h : Rt w k) : ¬ Lt w k := by
  obtain ⟨c, T, h1, rfl | rfl⟩ := h
  · exact Ytbnjfkfmkbijnaa.not_lt h1 (by decide) (by decide) (by decide)
  · exact Ytbnjfkfmkbijnaa.not_lt h1 (by decide) (by decide) (by decide)
theorem Rk.keptL (h : Rk O w b n L) (k : Kept (Fr O' w) w w') : Rk O w' b n L := (h.typed.kept k (fun i hi hF => hi.2.not_lt hF.2.1)).mono (fun _ h => h.1)
theorem Rk.sized (h : Rk O w b n L) : Rk (fun k => O k ∧ k < w.heap.size) w b n L := h.typed.mono (fun k hk => ⟨hk.1, let ⟨_, _, h1, _⟩ := hk.2; lt_of_heap h1⟩)
theorem Lock.keptR {g : Nat} (h : Lock O w b g n L) (k : Kept (fun k => O' k ∧ Rt w k) w w') : Lock O w' b g n L :=
  h.kept3 k (fun i hi => by
    obtain ⟨_, c, T, h1, rfl | rfl⟩ := hi
    · exact ⟨c, 47, h1, by decide, by decide, by decide⟩
    · exact ⟨c, 3, h1, by decide, by decide, by decide⟩)
end

theorem rnew_yes (n : Int) (w : World) (h0 : 1 ≤ n) (h1 : n ≤ 8) :
    Calls Try.prog 18 #[.int .i64 n] w fun e w' => e = .returned (.tuple #[.pointer (some ⟨w.heap.size, 0, none⟩), .int .i64 0]) ∧
      Rk (fun k => w.heap.size ≤ k) w' w.heap.size n.toNat [] ∧ New w w' := by
  obtain ⟨n, rfl⟩ := Int.eq_ofNat_of_zero_le (show 0 ≤ n by omega)
  go_enter Try.func18, Try.ntmps18
  go_wp2
  go_ret2
  exact ⟨rfl, ⟨_, heap_alloc_new _ _, ⟨by simp, .inl ⟨rfl, rfl⟩⟩, Nat.le_refl _, fun k hk => by cases hk⟩, (Kept.refl _ _).alloc _⟩

theorem rahead_any {O : Nat → Prop} (b n : Nat) (L : List Int) (x : Int) (w : World) (h : Rk O w b n L) (hL : L.length ≤ 1000000) (r : Int) (hr : pos x L = r) :
    Calls Try.prog 24 #[.pointer (some ⟨b, 0, none⟩), .int .i64 x] w fun e w' => e = .returned (.int .i64 r) ∧ w = w' := by
  subst hr
  obtain ⟨v, hb, hown, _⟩ := h
  obtain ⟨hl, ao, c, rfl, hc⟩ := (Src.of_own hown).ints
  have hcell1 : w.cell? ⟨b, 1, none⟩ = some (.slice ao L.length c) := cell_blk hb 1
  have Hc := Lib.hid hc
  clear hc hl hown
  generalize hn : L.length = len at *
  go_enter Try.func24, Try.ntmps24
  go_wp2_with fail
  go_loopw [5] (fun i wr => ∃ k : Nat, k ≤ len ∧ i = .int .i64 k ∧ Hid (∀ r, r < k → L[r]? ≠ some x) ∧ wr = w) (fun i _ => len - (intOf i).toNat)
  case atStart => exact ⟨0, by omega, rfl, fun r hr => by omega, rfl⟩
  case round =>
    obtain ⟨k, hk, rfl, Hk, rfl⟩ := hrel
    by_cases h1 : k < len
    · obtain ⟨ad, rfl, hcell⟩ := Hc.out k h1
      have hx : L[k]? = some (L.getD k 0) := by simp [List.getD, show k < L.length by omega]
      by_cases h2 : L.getD k 0 = x
      · have hp := pos_at (x := x) (l := L) (k := k) (by rw [hx, h2]) Hk.out
        rw [h2] at hcell
        go_wp2_with fail
        go_ret
        exact ⟨ret_int hp.symm, rfl⟩
      · have h3 : (L.getD k 0 == x) = false := by simpa using h2
        have h4 : L[k]? ≠ some x := by rw [hx]; simpa using h2
        clear hx
        generalize L.getD k 0 = u at *
        go_wp2_with fail
        go_roundw
        case rel => exact ⟨k + 1, by omega, by go_num, fun r hr => by
          by_cases h5 : r = k
          · subst h5; exact h4
          · exact Hk.out r (by omega), trivial⟩
        case measure => simp [intOf]; omega
    · go_wp2_with fail
      go_ret
      refine ⟨ret_int (pos_none ?_).symm, rfl⟩
      intro hm
      obtain ⟨i, hi⟩ := List.getElem?_of_mem hm
      have := (List.getElem?_eq_some_iff.1 hi).1
      exact Hk.out i (by omega) hi

theorem pos_lt_iff {x : Int} {L : List Int} : pos x L < 0 ↔ x ∉ L := by
  constructor
  · intro h hm; have := pos_mem hm; omega
  · intro h; rw [pos_none h]; decide

theorem rholder_any {O : Nat → Prop} (b n : Nat) (L : List Int) (r : Int) (x : Bool) (w : World) (h : Rk O w b n L) (hr : holderE L = (r, x)) :
    Calls Try.prog 23 #[.pointer (some ⟨b, 0, none⟩)] w fun e w' => e = .returned (.tuple #[.int .i64 r, .bool x]) ∧ w = w' := by
  obtain ⟨v, hb, hown, _⟩ := h
  cases L with
  | nil =>
    obtain ⟨hl, ao, c, rfl, hc⟩ := (Src.of_own hown).ints
    have hcell1 : w.cell? ⟨b, 1, none⟩ = some (.slice ao 0 c) := cell_blk hb 1
    simp [holderE] at hr
    obtain ⟨rfl, rfl⟩ := hr
    go_enter Try.func23, Try.ntmps23
    go_wp2
    go_ret2
    exact ⟨rfl, rfl⟩
  | cons a l =>
    simp [holderE] at hr
    obtain ⟨rfl, rfl⟩ := hr
    rcases hown.2 with ⟨rfl, h0⟩ | ⟨g, cap, cur, rfl, _⟩
    · simp at h0
    · have hcell1 : w.cell? ⟨b, 1, none⟩ = some (.slice (some ⟨g, 0, none⟩) (l.length + 1) cap) := cell_blk hb 1
      have hcell := hown.cells (g := g) rfl 0 (.int .i64 a) rfl
      rw [addr_add] at hcell
      simp only [Nat.add_zero] at hcell
      generalize l.length = m at *
      clear hown
      go_enter Try.func23, Try.ntmps23
      go_wp2
      go_ret2
      exact ⟨rfl, rfl⟩

theorem rprobe_any {O : Nat → Prop} (b n : Nat) (L : List Int) (c r : Int) (x : Bool) (w : World) (h : Rk O w b n L) (hL : L.length ≤ 1000000) (hr : probeE n L c = (x, r)) :
    Calls Try.prog 20 #[.pointer (some ⟨b, 0, none⟩), .int .i64 c] w fun e w' => e = .returned (.tuple #[.bool x, .int .i64 r]) ∧ w = w' := by
  have h' := h
  obtain ⟨v, hb, _⟩ := h'
  have hcell0 : w.cell? ⟨b, 0, none⟩ = some (.int .i64 n) := cell_blk hb 0
  by_cases hin : 0 ≤ c ∧ c < n
  · obtain ⟨h0, h1⟩ := hin
    have hnlt : ¬ (c < 0) := by omega
    have hnge : ¬ ((n : Int) ≤ c) := by omega
    obtain ⟨p, hp⟩ : ∃ p, pos c L = p := ⟨_, rfl⟩
    by_cases hm : c ∈ L
    · rw [probeE, if_neg (fun h => h ⟨h0, h1⟩), if_pos hm] at hr
      simp only [Prod.mk.injEq] at hr
      obtain ⟨rfl, rfl⟩ := hr
      have hp0 : ¬ p < 0 := by rw [← hp]; exact fun h => (pos_lt_iff.1 h) hm
      have he : decide (L.head? = some c) = decide (p = 0) := by
        rw [Bool.eq_iff_iff]; simp only [decide_eq_true_eq]; rw [← hp, pos_zero_iff]
      rw [he]
      go_enter Try.func20, Try.ntmps20
      go_wp2_with (go_at_call 24; refine (rahead_any _ _ _ _ _ h hL p hp).mono ?_; rintro e w' ⟨rfl, rfl⟩)
      go_ret2
      exact ⟨rfl, rfl⟩
    · rw [probeE, if_neg (fun h => h ⟨h0, h1⟩), if_neg hm] at hr
      simp only [Prod.mk.injEq] at hr
      obtain ⟨rfl, rfl⟩ := hr
      have hp0 : p < 0 := by rw [← hp]; exact pos_lt_iff.2 hm
      go_enter Try.func20, Try.ntmps20
      go_wp2_with (go_at_call 24; refine (rahead_any _ _ _ _ _ h hL p hp).mono ?_; rintro e w' ⟨rfl, rfl⟩)
      go_ret2
      exact ⟨rfl, rfl⟩
  · rw [probeE, if_pos hin] at hr
    simp only [Prod.mk.injEq] at hr
    obtain ⟨rfl, rfl⟩ := hr
    go_enter Try.func20, Try.ntmps20
    go_wp2_with fail
    all_goals first | (go_ret2; exact ⟨rfl, rfl⟩) | omega

theorem renter_any {O : Nat → Prop} (b n : Nat) (L L' : List Int) (c r : Int) (w : World) (h : Rk O w b n L) (hL : L.length ≤ 1000) (hr : enterE n L c = (r, L')) :
    Calls Try.prog 19 #[.pointer (some ⟨b, 0, none⟩), .int .i64 c] w fun e w' => e = .returned (.int .i64 r) ∧ Rk (fun k => O k ∨ w.heap.size ≤ k) w' b n L' ∧ Kept (fun k => O k ∧ Rt w k) w w' := by
  have h' := h
  have hty := h.typed
  obtain ⟨v, hb, hown, hOb, hOv⟩ := h'
  have hcell0 : w.cell? ⟨b, 0, none⟩ = some (.int .i64 n) := cell_blk hb 0
  by_cases hin : 0 ≤ c ∧ c < n
  · obtain ⟨h0, h1⟩ := hin
    have hnlt : ¬ (c < 0) := by omega
    have hnge : ¬ ((n : Int) ≤ c) := by omega
    obtain ⟨p, hp⟩ : ∃ p, pos c L = p := ⟨_, rfl⟩
    by_cases hm : c ∈ L
    · rw [enterE, if_neg (fun h => h ⟨h0, h1⟩), if_pos hm] at hr
      simp only [Prod.mk.injEq] at hr
      obtain ⟨rfl, rfl⟩ := hr
      have hp0 : 0 ≤ p := by rw [← hp]; exact (pos_mem hm).1
      go_enter Try.func19, Try.ntmps19
      go_wp2_with (go_at_call 24; refine (rahead_any _ _ _ _ _ h (by omega) p hp).mono ?_; rintro e w' ⟨rfl, rfl⟩)
      go_ret
      exact ⟨rfl, h.mono (fun _ h => .inl h), Kept.refl _ _⟩
    · rw [enterE, if_neg (fun h => h ⟨h0, h1⟩), if_neg hm] at hr
      simp only [Prod.mk.injEq] at hr
      obtain ⟨rfl, rfl⟩ := hr
      have hp0 : ¬ 0 ≤ p := by have := pos_lt_iff.2 hm; omega
      obtain ⟨i0, hi0, hz0, hz1, hz2⟩ := info_parts info3
      have hcell1 : w.cell? ⟨b, 1, none⟩ = some v := cell_blk hb 1
      have hbl := lt_of_heap hb
      have hvb : v.ownBlock ≠ some b := by
        intro e
        obtain ⟨cc, hcc⟩ := own_type hown e
        exact heap_ne hb hcc (by decide) rfl
      have hown2 : (w.alloc (.cells #[.int .i64 c] 3)).ownsRow 0 3 1 v L.length (L.map (Value.int .i64)) := own_same hown ((Kept.refl _ _).alloc _)
      have hb2 : (w.alloc (.cells #[.int .i64 c] 3)).heap[b]? = some (.cells #[.int .i64 n, v] 47 (0, 0)) := ((Kept.refl (fun _ => False) w).alloc _).heap hb (fun h => h)
      have hlit := Src.lit w #[.int .i64 c] 3 1 1 rfl
      go_enter Try.func19, Try.ntmps19
      go_wp2_with (first | (go_at_call 24; refine (rahead_any _ _ _ _ _ h (by omega) p hp).mono ?_; rintro e w' ⟨rfl, rfl⟩) | (at_builtin; refine wpList_append_src2 rfl _ _ 27 rfl 0 3 i0 _ 1 8 Try.underlying27 hi0 hz0 hz1 hz2 rfl (by decide) v L.length _ rfl hown2 _ 1 _ rfl hlit (by simp [Value.oneCell']) (by unfold maxLen; omega) (by omega) (by simp) ?_; intro v' w5 hown' hgr hid; have hkg := Kept.of_grown hgr; have hb5 := hkg.heap hb2 hvb; have hc5 : w5.cell? ⟨b, 1, none⟩ = some v := cell_blk hb5 1; have hf5 := free_blk hb5 1; obtain ⟨ao5, c5, hv5, _⟩ := Src.of_own hown'; rw [hv5]))
      go_ret
      rw [← hv5]
      have hst := heap_setCell_same w5 b 1 _ _ v' hb5
      have hvb' : v'.ownBlock ≠ some b := by
        intro e
        rcases hid b e with h | h
        · exact hvb h
        · simp at h; omega
      refine ⟨rfl, ⟨v', hst, ?_, .inl hOb, fun k hk => ?_⟩, ?_⟩
      · rw [List.length_append, List.map_append]
        exact own_kept hown' ((Kept.refl (fun k => k = b) w5).setCell (.inr rfl) _) (fun i hi hF => hvb' (by rw [hi, hF]))
      · rcases hid k hk with h | h
        · exact .inl (hOv k h)
        · right; simp at h; omega
      · have k1 : Kept (fun k => O k ∧ Rt w k) w w5 := ((Kept.refl (fun k => O k ∧ Rt w k) w).alloc (.cells #[.int .i64 c] 3)).trans' hkg (fun i hi hv => ⟨hOv i hv, let ⟨cc, hcc⟩ := own_type hown hv; ⟨cc, 3, hcc, .inr rfl⟩⟩)
        exact k1.setCell (.inr ⟨hOb, _, _, hb, .inl rfl⟩) _
  · rw [enterE, if_pos hin] at hr
    simp only [Prod.mk.injEq] at hr
    obtain ⟨rfl, rfl⟩ := hr
    go_enter Try.func19, Try.ntmps19
    go_wp2_with fail
    all_goals first | (go_ret; exact ⟨rfl, h.mono (fun _ h => .inl h), Kept.refl _ _⟩) | omega

theorem rleave_hit {O : Nat → Prop} (b n g cap : Nat) (l : List Int) (c : Int) (ao : Option Addr) (w : World) (h : Rk O w b n (c :: l)) (hL : l.length ≤ 1000) (h0 : 0 ≤ c) (h1 : c < n)
    (hb : w.heap[b]? = some (.cells #[.int .i64 n, .slice (some ⟨g, 0, none⟩) (l.length + 1) cap] 47 (0, 0))) (hcap : l.length + 1 ≤ cap)
    (ha : ao = if cap = 1 then some ⟨g, 0, none⟩ else some ⟨g, 1, none⟩)
    (hs : Src w (.slice ao l.length (cap - 1)) l.length 1 (l.map (Value.int .i64))) (hOb : O b) :
    Calls Try.prog 21 #[.pointer (some ⟨b, 0, none⟩), .int .i64 c] w fun e w' => e = .returned (.int .i64 0) ∧ Rk (fun k => O k ∨ w.heap.size ≤ k) w' b n l ∧ Kept (fun k => O k ∧ Rt w k) w w' := by
  have hcell0 : w.cell? ⟨b, 0, none⟩ = some (.int .i64 n) := cell_blk hb 0
  have hcell1 : w.cell? ⟨b, 1, none⟩ = some (.slice (some ⟨g, 0, none⟩) (l.length + 1) cap) := cell_blk hb 1
  have hnlt : ¬ (c < 0) := by omega
  have hnge : ¬ ((n : Int) ≤ c) := by omega
  have hp : pos c (c :: l) = 0 := by simp [pos]
  have hbl := lt_of_heap hb
  have hLL : (c :: l).length ≤ 1000000 := by simp; omega
  obtain ⟨i0, hi0, hz0, hz1, hz2⟩ := info_parts info3
  have hb2 : (w.alloc (.cells #[] 3)).heap[b]? = some (.cells #[.int .i64 n, .slice (some ⟨g, 0, none⟩) (l.length + 1) cap] 47 (0, 0)) := ((Kept.refl (fun _ => False) w).alloc _).heap hb (fun h => h)
  have hs2 := hs.alloc (.cells #[] 3)
  generalize hml : l.length = m at *
  have Hml := Lib.hid hml
  clear hml
  by_cases hc1 : cap = 1
  · subst hc1
    simp only [if_true] at ha
    subst ha
    obtain rfl : m = 0 := by omega
    go_enter Try.func21, Try.ntmps21
    go_wp2_with (first | (go_at_call 24; refine (rahead_any _ _ _ _ _ h hLL 0 hp).mono ?_; rintro e w' ⟨rfl, rfl⟩) | (at_builtin; refine wpList_append_src2 rfl _ _ 27 rfl w.heap.size 3 i0 _ 1 8 Try.underlying27 hi0 hz0 hz1 hz2 rfl (by decide) _ 0 _ rfl (World.ownsRow_made w #[] 0 (Nat.le_refl _) (by unfold maxLen; omega) rfl) _ 0 _ rfl hs2 (ints_oneCell _ _) (by unfold maxLen; omega) (by omega) (by simp) ?_; intro v' w5 hown' hgr hid; have hkg := Kept.of_grown hgr; have hb5 := hkg.heap hb2 (fun e => by have h9 : w.heap.size = b := Option.some.inj e; omega); have hc5 : w5.cell? ⟨b, 1, none⟩ = some (.slice (some ⟨g, 0, none⟩) (0 + 1) 1) := cell_blk hb5 1; have hf5 := free_blk hb5 1; obtain ⟨ao5, c5, hv5, _⟩ := Src.of_own hown'; rw [hv5]))
    go_ret
    rw [← hv5]
    have hst := heap_setCell_same w5 b 1 _ _ v' hb5
    have hvb := fun k (hk : v'.ownBlock = some k) => own_block hown' hk
    refine ⟨rfl, ⟨v', hst, ?_, .inl hOb, fun k hk => .inr (hvb k hk)⟩, ?_⟩
    · rw [Hml.out]
      simpa using own_mono (own_kept hown' ((Kept.refl (fun k => k = b) w5).setCell (p := ⟨b, 1, none⟩) (.inr rfl) _) (fun i hi hF => by have := hvb i hi; omega)) (Nat.zero_le _)
    · have k1 : Kept (fun k => O k ∧ Rt w k) w w5 := ((Kept.refl (fun k => O k ∧ Rt w k) w).alloc (.cells #[] 3)).trans' hkg (fun i hi hv => by have h9 : w.heap.size = i := Option.some.inj hv; omega)
      exact k1.setCell (.inr ⟨hOb, _, _, hb, .inl rfl⟩) _
  · rw [if_neg hc1] at ha
    subst ha
    go_enter Try.func21, Try.ntmps21
    go_wp2_with (first | (go_at_call 24; refine (rahead_any _ _ _ _ _ h hLL 0 hp).mono ?_; rintro e w' ⟨rfl, rfl⟩) | (at_builtin; refine wpList_append_src2 rfl _ _ 27 rfl w.heap.size 3 i0 _ 1 8 Try.underlying27 hi0 hz0 hz1 hz2 rfl (by decide) _ 0 _ rfl (World.ownsRow_made w #[] 0 (Nat.le_refl _) (by unfold maxLen; omega) rfl) _ m _ rfl hs2 (ints_oneCell _ _) (by unfold maxLen; omega) (by omega) (by simp) ?_; intro v' w5 hown' hgr hid; have hkg := Kept.of_grown hgr; have hb5 := hkg.heap hb2 (fun e => by have h9 : w.heap.size = b := Option.some.inj e; omega); have hc5 : w5.cell? ⟨b, 1, none⟩ = some (.slice (some ⟨g, 0, none⟩) (m + 1) cap) := cell_blk hb5 1; have hf5 := free_blk hb5 1; obtain ⟨ao5, c5, hv5, _⟩ := Src.of_own hown'; rw [hv5]))
    go_ret
    rw [Nat.zero_add] at hv5
    rw [← hv5]
    have hst := heap_setCell_same w5 b 1 _ _ v' hb5
    have hvb := fun k (hk : v'.ownBlock = some k) => own_block hown' hk
    refine ⟨rfl, ⟨v', hst, ?_, .inl hOb, fun k hk => .inr (hvb k hk)⟩, ?_⟩
    · rw [Hml.out]
      simpa using own_mono (own_kept hown' ((Kept.refl (fun k => k = b) w5).setCell (p := ⟨b, 1, none⟩) (.inr rfl) _) (fun i hi hF => by have := hvb i hi; omega)) (Nat.zero_le _)
    · have k1 : Kept (fun k => O k ∧ Rt w k) w w5 := ((Kept.refl (fun k => O k ∧ Rt w k) w).alloc (.cells #[] 3)).trans' hkg (fun i hi hv => by have h9 : w.heap.size = i := Option.some.inj hv; omega)
      exact k1.setCell (.inr ⟨hOb, _, _, hb, .inl rfl⟩) _

theorem rleave_any {O : Nat → Prop} (b n : Nat) (L L' : List Int) (c r : Int) (w : World) (h : Rk O w b n L) (hL : L.length ≤ 1000) (hr : leaveE n L c = (r, L')) :
    Calls Try.prog 21 #[.pointer (some ⟨b, 0, none⟩), .int .i64 c] w fun e w' => e = .returned (.int .i64 r) ∧ Rk (fun k => O k ∨ w.heap.size ≤ k) w' b n L' ∧ Kept (fun k => O k ∧ Rt w k) w w' := by
  have h' := h
  obtain ⟨v, hb, hown, hOb, hOv⟩ := h'
  have hcell0 : w.cell? ⟨b, 0, none⟩ = some (.int .i64 n) := cell_blk hb 0
  by_cases hin : 0 ≤ c ∧ c < n
  · obtain ⟨h0, h1⟩ := hin
    by_cases hhd : L.head? = some c
    · rw [leaveE, if_neg (fun h => h ⟨h0, h1⟩), if_pos hhd] at hr
      simp only [Prod.mk.injEq] at hr
      obtain ⟨rfl, rfl⟩ := hr
      obtain ⟨l, rfl⟩ : ∃ l, L = c :: l := by
        cases L with
        | nil => simp at hhd
        | cons a l => simp at hhd; subst hhd; exact ⟨l, rfl⟩
      simp only [List.length_cons] at hL
      rcases hown.2 with ⟨rfl, h9⟩ | ⟨g, cap, cur, rfl, _, _, hnc, _⟩
      · simp at h9
      · refine rleave_hit b n g cap l c _ w h (by omega) h0 h1 hb hnc rfl ?_ hOb
        refine ⟨_, _, rfl, by split <;> simp, by simp, ?_⟩
        intro j u hj
        have hjl : j < l.length := by have := (List.getElem?_eq_some_iff.1 hj).1; simpa using this
        refine ⟨⟨g, 1, none⟩, ?_, ?_⟩
        · simp at hnc
          rw [if_neg (by omega)]
        · have := hown.cells (g := g) rfl (j + 1) u (by simpa using hj)
          rw [addr_add] at this ⊢
          rw [show 1 + j = 0 + (j + 1) by omega]
          exact this
    · rw [leaveE, if_neg (fun h => h ⟨h0, h1⟩), if_neg hhd] at hr
      simp only [Prod.mk.injEq] at hr
      obtain ⟨rfl, rfl⟩ := hr
      have hnlt : ¬ (c < 0) := by omega
      have hnge : ¬ ((n : Int) ≤ c) := by omega
      obtain ⟨p, hp⟩ : ∃ p, pos c L = p := ⟨_, rfl⟩
      have hp0 : (p == 0) = false := by
        have : p ≠ 0 := by rw [← hp]; exact fun h => hhd (pos_zero_iff.1 h)
        simpa using this
      go_enter Try.func21, Try.ntmps21
      go_wp2_with (go_at_call 24; refine (rahead_any _ _ _ _ _ h (by omega) p hp).mono ?_; rintro e w' ⟨rfl, rfl⟩)
      go_ret
      exact ⟨rfl, h.mono (fun _ h => .inl h), Kept.refl _ _⟩
  · rw [leaveE, if_pos hin] at hr
    simp only [Prod.mk.injEq] at hr
    obtain ⟨rfl, rfl⟩ := hr
    go_enter Try.func21, Try.ntmps21
    go_wp2_with fail
    all_goals first | (go_ret; exact ⟨rfl, h.mono (fun _ h => .inl h), Kept.refl _ _⟩) | omega
end Go.Proofs.Ytbnjfkfmkbijnaa

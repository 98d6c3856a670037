/- The reference's lines: the same contracts as package irq's; both sides' contracts for every index. -/
import Derived.Test.YtcblncdfppkhcaaLineB
set_option linter.all false
namespace Go.Proofs.Ytcblncdfppkhcaa
open Go.RowKit

theorem is_any (b g cap : Nat) (L : List Ln) (n : Int) (w : World) (h : LR w b g cap L) (ha : n ≤ 9223372036854775807) (r : Bool) (hr : decide (0 ≤ n ∧ n < L.length) = r) :
    Calls Try.prog 24 #[.pointer (some ⟨b, 0, none⟩), .int .i64 n] w fun e w' => e = .returned (.bool r) ∧ w = w' := by
  have hc := h.cell0
  have hl := h.le
  subst hr
  go_enter Try.func24, Try.ntmps24
  go_wp2
  all_goals go_ret
  all_goals refine ⟨ret_bool ?_, rfl⟩
  all_goals rw [Bool.eq_iff_iff]
  all_goals simp
  all_goals omega

theorem rnew_yes (n : Int) (w : World) (h0 : 1 ≤ n) (h1 : n ≤ 64) :
    Calls Try.prog 16 #[.int .i64 n] w fun e w' => e = .returned (.tuple #[.pointer (some ⟨w.heap.size + 1, 0, none⟩), .int .i64 0]) ∧
      LR w' (w.heap.size + 1) w.heap.size n.toNat (List.replicate n.toNat .no) ∧ New w w' := by
  obtain ⟨n, rfl⟩ := Int.eq_ofNat_of_zero_le (show 0 ≤ n by omega)
  obtain ⟨i0, hi, hz0, hz1, hz2⟩ := info_parts info58
  have hmk := run_make (P := Try.prog) w 46 58 i0 _ Try.underlying46 hi hz0 .i64 .i64 n n (by omega) (by omega) (by rw [hz2]; omega) (by omega)
  rw [hz1] at hmk
  go_enter Try.func16, Try.ntmps16
  go_wp2
  go_ret2
  exact ⟨rfl, by simpa [encR, St.bound, St.isOpen, St.isAgain] using new_lns (T := 48) (E := 58) (enc := encR) (s := 5) (fun _ => rfl) n w (by omega), ((Kept.refl _ _).alloc _).alloc _⟩

/-- A whole line, cell by cell. -/
theorem Lns.five {w : World} {b g cap : Nat} {L : List Ln} (h : LR w b g cap L) {i : Nat} {x y : Ln} (hx : L[i]? = some x) {u v z p q : Value} (hy : encR y = [u, v, z, p, q]) :
    LR (((((w.setCell ⟨g, i * 5, none⟩ u).setCell ⟨g, i * 5 + 1, none⟩ v).setCell ⟨g, i * 5 + 2, none⟩ z).setCell ⟨g, i * 5 + 3, none⟩ p).setCell ⟨g, i * 5 + 4, none⟩ q) b g cap (L.set i y) := by
  have hk : Kept (fun k => k = g) w (((((w.setCell ⟨g, i * 5, none⟩ u).setCell ⟨g, i * 5 + 1, none⟩ v).setCell ⟨g, i * 5 + 2, none⟩ z).setCell ⟨g, i * 5 + 3, none⟩ p).setCell ⟨g, i * 5 + 4, none⟩ q) :=
    (Kept.refl (fun k => k = g) w).setCell (.inr rfl) _ |>.setCell (.inr rfl) _ |>.setCell (.inr rfl) _ |>.setCell (.inr rfl) _ |>.setCell (.inr rfl) _
  refine ⟨h.len, ?_, ?_, h.ne, by simpa using h.le, by simpa using h.lec⟩
  · rw [List.length_set]; exact hk.heap h.blk h.ne
  · rw [← enc_put h.len hx]
    have := ((((h.row.set (i * 5) u).set (i * 5 + 1) v).set (i * 5 + 2) z).set (i * 5 + 3) p).set (i * 5 + 4) q
    simpa [hy, putAll] using this

theorem rbind_in (b g cap : Nat) (L : List Ln) (n : Nat) (x : Ln) (note badge : Int) (w : World) (h : LR w b g cap L) (hx : L[n]? = some x) (hst : x.st = .free) (hnote : 0 ≤ note) :
    Calls Try.prog 17 #[.pointer (some ⟨b, 0, none⟩), .int .i64 n, .int .i64 note, .int .u64 badge] w fun e w' => e = .returned (.int .i64 0) ∧ LR w' b g cap (L.set n ⟨.opn, note, badge⟩) ∧ Kept (fun k => k = g) w w' := by
  have hlt := lt_of_some hx
  have hl := h.le
  have hlc := h.lec
  have hgl := h.ltg
  have hbl := h.ltb
  have hc := h.cell0
  have h0 := h.cell (j := 0) hx (by decide)
  have h1 := h.cell (j := 1) hx (by decide)
  have h2 := h.cell (j := 2) hx (by decide)
  have h3 := h.cell (j := 3) hx (by decide)
  have h4 := h.cell (j := 4) hx (by decide)
  have f0 := h.free (n * 5 + 0)
  have f1 := h.free (n * 5 + 1)
  have f2 := h.free (n * 5 + 2)
  have f3 := h.free (n * 5 + 3)
  have f4 := h.free (n * 5 + 4)
  simp [encR, hst, St.bound, St.isOpen, St.isAgain] at h0 h1 h2 h3 h4 f0
  go_enter Try.func17, Try.ntmps17
  go_wp2_with (go_at_call 24; refine (is_any _ _ _ _ _ _ h (by omega) true (by simp; omega)).mono ?_; rintro e w' ⟨rfl, rfl⟩)
  go_ret
  exact ⟨rfl, h.five hx (y := ⟨.opn, note, badge⟩) rfl, ((Kept.refl (fun k => k = g) w).setCell (.inr rfl) _ |>.setCell (.inr rfl) _ |>.setCell (.inr rfl) _ |>.setCell (.inr rfl) _ |>.setCell (.inr rfl) _)⟩

theorem rbind_busy (b g cap : Nat) (L : List Ln) (n : Nat) (x : Ln) (note badge : Int) (w : World) (h : LR w b g cap L) (hx : L[n]? = some x) (hst : x.st ≠ .free) (hnote : 0 ≤ note) :
    Calls Try.prog 17 #[.pointer (some ⟨b, 0, none⟩), .int .i64 n, .int .i64 note, .int .u64 badge] w fun e w' => e = .returned (.int .i64 131) ∧ w = w' := by
  have hlt := lt_of_some hx
  have hl := h.le
  have hlc := h.lec
  have hgl := h.ltg
  have hbl := h.ltb
  have hc := h.cell0
  have h0 := h.cell (j := 0) hx (by decide)
  have h1 := h.cell (j := 1) hx (by decide)
  have h2 := h.cell (j := 2) hx (by decide)
  have h3 := h.cell (j := 3) hx (by decide)
  have h4 := h.cell (j := 4) hx (by decide)
  have f0 := h.free (n * 5 + 0)
  have f1 := h.free (n * 5 + 1)
  have f2 := h.free (n * 5 + 2)
  have f3 := h.free (n * 5 + 3)
  have f4 := h.free (n * 5 + 4)
  have hb : x.st.bound = true := by cases hs : x.st <;> simp_all [St.bound]
  simp [encR, hb] at h0 h1 h2 h3 h4 f0
  go_enter Try.func17, Try.ntmps17
  go_wp2_with (go_at_call 24; refine (is_any _ _ _ _ _ _ h (by omega) true (by simp; omega)).mono ?_; rintro e w' ⟨rfl, rfl⟩)
  go_ret
  exact ⟨rfl, rfl⟩

theorem rbind_neg (b g cap : Nat) (L : List Ln) (n : Nat) (note badge : Int) (w : World) (h : LR w b g cap L) (hn : n < L.length) (hnote : note < 0) :
    Calls Try.prog 17 #[.pointer (some ⟨b, 0, none⟩), .int .i64 n, .int .i64 note, .int .u64 badge] w fun e w' => e = .returned (.int .i64 1) ∧ w = w' := by
  have hl := h.le
  go_enter Try.func17, Try.ntmps17
  go_wp2_with (go_at_call 24; refine (is_any _ _ _ _ _ _ h (by omega) true (by simp; omega)).mono ?_; rintro e w' ⟨rfl, rfl⟩)
  go_ret
  exact ⟨rfl, rfl⟩

theorem rbind_out (b g cap : Nat) (L : List Ln) (n note badge : Int) (w : World) (h : LR w b g cap L) (hn : n < 0 ∨ L.length ≤ n) (ha : n ≤ 9223372036854775807) :
    Calls Try.prog 17 #[.pointer (some ⟨b, 0, none⟩), .int .i64 n, .int .i64 note, .int .u64 badge] w fun e w' => e = .returned (.int .i64 130) ∧ w = w' := by
  go_enter Try.func17, Try.ntmps17
  go_wp2_with (go_at_call 24; refine (is_any _ _ _ _ _ _ h (by omega) false (by simp; omega)).mono ?_; rintro e w' ⟨rfl, rfl⟩)
  go_ret
  exact ⟨rfl, rfl⟩

theorem rfree_in (b g cap : Nat) (L : List Ln) (n : Nat) (x : Ln) (w : World) (h : LR w b g cap L) (hx : L[n]? = some x) (hst : x.st ≠ .free) :
    Calls Try.prog 18 #[.pointer (some ⟨b, 0, none⟩), .int .i64 n] w fun e w' => e = .returned (.int .i64 0) ∧ LR w' b g cap (L.set n .no) ∧ Kept (fun k => k = g) w w' := by
  have hlt := lt_of_some hx
  have hl := h.le
  have hlc := h.lec
  have hgl := h.ltg
  have hbl := h.ltb
  have hc := h.cell0
  have h0 := h.cell (j := 0) hx (by decide)
  have h1 := h.cell (j := 1) hx (by decide)
  have h2 := h.cell (j := 2) hx (by decide)
  have h3 := h.cell (j := 3) hx (by decide)
  have h4 := h.cell (j := 4) hx (by decide)
  have f0 := h.free (n * 5 + 0)
  have f1 := h.free (n * 5 + 1)
  have f2 := h.free (n * 5 + 2)
  have f3 := h.free (n * 5 + 3)
  have f4 := h.free (n * 5 + 4)
  have hb : x.st.bound = true := by cases hs : x.st <;> simp_all [St.bound]
  simp [encR, hb] at h0 h1 h2 h3 h4 f0
  go_enter Try.func18, Try.ntmps18
  go_wp2_with (go_at_call 24; refine (is_any _ _ _ _ _ _ h (by omega) true (by simp; omega)).mono ?_; rintro e w' ⟨rfl, rfl⟩)
  go_ret
  exact ⟨rfl, h.five hx (y := .no) rfl, ((Kept.refl (fun k => k = g) w).setCell (.inr rfl) _ |>.setCell (.inr rfl) _ |>.setCell (.inr rfl) _ |>.setCell (.inr rfl) _ |>.setCell (.inr rfl) _)⟩

theorem rfree_busy (b g cap : Nat) (L : List Ln) (n : Nat) (x : Ln) (w : World) (h : LR w b g cap L) (hx : L[n]? = some x) (hst : x.st = .free) :
    Calls Try.prog 18 #[.pointer (some ⟨b, 0, none⟩), .int .i64 n] w fun e w' => e = .returned (.int .i64 131) ∧ w = w' := by
  have hlt := lt_of_some hx
  have hl := h.le
  have hlc := h.lec
  have hgl := h.ltg
  have hbl := h.ltb
  have hc := h.cell0
  have h0 := h.cell (j := 0) hx (by decide)
  have h1 := h.cell (j := 1) hx (by decide)
  have h2 := h.cell (j := 2) hx (by decide)
  have h3 := h.cell (j := 3) hx (by decide)
  have h4 := h.cell (j := 4) hx (by decide)
  have f0 := h.free (n * 5 + 0)
  have f1 := h.free (n * 5 + 1)
  have f2 := h.free (n * 5 + 2)
  have f3 := h.free (n * 5 + 3)
  have f4 := h.free (n * 5 + 4)
  simp [encR, hst, St.bound, St.isOpen, St.isAgain] at h0 h1 h2 h3 h4 f0
  go_enter Try.func18, Try.ntmps18
  go_wp2_with (go_at_call 24; refine (is_any _ _ _ _ _ _ h (by omega) true (by simp; omega)).mono ?_; rintro e w' ⟨rfl, rfl⟩)
  go_ret
  exact ⟨rfl, rfl⟩

theorem rfree_out (b g cap : Nat) (L : List Ln) (n : Int) (w : World) (h : LR w b g cap L) (hn : n < 0 ∨ L.length ≤ n) (ha : n ≤ 9223372036854775807) :
    Calls Try.prog 18 #[.pointer (some ⟨b, 0, none⟩), .int .i64 n] w fun e w' => e = .returned (.int .i64 130) ∧ w = w' := by
  go_enter Try.func18, Try.ntmps18
  go_wp2_with (go_at_call 24; refine (is_any _ _ _ _ _ _ h (by omega) false (by simp; omega)).mono ?_; rintro e w' ⟨rfl, rfl⟩)
  go_ret
  exact ⟨rfl, rfl⟩

theorem ropen_out (b g cap : Nat) (L : List Ln) (n : Int) (w : World) (h : LR w b g cap L) (hn : n < 0 ∨ L.length ≤ n) (ha : n ≤ 9223372036854775807) :
    Calls Try.prog 22 #[.pointer (some ⟨b, 0, none⟩), .int .i64 n] w fun e w' => e = .returned (.tuple #[.bool false, .bool false]) ∧ New w w' := by
  go_enter Try.func22, Try.ntmps22
  go_wp2_with (go_at_call 24; refine (is_any _ _ _ _ _ _ h (by omega) false (by simp; omega)).mono ?_; rintro e w' ⟨rfl, rfl⟩)
  go_ret2
  exact ⟨rfl, Kept.refl _ _⟩

set_option maxRecDepth 100000 in
theorem ropen_in (b g cap : Nat) (L : List Ln) (n : Nat) (x : Ln) (w : World) (h : LR w b g cap L) (hx : L[n]? = some x) :
    Calls Try.prog 22 #[.pointer (some ⟨b, 0, none⟩), .int .i64 n] w fun e w' => e = .returned (.tuple #[.bool x.st.isOpen, .bool x.st.isAgain]) ∧ New w w' := by
  have hlt := lt_of_some hx
  have hl := h.le
  have hlc := h.lec
  have hgl := h.ltg
  have hbl := h.ltb
  have hc := h.cell0
  have h0 := h.cell (j := 0) hx (by decide)
  have h1 := h.cell (j := 1) hx (by decide)
  have h2 := h.cell (j := 2) hx (by decide)
  have h3 := h.cell (j := 3) hx (by decide)
  have h4 := h.cell (j := 4) hx (by decide)
  have f0 := h.free (n * 5 + 0)
  have f1 := h.free (n * 5 + 1)
  have f2 := h.free (n * 5 + 2)
  have f3 := h.free (n * 5 + 3)
  have f4 := h.free (n * 5 + 4)
  simp [encR] at h0 h1 h2 h3 h4 f0
  generalize x.st.isOpen = o at *
  generalize x.st.isAgain = a at *
  go_enter Try.func22, Try.ntmps22
  go_wp2_with (first | (go_at_call 24; refine (is_any _ _ _ _ _ _ h (by omega) true (by simp; omega)).mono ?_; rintro e w' ⟨rfl, rfl⟩) | go_quiet (fail))
  go_ret2
  exact ⟨rfl, (Kept.refl _ _).drewN _⟩

theorem rraise_out (b g cap : Nat) (L : List Ln) (n : Int) (w : World) (h : LR w b g cap L) (hn : n < 0 ∨ L.length ≤ n) (ha : n ≤ 9223372036854775807) :
    Calls Try.prog 19 #[.pointer (some ⟨b, 0, none⟩), .int .i64 n] w fun e w' => e = .returned (.tuple #[.int .i64 0, .int .u64 0, .bool false, .int .i64 130]) ∧ w = w' := by
  go_enter Try.func19, Try.ntmps19
  go_wp2_with (go_at_call 24; refine (is_any _ _ _ _ _ _ h (by omega) false (by simp; omega)).mono ?_; rintro e w' ⟨rfl, rfl⟩)
  (try simp only [Exit.inBlock, Exit.then])
  refine bodyPost_ret (results_tmp4 rfl _ _ _) rfl ?_
  exact ⟨rfl, rfl⟩

set_option maxRecDepth 100000 in
set_option maxHeartbeats 1000000 in
theorem rraise_in (b g cap : Nat) (L : List Ln) (n : Nat) (x y : Ln) (a v : Int) (t : Bool) (w : World) (h : LR w b g cap L) (hx : L[n]? = some x) (hr : raise1 x = (a, v, t, y)) :
    Calls Try.prog 19 #[.pointer (some ⟨b, 0, none⟩), .int .i64 n] w fun e w' => e = .returned (.tuple #[.int .i64 a, .int .u64 v, .bool t, .int .i64 0]) ∧ LR w' b g cap (L.set n y) ∧ Kept (fun k => k = g) w w' := by
  have hlt := lt_of_some hx
  have hl := h.le
  have hlc := h.lec
  have hgl := h.ltg
  have hbl := h.ltb
  have hc := h.cell0
  have h0 := h.cell (j := 0) hx (by decide)
  have h1 := h.cell (j := 1) hx (by decide)
  have h2 := h.cell (j := 2) hx (by decide)
  have h3 := h.cell (j := 3) hx (by decide)
  have h4 := h.cell (j := 4) hx (by decide)
  have f0 := h.free (n * 5 + 0)
  have f1 := h.free (n * 5 + 1)
  have f2 := h.free (n * 5 + 2)
  have f3 := h.free (n * 5 + 3)
  have f4 := h.free (n * 5 + 4)
  obtain ⟨st, note, badge⟩ := x
  cases st
  case free =>
    simp only [raise1, Prod.mk.injEq] at hr
    obtain ⟨rfl, rfl, rfl, rfl⟩ := hr
    simp [encR, St.bound, St.isOpen, St.isAgain] at h0 h1 h2 h3 h4 f0
    have hno : ∀ o, LR (w.alloc o) b g cap (L.set n ⟨.free, note, badge⟩) := by rw [List.set_getElem?_self hx]; exact fun o => h.alloc o
    go_enter Try.func19, Try.ntmps19
    go_wp2_with (first | (go_at_call 24; refine (is_any _ _ _ _ _ _ h (by omega) true (by simp; omega)).mono ?_; rintro e w' ⟨rfl, rfl⟩) | go_quiet (fail))
    (try simp only [Exit.inBlock, Exit.then])
    refine bodyPost_ret (results_tmp4 rfl _ _ _) rfl ?_
    exact ⟨rfl, hno _, (Kept.refl _ _).alloc _⟩
  case opn =>
    simp only [raise1, Prod.mk.injEq] at hr
    obtain ⟨rfl, rfl, rfl, rfl⟩ := hr
    simp [encR, St.bound, St.isOpen, St.isAgain] at h0 h1 h2 h3 h4 f0
    have hset := fun v => h.set (j := 3) (y := ⟨.shut, note, badge⟩) (v := v) hx (by decide)
    go_enter Try.func19, Try.ntmps19
    go_wp2_with (first | (go_at_call 24; refine (is_any _ _ _ _ _ _ h (by omega) true (by simp; omega)).mono ?_; rintro e w' ⟨rfl, rfl⟩) | go_quiet (fail))
    (try simp only [Exit.inBlock, Exit.then])
    refine bodyPost_ret (results_tmp4 rfl _ _ _) rfl ?_
    exact ⟨rfl, ((hset _ rfl).alloc _).drewN _, (((Kept.refl (fun k => k = g) w).setCell (.inr rfl) _).alloc _).drewN _⟩
  case shut =>
    simp only [raise1, Prod.mk.injEq] at hr
    obtain ⟨rfl, rfl, rfl, rfl⟩ := hr
    simp [encR, St.bound, St.isOpen, St.isAgain] at h0 h1 h2 h3 h4 f0
    have hset := fun v => h.set (j := 4) (y := ⟨.again, note, badge⟩) (v := v) hx (by decide)
    go_enter Try.func19, Try.ntmps19
    go_wp2_with (first | (go_at_call 24; refine (is_any _ _ _ _ _ _ h (by omega) true (by simp; omega)).mono ?_; rintro e w' ⟨rfl, rfl⟩) | go_quiet (fail))
    (try simp only [Exit.inBlock, Exit.then])
    refine bodyPost_ret (results_tmp4 rfl _ _ _) rfl ?_
    exact ⟨rfl, (hset _ rfl).alloc _, ((Kept.refl (fun k => k = g) w).setCell (.inr rfl) _).alloc _⟩
  case again =>
    simp only [raise1, Prod.mk.injEq] at hr
    obtain ⟨rfl, rfl, rfl, rfl⟩ := hr
    simp [encR, St.bound, St.isOpen, St.isAgain] at h0 h1 h2 h3 h4 f0
    have hset := fun v => h.set (j := 4) (y := ⟨.again, note, badge⟩) (v := v) hx (by decide)
    go_enter Try.func19, Try.ntmps19
    go_wp2_with (first | (go_at_call 24; refine (is_any _ _ _ _ _ _ h (by omega) true (by simp; omega)).mono ?_; rintro e w' ⟨rfl, rfl⟩) | go_quiet (fail))
    (try simp only [Exit.inBlock, Exit.then])
    refine bodyPost_ret (results_tmp4 rfl _ _ _) rfl ?_
    exact ⟨rfl, (hset _ rfl).alloc _, ((Kept.refl (fun k => k = g) w).setCell (.inr rfl) _).alloc _⟩

theorem rack_out (b g cap : Nat) (L : List Ln) (n : Int) (w : World) (h : LR w b g cap L) (hn : n < 0 ∨ L.length ≤ n) (ha : n ≤ 9223372036854775807) :
    Calls Try.prog 20 #[.pointer (some ⟨b, 0, none⟩), .int .i64 n] w fun e w' => e = .returned (.tuple #[.int .i64 0, .int .u64 0, .bool false, .int .i64 130]) ∧ w = w' := by
  go_enter Try.func20, Try.ntmps20
  go_wp2_with (go_at_call 24; refine (is_any _ _ _ _ _ _ h (by omega) false (by simp; omega)).mono ?_; rintro e w' ⟨rfl, rfl⟩)
  (try simp only [Exit.inBlock, Exit.then])
  refine bodyPost_ret (results_tmp4 rfl _ _ _) rfl ?_
  exact ⟨rfl, rfl⟩

set_option maxRecDepth 100000 in
set_option maxHeartbeats 1000000 in
theorem rack_in (b g cap : Nat) (L : List Ln) (n : Nat) (x y : Ln) (a v : Int) (t : Bool) (w : World) (h : LR w b g cap L) (hx : L[n]? = some x) (hr : ack1 x = (a, v, t, y)) :
    Calls Try.prog 20 #[.pointer (some ⟨b, 0, none⟩), .int .i64 n] w fun e w' => e = .returned (.tuple #[.int .i64 a, .int .u64 v, .bool t, .int .i64 0]) ∧ LR w' b g cap (L.set n y) ∧ Kept (fun k => k = g) w w' := by
  have hlt := lt_of_some hx
  have hl := h.le
  have hlc := h.lec
  have hgl := h.ltg
  have hbl := h.ltb
  have hc := h.cell0
  have h0 := h.cell (j := 0) hx (by decide)
  have h1 := h.cell (j := 1) hx (by decide)
  have h2 := h.cell (j := 2) hx (by decide)
  have h3 := h.cell (j := 3) hx (by decide)
  have h4 := h.cell (j := 4) hx (by decide)
  have f0 := h.free (n * 5 + 0)
  have f1 := h.free (n * 5 + 1)
  have f2 := h.free (n * 5 + 2)
  have f3 := h.free (n * 5 + 3)
  have f4 := h.free (n * 5 + 4)
  obtain ⟨st, note, badge⟩ := x
  cases st
  case free =>
    simp only [ack1, Prod.mk.injEq] at hr
    obtain ⟨rfl, rfl, rfl, rfl⟩ := hr
    simp [encR, St.bound, St.isOpen, St.isAgain] at h0 h1 h2 h3 h4 f0
    have hno : ∀ o, LR (w.alloc o) b g cap (L.set n ⟨.free, note, badge⟩) := by rw [List.set_getElem?_self hx]; exact fun o => h.alloc o
    go_enter Try.func20, Try.ntmps20
    go_wp2_with (first | (go_at_call 24; refine (is_any _ _ _ _ _ _ h (by omega) true (by simp; omega)).mono ?_; rintro e w' ⟨rfl, rfl⟩) | go_quiet (fail))
    (try simp only [Exit.inBlock, Exit.then])
    refine bodyPost_ret (results_tmp4 rfl _ _ _) rfl ?_
    exact ⟨rfl, hno _, (Kept.refl _ _).alloc _⟩
  case opn =>
    simp only [ack1, Prod.mk.injEq] at hr
    obtain ⟨rfl, rfl, rfl, rfl⟩ := hr
    simp [encR, St.bound, St.isOpen, St.isAgain] at h0 h1 h2 h3 h4 f0
    have hno : ∀ o, LR (w.alloc o) b g cap (L.set n ⟨.opn, note, badge⟩) := by rw [List.set_getElem?_self hx]; exact fun o => h.alloc o
    go_enter Try.func20, Try.ntmps20
    go_wp2_with (first | (go_at_call 24; refine (is_any _ _ _ _ _ _ h (by omega) true (by simp; omega)).mono ?_; rintro e w' ⟨rfl, rfl⟩) | go_quiet (fail))
    (try simp only [Exit.inBlock, Exit.then])
    refine bodyPost_ret (results_tmp4 rfl _ _ _) rfl ?_
    exact ⟨rfl, hno _, (Kept.refl _ _).alloc _⟩
  case shut =>
    simp only [ack1, Prod.mk.injEq] at hr
    obtain ⟨rfl, rfl, rfl, rfl⟩ := hr
    simp [encR, St.bound, St.isOpen, St.isAgain] at h0 h1 h2 h3 h4 f0
    have hset := fun v => h.set (j := 3) (y := ⟨.opn, note, badge⟩) (v := v) hx (by decide)
    go_enter Try.func20, Try.ntmps20
    go_wp2_with (first | (go_at_call 24; refine (is_any _ _ _ _ _ _ h (by omega) true (by simp; omega)).mono ?_; rintro e w' ⟨rfl, rfl⟩) | go_quiet (fail))
    (try simp only [Exit.inBlock, Exit.then])
    refine bodyPost_ret (results_tmp4 rfl _ _ _) rfl ?_
    exact ⟨rfl, (hset _ rfl).alloc _, ((Kept.refl (fun k => k = g) w).setCell (.inr rfl) _).alloc _⟩
  case again =>
    simp only [ack1, Prod.mk.injEq] at hr
    obtain ⟨rfl, rfl, rfl, rfl⟩ := hr
    simp [encR, St.bound, St.isOpen, St.isAgain] at h0 h1 h2 h3 h4 f0
    have hset := fun v => h.set (j := 4) (y := ⟨.shut, note, badge⟩) (v := v) hx (by decide)
    go_enter Try.func20, Try.ntmps20
    go_wp2_with (first | (go_at_call 24; refine (is_any _ _ _ _ _ _ h (by omega) true (by simp; omega)).mono ?_; rintro e w' ⟨rfl, rfl⟩) | go_quiet (fail))
    (try simp only [Exit.inBlock, Exit.then])
    refine bodyPost_ret (results_tmp4 rfl _ _ _) rfl ?_
    exact ⟨rfl, ((hset _ rfl).alloc _).drewN _, (((Kept.refl (fun k => k = g) w).setCell (.inr rfl) _).alloc _).drewN _⟩

/-! For every index. -/
def bindE (L : List Ln) (n note badge : Int) : Int × List Ln :=
  if n < 0 ∨ L.length ≤ n then (130, L) else if note < 0 then (1, L) else
  match L[n.toNat]? with
  | some ⟨.free, _, _⟩ => (0, L.set n.toNat ⟨.opn, note, badge⟩)
  | _ => (131, L)
def freeE (L : List Ln) (n : Int) : Int × List Ln :=
  if n < 0 ∨ L.length ≤ n then (130, L) else
  match L[n.toNat]? with
  | some ⟨.free, _, _⟩ => (131, L)
  | _ => (0, L.set n.toNat .no)
def raiseE (L : List Ln) (n : Int) : (Int × Int × Bool × Int) × List Ln :=
  if n < 0 ∨ L.length ≤ n then ((0, 0, false, 130), L) else
  match L[n.toNat]? with
  | some x => (((raise1 x).1, (raise1 x).2.1, (raise1 x).2.2.1, 0), L.set n.toNat (raise1 x).2.2.2)
  | none => ((0, 0, false, 130), L)
def ackE (L : List Ln) (n : Int) : (Int × Int × Bool × Int) × List Ln :=
  if n < 0 ∨ L.length ≤ n then ((0, 0, false, 130), L) else
  match L[n.toNat]? with
  | some x => (((ack1 x).1, (ack1 x).2.1, (ack1 x).2.2.1, 0), L.set n.toNat (ack1 x).2.2.2)
  | none => ((0, 0, false, 130), L)
def openE (L : List Ln) (n : Int) : Bool × Bool :=
  if n < 0 ∨ L.length ≤ n then (false, false) else
  match L[n.toNat]? with
  | some x => (x.st.isOpen, x.st.isAgain)
  | none => (false, false)
theorem bindE_len (L : List Ln) (n note badge : Int) : (bindE L n note badge).2.length = L.length := by
  unfold bindE
  (repeat' split) <;> simp
theorem freeE_len (L : List Ln) (n : Int) : (freeE L n).2.length = L.length := by
  unfold freeE
  (repeat' split) <;> simp
theorem raiseE_len (L : List Ln) (n : Int) : (raiseE L n).2.length = L.length := by
  unfold raiseE
  (repeat' split) <;> simp
theorem ackE_len (L : List Ln) (n : Int) : (ackE L n).2.length = L.length := by
  unfold ackE
  (repeat' split) <;> simp

theorem bind_all (b g cap : Nat) (L : List Ln) (n note badge : Int) (w : World) (h : LI w b g cap L) (ha : n ≤ 9223372036854775807) :
    Calls Try.prog 11 #[.pointer (some ⟨b, 0, none⟩), .int .i64 n, .int .i64 note, .int .u64 badge] w fun e w' => e = .returned (.int .i64 (bindE L n note badge).1) ∧ LI w' b g cap (bindE L n note badge).2 ∧ Kept (fun k => k = g) w w' := by
  by_cases hn : n < 0 ∨ L.length ≤ n
  · rw [bindE, if_pos hn]
    exact (bind_out _ _ _ _ _ _ _ _ h hn ha).mono (by rintro e w' ⟨rfl, rfl⟩; exact ⟨rfl, h, Kept.refl _ _⟩)
  obtain ⟨n, rfl⟩ := Int.eq_ofNat_of_zero_le (show 0 ≤ n by omega)
  have hlt : n < L.length := by omega
  obtain ⟨x, hx⟩ : ∃ x, L[n]? = some x := ⟨_, List.getElem?_eq_getElem hlt⟩
  rw [bindE, if_neg hn]
  by_cases hnote : note < 0
  · rw [if_pos hnote]
    exact (bind_neg _ _ _ _ _ _ _ _ h hlt hnote).mono (by rintro e w' ⟨rfl, rfl⟩; exact ⟨rfl, h, Kept.refl _ _⟩)
  rw [if_neg hnote, Int.toNat_natCast, hx]
  obtain ⟨st, a, v⟩ := x
  cases st
  case free => exact bind_in _ _ _ _ _ _ _ _ _ h hx rfl (by omega)
  all_goals exact (bind_busy _ _ _ _ _ _ _ _ _ h hx (by simp) (by omega)).mono (by rintro e w' ⟨rfl, rfl⟩; exact ⟨rfl, h, Kept.refl _ _⟩)

theorem free_all (b g cap : Nat) (L : List Ln) (n : Int) (w : World) (h : LI w b g cap L) (ha : n ≤ 9223372036854775807) :
    Calls Try.prog 15 #[.pointer (some ⟨b, 0, none⟩), .int .i64 n] w fun e w' => e = .returned (.int .i64 (freeE L n).1) ∧ LI w' b g cap (freeE L n).2 ∧ Kept (fun k => k = g) w w' := by
  by_cases hn : n < 0 ∨ L.length ≤ n
  · rw [freeE, if_pos hn]
    exact (free_out _ _ _ _ _ _ h hn ha).mono (by rintro e w' ⟨rfl, rfl⟩; exact ⟨rfl, h, Kept.refl _ _⟩)
  obtain ⟨n, rfl⟩ := Int.eq_ofNat_of_zero_le (show 0 ≤ n by omega)
  have hlt : n < L.length := by omega
  obtain ⟨x, hx⟩ : ∃ x, L[n]? = some x := ⟨_, List.getElem?_eq_getElem hlt⟩
  rw [freeE, if_neg hn, Int.toNat_natCast, hx]
  obtain ⟨st, a, v⟩ := x
  cases st
  case free => exact (free_busy _ _ _ _ _ _ _ h hx rfl).mono (by rintro e w' ⟨rfl, rfl⟩; exact ⟨rfl, h, Kept.refl _ _⟩)
  all_goals exact free_in _ _ _ _ _ _ _ h hx (by simp)

theorem open_all (b g cap : Nat) (L : List Ln) (n : Int) (w : World) (h : LI w b g cap L) (ha : n ≤ 9223372036854775807) :
    Calls Try.prog 14 #[.pointer (some ⟨b, 0, none⟩), .int .i64 n] w fun e w' => e = .returned (.tuple #[.bool (openE L n).1, .bool (openE L n).2]) ∧ New w w' := by
  by_cases hn : n < 0 ∨ L.length ≤ n
  · rw [openE, if_pos hn]
    exact open_out _ _ _ _ _ _ h hn ha
  obtain ⟨n, rfl⟩ := Int.eq_ofNat_of_zero_le (show 0 ≤ n by omega)
  have hlt : n < L.length := by omega
  obtain ⟨x, hx⟩ : ∃ x, L[n]? = some x := ⟨_, List.getElem?_eq_getElem hlt⟩
  rw [openE, if_neg hn, Int.toNat_natCast, hx]
  exact open_in _ _ _ _ _ _ _ h hx

theorem raise_all (b g cap : Nat) (L : List Ln) (n : Int) (w : World) (h : LI w b g cap L) (ha : n ≤ 9223372036854775807) :
    Calls Try.prog 13 #[.pointer (some ⟨b, 0, none⟩), .int .i64 n] w fun e w' => e = .returned (.tuple #[.int .i64 (raiseE L n).1.1, .int .u64 (raiseE L n).1.2.1, .bool (raiseE L n).1.2.2.1, .int .i64 (raiseE L n).1.2.2.2]) ∧ LI w' b g cap (raiseE L n).2 ∧ Kept (fun k => k = g) w w' := by
  by_cases hn : n < 0 ∨ L.length ≤ n
  · rw [raiseE, if_pos hn]
    exact (raise_out _ _ _ _ _ _ h hn ha).mono (by rintro e w' ⟨rfl, rfl⟩; exact ⟨rfl, h, Kept.refl _ _⟩)
  obtain ⟨n, rfl⟩ := Int.eq_ofNat_of_zero_le (show 0 ≤ n by omega)
  have hlt : n < L.length := by omega
  obtain ⟨x, hx⟩ : ∃ x, L[n]? = some x := ⟨_, List.getElem?_eq_getElem hlt⟩
  rw [raiseE, if_neg hn, Int.toNat_natCast, hx]
  exact raise_in _ _ _ _ _ _ _ _ _ _ _ h hx rfl

theorem ack_all (b g cap : Nat) (L : List Ln) (n : Int) (w : World) (h : LI w b g cap L) (ha : n ≤ 9223372036854775807) :
    Calls Try.prog 12 #[.pointer (some ⟨b, 0, none⟩), .int .i64 n] w fun e w' => e = .returned (.tuple #[.int .i64 (ackE L n).1.1, .int .u64 (ackE L n).1.2.1, .bool (ackE L n).1.2.2.1, .int .i64 (ackE L n).1.2.2.2]) ∧ LI w' b g cap (ackE L n).2 ∧ Kept (fun k => k = g) w w' := by
  by_cases hn : n < 0 ∨ L.length ≤ n
  · rw [ackE, if_pos hn]
    exact (ack_out _ _ _ _ _ _ h hn ha).mono (by rintro e w' ⟨rfl, rfl⟩; exact ⟨rfl, h, Kept.refl _ _⟩)
  obtain ⟨n, rfl⟩ := Int.eq_ofNat_of_zero_le (show 0 ≤ n by omega)
  have hlt : n < L.length := by omega
  obtain ⟨x, hx⟩ : ∃ x, L[n]? = some x := ⟨_, List.getElem?_eq_getElem hlt⟩
  rw [ackE, if_neg hn, Int.toNat_natCast, hx]
  exact ack_in _ _ _ _ _ _ _ _ _ _ _ h hx rfl

theorem rbind_all (b g cap : Nat) (L : List Ln) (n note badge : Int) (w : World) (h : LR w b g cap L) (ha : n ≤ 9223372036854775807) :
    Calls Try.prog 17 #[.pointer (some ⟨b, 0, none⟩), .int .i64 n, .int .i64 note, .int .u64 badge] w fun e w' => e = .returned (.int .i64 (bindE L n note badge).1) ∧ LR w' b g cap (bindE L n note badge).2 ∧ Kept (fun k => k = g) w w' := by
  by_cases hn : n < 0 ∨ L.length ≤ n
  · rw [bindE, if_pos hn]
    exact (rbind_out _ _ _ _ _ _ _ _ h hn ha).mono (by rintro e w' ⟨rfl, rfl⟩; exact ⟨rfl, h, Kept.refl _ _⟩)
  obtain ⟨n, rfl⟩ := Int.eq_ofNat_of_zero_le (show 0 ≤ n by omega)
  have hlt : n < L.length := by omega
  obtain ⟨x, hx⟩ : ∃ x, L[n]? = some x := ⟨_, List.getElem?_eq_getElem hlt⟩
  rw [bindE, if_neg hn]
  by_cases hnote : note < 0
  · rw [if_pos hnote]
    exact (rbind_neg _ _ _ _ _ _ _ _ h hlt hnote).mono (by rintro e w' ⟨rfl, rfl⟩; exact ⟨rfl, h, Kept.refl _ _⟩)
  rw [if_neg hnote, Int.toNat_natCast, hx]
  obtain ⟨st, a, v⟩ := x
  cases st
  case free => exact rbind_in _ _ _ _ _ _ _ _ _ h hx rfl (by omega)
  all_goals exact (rbind_busy _ _ _ _ _ _ _ _ _ h hx (by simp) (by omega)).mono (by rintro e w' ⟨rfl, rfl⟩; exact ⟨rfl, h, Kept.refl _ _⟩)

theorem rfree_all (b g cap : Nat) (L : List Ln) (n : Int) (w : World) (h : LR w b g cap L) (ha : n ≤ 9223372036854775807) :
    Calls Try.prog 18 #[.pointer (some ⟨b, 0, none⟩), .int .i64 n] w fun e w' => e = .returned (.int .i64 (freeE L n).1) ∧ LR w' b g cap (freeE L n).2 ∧ Kept (fun k => k = g) w w' := by
  by_cases hn : n < 0 ∨ L.length ≤ n
  · rw [freeE, if_pos hn]
    exact (rfree_out _ _ _ _ _ _ h hn ha).mono (by rintro e w' ⟨rfl, rfl⟩; exact ⟨rfl, h, Kept.refl _ _⟩)
  obtain ⟨n, rfl⟩ := Int.eq_ofNat_of_zero_le (show 0 ≤ n by omega)
  have hlt : n < L.length := by omega
  obtain ⟨x, hx⟩ : ∃ x, L[n]? = some x := ⟨_, List.getElem?_eq_getElem hlt⟩
  rw [freeE, if_neg hn, Int.toNat_natCast, hx]
  obtain ⟨st, a, v⟩ := x
  cases st
  case free => exact (rfree_busy _ _ _ _ _ _ _ h hx rfl).mono (by rintro e w' ⟨rfl, rfl⟩; exact ⟨rfl, h, Kept.refl _ _⟩)
  all_goals exact rfree_in _ _ _ _ _ _ _ h hx (by simp)

theorem ropen_all (b g cap : Nat) (L : List Ln) (n : Int) (w : World) (h : LR w b g cap L) (ha : n ≤ 9223372036854775807) :
    Calls Try.prog 22 #[.pointer (some ⟨b, 0, none⟩), .int .i64 n] w fun e w' => e = .returned (.tuple #[.bool (openE L n).1, .bool (openE L n).2]) ∧ New w w' := by
  by_cases hn : n < 0 ∨ L.length ≤ n
  · rw [openE, if_pos hn]
    exact ropen_out _ _ _ _ _ _ h hn ha
  obtain ⟨n, rfl⟩ := Int.eq_ofNat_of_zero_le (show 0 ≤ n by omega)
  have hlt : n < L.length := by omega
  obtain ⟨x, hx⟩ : ∃ x, L[n]? = some x := ⟨_, List.getElem?_eq_getElem hlt⟩
  rw [openE, if_neg hn, Int.toNat_natCast, hx]
  exact ropen_in _ _ _ _ _ _ _ h hx

theorem rraise_all (b g cap : Nat) (L : List Ln) (n : Int) (w : World) (h : LR w b g cap L) (ha : n ≤ 9223372036854775807) :
    Calls Try.prog 19 #[.pointer (some ⟨b, 0, none⟩), .int .i64 n] w fun e w' => e = .returned (.tuple #[.int .i64 (raiseE L n).1.1, .int .u64 (raiseE L n).1.2.1, .bool (raiseE L n).1.2.2.1, .int .i64 (raiseE L n).1.2.2.2]) ∧ LR w' b g cap (raiseE L n).2 ∧ Kept (fun k => k = g) w w' := by
  by_cases hn : n < 0 ∨ L.length ≤ n
  · rw [raiseE, if_pos hn]
    exact (rraise_out _ _ _ _ _ _ h hn ha).mono (by rintro e w' ⟨rfl, rfl⟩; exact ⟨rfl, h, Kept.refl _ _⟩)
  obtain ⟨n, rfl⟩ := Int.eq_ofNat_of_zero_le (show 0 ≤ n by omega)
  have hlt : n < L.length := by omega
  obtain ⟨x, hx⟩ : ∃ x, L[n]? = some x := ⟨_, List.getElem?_eq_getElem hlt⟩
  rw [raiseE, if_neg hn, Int.toNat_natCast, hx]
  exact rraise_in _ _ _ _ _ _ _ _ _ _ _ h hx rfl

theorem rack_all (b g cap : Nat) (L : List Ln) (n : Int) (w : World) (h : LR w b g cap L) (ha : n ≤ 9223372036854775807) :
    Calls Try.prog 20 #[.pointer (some ⟨b, 0, none⟩), .int .i64 n] w fun e w' => e = .returned (.tuple #[.int .i64 (ackE L n).1.1, .int .u64 (ackE L n).1.2.1, .bool (ackE L n).1.2.2.1, .int .i64 (ackE L n).1.2.2.2]) ∧ LR w' b g cap (ackE L n).2 ∧ Kept (fun k => k = g) w w' := by
  by_cases hn : n < 0 ∨ L.length ≤ n
  · rw [ackE, if_pos hn]
    exact (rack_out _ _ _ _ _ _ h hn ha).mono (by rintro e w' ⟨rfl, rfl⟩; exact ⟨rfl, h, Kept.refl _ _⟩)
  obtain ⟨n, rfl⟩ := Int.eq_ofNat_of_zero_le (show 0 ≤ n by omega)
  have hlt : n < L.length := by omega
  obtain ⟨x, hx⟩ : ∃ x, L[n]? = some x := ⟨_, List.getElem?_eq_getElem hlt⟩
  rw [ackE, if_neg hn, Int.toNat_natCast, hx]
  exact rack_in _ _ _ _ _ _ _ _ _ _ _ h hx rfl
end Go.Proofs.Ytcblncdfppkhcaa

/- The reference's memory: the same contracts as package memory's (the type 52, the functions 21, 26 to 31). -/
import Derived.Test.YtnfomlgjnckphaaLaid
import Derived.StillTailTactics
set_option linter.all false
namespace Go.Proofs.Ytnfomlgjnckphaa
open Go.RowKit

theorem quiet_eq {P : Program} {f : FuncId} {args : Array Value} {w : World} {n : Nat} {v : Value}
    (h : Calls P f args (w.drewN n) fun e w' => e = .returned v ∧ w.drewN n = w') : Calls P f args (w.drewN n) fun e w'' => e = .returned v ∧ ∃ m, w'' = w.drewN m :=
  h.mono fun _ _ ⟨he, hm⟩ => ⟨he, n, hm.symm⟩

theorem rthere_any (b g cap len : Nat) (at_ n : Int) (w : World)
    (hc : w.cell? ⟨b, 0, none⟩ = some (.slice (some ⟨g, 0, none⟩) len cap)) (hl : len ≤ 65536) (ha : at_ ≤ 9223372036854775807) (hn : n ≤ 9223372036854775807) :
    Calls Try.prog 31 #[.pointer (some ⟨b, 0, none⟩), .int .i64 at_, .int .i64 n] w fun e w' => e = .returned (.bool (inB at_ n len)) ∧ w = w' := by
  go_enter Try.func31, Try.ntmps31
  go_wp2
  all_goals go_ret
  all_goals refine ⟨ret_bool ?_, rfl⟩
  all_goals rw [Bool.eq_iff_iff]
  all_goals simp [inB]
  all_goals omega

theorem rwords_yes (b g cap : Nat) (ws : List Int) (at_ n : Int) (w : World) (hM : Mem 52 w b g cap ws) (hi : inB at_ n ws.length = true) :
    Calls Try.prog 28 #[.pointer (some ⟨b, 0, none⟩), .int .i64 at_, .int .i64 n] w fun e w' => ∃ v, e = .returned (.tuple #[v, .int .i64 0]) ∧
      w'.ownsRow w.heap.size 30 1 v n.toNat (((ws.drop at_.toNat).take n.toNat).map (Value.int .u64)) ∧ Kept (fun _ => False) w w' := by
  have hc := hM.cell0
  have hl := hM.le
  have hltb := hM.ltb
  have hcap := hM.cap_le
  obtain ⟨b0, b1, b2⟩ : 0 ≤ at_ ∧ 0 ≤ n ∧ at_ + n ≤ ws.length := by simpa [inB] using hi
  obtain ⟨i0, hi0, hz0, hz1, hz2⟩ := info_parts info30
  have hsrc := (hM.src b0 b1 b2 (mx := cap) (by omega)).alloc (.cells #[] 30)
  obtain ⟨f, rfl⟩ := Int.eq_ofNat_of_zero_le b0
  obtain ⟨m, rfl⟩ := Int.eq_ofNat_of_zero_le b1
  simp only [Int.toNat_natCast] at hsrc ⊢
  go_enter Try.func28, Try.ntmps28
  go_wp2_with (first | (go_at_call 31; refine (rthere_any _ _ _ _ _ _ _ hc hl (by omega) (by omega)).mono ?_; rintro e w' ⟨rfl, rfl⟩) | (at_builtin; refine wpList_append_src rfl _ _ 29 rfl w.heap.size 30 i0 (.int .u64 0) 1 8 Try.underlying29 hi0 hz0 hz1 hz2 rfl (by decide) (.slice (some ⟨w.heap.size, 0, none⟩) 0 0) 0 [] rfl (World.ownsRow_made w #[] 0 (Nat.le_refl _) (by unfold maxLen; omega) rfl) _ m _ rfl hsrc (ints_oneCell _ _) (by unfold maxLen; omega) (by omega) (by simp) ?_; intro v' w1 hown hgr; generalize hA : (if cap = f then some (⟨g, 0, none⟩ : Addr) else some ⟨g, f, none⟩) = A; clear hA hsrc))
  go_ret2
  exact ⟨_, rfl, by simpa using hown, ((Kept.refl _ _).alloc _).grown hgr (by intro k hk; simp [Value.ownBlock] at hk; omega)⟩

theorem rwords_no (b g cap : Nat) (ws : List Int) (at_ n : Int) (w : World) (h : Mem 52 w b g cap ws) (hi : inB at_ n ws.length = false) (ha : at_ ≤ 9223372036854775807) (hn : n ≤ 9223372036854775807) :
    Calls Try.prog 28 #[.pointer (some ⟨b, 0, none⟩), .int .i64 at_, .int .i64 n] w fun e w' => e = .returned (.tuple #[.slice none 0 0, .int .i64 20]) ∧ w = w' := by
  have hc := h.cell0
  have hl := h.le
  go_enter Try.func28, Try.ntmps28
  go_wp2_with (go_at_call 31; refine (rthere_any _ _ _ _ _ _ _ hc hl (by omega) (by omega)).mono ?_; rintro e w' ⟨rfl, rfl⟩)
  go_ret2
  exact ⟨rfl, rfl⟩

theorem rmove_no (b g cap : Nat) (ws : List Int) (to frm n : Int) (w : World) (hM : Mem 52 w b g cap ws) (h : ¬ (inB to n ws.length = true ∧ inB frm n ws.length = true))
    (ha : to ≤ 9223372036854775807) (hb : frm ≤ 9223372036854775807) (hn : n ≤ 9223372036854775807) :
    Calls Try.prog 30 #[.pointer (some ⟨b, 0, none⟩), .int .i64 to, .int .i64 frm, .int .i64 n] w fun e w' => e = .returned (.int .i64 20) ∧ w = w' := by
  have hc := hM.cell0
  have hl := hM.le
  cases h1 : inB to n ws.length with
  | false =>
    go_enter Try.func30, Try.ntmps30
    go_wp2_with (go_at_call 31; refine (rthere_any _ _ _ _ _ _ _ hc hl (by omega) (by omega)).mono ?_; rintro e w' ⟨rfl, rfl⟩)
    go_ret
    exact ⟨rfl, rfl⟩
  | true =>
    have h2 : inB frm n ws.length = false := by cases hx : inB frm n ws.length with | false => rfl | true => exact (h ⟨h1, hx⟩).elim
    go_enter Try.func30, Try.ntmps30
    go_wp2_with (go_at_call 31; refine (rthere_any _ _ _ _ _ _ _ hc hl (by omega) (by omega)).mono ?_; rintro e w' ⟨rfl, rfl⟩)
    go_ret
    exact ⟨rfl, rfl⟩

theorem rfill_no (b g cap : Nat) (ws : List Int) (at_ n v : Int) (w : World) (hM : Mem 52 w b g cap ws) (hi : inB at_ n ws.length = false) (ha : at_ ≤ 9223372036854775807) (hn : n ≤ 9223372036854775807) :
    Calls Try.prog 29 #[.pointer (some ⟨b, 0, none⟩), .int .i64 at_, .int .i64 n, .int .u64 v] w fun e w' => e = .returned (.int .i64 20) ∧ w = w' := by
  have hc := hM.cell0
  have hl := hM.le
  go_enter Try.func29, Try.ntmps29
  go_wp2_with (go_at_call 31; refine (rthere_any _ _ _ _ _ _ _ hc hl (by omega) (by omega)).mono ?_; rintro e w' ⟨rfl, rfl⟩)
  go_ret
  exact ⟨rfl, rfl⟩

theorem rnew_yes (n : Int) (w : World) (h0 : 1 ≤ n) (h1 : n ≤ 65536) :
    Calls Try.prog 21 #[.int .i64 n] w fun e w' => e = .returned (.tuple #[.pointer (some ⟨w.heap.size + 1, 0, none⟩), .int .i64 0]) ∧
      Mem 52 w' (w.heap.size + 1) w.heap.size n.toNat (List.replicate n.toNat 0) ∧ Kept (fun _ => False) w w' := by
  obtain ⟨n, rfl⟩ := Int.eq_ofNat_of_zero_le (show 0 ≤ n by omega)
  obtain ⟨i0, hi, hz0, hz1, hz2⟩ := info_parts info30
  have hmk := run_make (P := Try.prog) w 29 30 i0 (.int .u64 0) Try.underlying29 hi hz0 .i64 .i64 n n (by omega) (by omega) (by rw [hz2]; omega) (by omega)
  rw [hz1] at hmk
  go_enter Try.func21, Try.ntmps21
  go_wp2
  go_ret2
  exact ⟨rfl, by simpa using new_mem n w (by omega), ((Kept.refl _ _).alloc _).alloc _⟩

theorem rnew_no (n : Int) (w : World) (h : n < 1 ∨ 65536 < n) :
    Calls Try.prog 21 #[.int .i64 n] w fun e w' => e = .returned (.tuple #[.pointer none, .int .i64 1]) ∧ w = w' := by
  rcases h with h | h
  · go_enter Try.func21, Try.ntmps21
    go_wp2
    go_ret2
    exact ⟨rfl, rfl⟩
  · have h' : ¬ n < 1 := by omega
    go_enter Try.func21, Try.ntmps21
    go_wp2
    go_ret2
    exact ⟨rfl, rfl⟩

theorem rwrite_yes (b g cap : Nat) (ws : List Int) (at_ v : Int) (w : World) (h : Mem 52 w b g cap ws) (h0 : 0 ≤ at_) (h1 : at_ < ws.length) :
    Calls Try.prog 27 #[.pointer (some ⟨b, 0, none⟩), .int .i64 at_, .int .u64 v] w fun e w' => e = .returned (.int .i64 0) ∧ Mem 52 w' b g cap (ws.set at_.toNat v) ∧ Kept (fun k => k = g) w w' := by
  have hc := h.cell0
  have hl := h.le
  have hd := h.cellAt (i := at_.toNat) (by omega)
  have hf := h.free at_.toNat
  have hcap := h.cap_le
  go_enter Try.func27, Try.ntmps27
  go_wp2
  go_ret
  exact ⟨rfl, h.set _ _⟩

theorem rwrite_no (b g cap : Nat) (ws : List Int) (at_ v : Int) (w : World) (h : Mem 52 w b g cap ws) (h0 : ¬ (0 ≤ at_ ∧ at_ < ws.length)) (ha : at_ ≤ 9223372036854775807) :
    Calls Try.prog 27 #[.pointer (some ⟨b, 0, none⟩), .int .i64 at_, .int .u64 v] w fun e w' => e = .returned (.int .i64 20) ∧ w = w' := by
  have hc := h.cell0
  have hl := h.le
  go_enter Try.func27, Try.ntmps27
  go_wp2
  all_goals go_ret
  all_goals exact ⟨rfl, rfl⟩

theorem rread_yes (b g cap : Nat) (ws : List Int) (at_ : Int) (w : World) (h : Mem 52 w b g cap ws) (h0 : 0 ≤ at_) (h1 : at_ < ws.length) :
    Calls Try.prog 26 #[.pointer (some ⟨b, 0, none⟩), .int .i64 at_] w fun e w' => e = .returned (.tuple #[.int .u64 (ws.getD at_.toNat 0), .int .i64 0]) ∧ w = w' := by
  have hc := h.cell0
  have hl := h.le
  have hd := h.cellAt (i := at_.toNat) (by omega)
  have hcap := h.cap_le
  generalize ws.getD at_.toNat 0 = u at *
  go_enter Try.func26, Try.ntmps26
  go_wp2
  go_ret2
  exact ⟨rfl, rfl⟩

theorem rread_no (b g cap : Nat) (ws : List Int) (at_ : Int) (w : World) (h : Mem 52 w b g cap ws) (h0 : ¬ (0 ≤ at_ ∧ at_ < ws.length)) (ha : at_ ≤ 9223372036854775807) :
    Calls Try.prog 26 #[.pointer (some ⟨b, 0, none⟩), .int .i64 at_] w fun e w' => e = .returned (.tuple #[.int .u64 0, .int .i64 20]) ∧ w = w' := by
  have hc := h.cell0
  have hl := h.le
  go_enter Try.func26, Try.ntmps26
  go_wp2
  all_goals go_ret2
  all_goals exact ⟨rfl, rfl⟩


theorem rfill_yes (b g cap : Nat) (ws : List Int) (at_ n v : Int) (w : World) (hM : Mem 52 w b g cap ws) (hi : inB at_ n ws.length = true) :
    Calls Try.prog 29 #[.pointer (some ⟨b, 0, none⟩), .int .i64 at_, .int .i64 n, .int .u64 v] w fun e w' => e = .returned (.int .i64 0) ∧
      Mem 52 w' b g cap (splice ws at_.toNat (List.replicate n.toNat v)) ∧ Kept (fun k => k = g) w w' := by
  have hc := hM.cell0
  have hl := hM.le
  obtain ⟨a0, a1, a2⟩ : 0 ≤ at_ ∧ 0 ≤ n ∧ at_ + n ≤ ws.length := by simpa [inB] using hi
  obtain ⟨a, rfl⟩ := Int.eq_ofNat_of_zero_le a0
  obtain ⟨m, rfl⟩ := Int.eq_ofNat_of_zero_le a1
  simp only [Int.toNat_natCast]
  go_enter Try.func29, Try.ntmps29
  go_wp2_with (go_at_call 31; refine (rthere_any _ _ _ _ _ _ _ hc hl (by omega) (by omega)).mono ?_; rintro e w' ⟨rfl, rfl⟩)
  clear hc hi
  go_loopw [9] (fun i wr => ∃ k : Nat, k ≤ m ∧ i = .int .i64 (a + k) ∧ Mem 52 wr b g cap (splice ws a (List.replicate k v)) ∧ Kept (fun k => k = g) w wr) (fun i _ => a + m - (intOf i).toNat)
  case atStart => exact ⟨0, Nat.zero_le _, by simp, by simpa [splice] using hM, Kept.refl _ _⟩
  case round =>
    obtain ⟨k, hkm, rfl, hMr, hkr⟩ := hrel
    by_cases hlt : k < m
    · have Hlen : Hid ((splice ws a (List.replicate k v)).length = ws.length) := length_splice _ _ _ (by simp; omega)
      have hc := hMr.cell0
      rw [Hlen.out] at hc
      have hcap := hMr.cap_le
      rw [Hlen.out] at hcap
      have hcw := hMr.cellAt (i := a + k) (by rw [Hlen.out]; omega)
      have hfw := hMr.free (a + k)
      have hst := hMr.set (a + k) v
      have e0 : (splice ws a (List.replicate k v)).set (a + k) v = splice ws a (List.replicate (k + 1) v) := by
        have e1 : min a ws.length = a := by omega
        apply List.ext_getElem?
        intro i
        simp only [splice, List.getElem?_set, List.getElem?_append, List.getElem?_take, List.getElem?_drop, List.getElem?_replicate, List.length_take, List.length_append, List.length_replicate, List.length_drop, e1]
        (repeat' split) <;> first | rfl | omega | (congr 1; omega) | skip
      rw [e0] at hst
      clear e0
      generalize (splice ws a (List.replicate k v)).getD (a + k) 0 = u at hcw
      go_wp2
      go_roundw
      case rel => exact ⟨k + 1, by omega, by go_num, hst.1, hkr.trans hst.2⟩
      case measure => simp [intOf]; omega
    · obtain rfl : k = m := by omega
      go_wp2
      go_ret
      exact ⟨rfl, hMr, hkr⟩

theorem rmove_yes (b g cap : Nat) (ws : List Int) (to frm n : Int) (w : World) (hM : Mem 52 w b g cap ws) (h1 : inB to n ws.length = true) (h2 : inB frm n ws.length = true) :
    Calls Try.prog 30 #[.pointer (some ⟨b, 0, none⟩), .int .i64 to, .int .i64 frm, .int .i64 n] w fun e w' => e = .returned (.int .i64 0) ∧
      Mem 52 w' b g cap (splice ws to.toNat ((ws.drop frm.toNat).take n.toNat)) ∧ Kept (fun k => k = g) w w' := by
  have hc := hM.cell0
  have hl := hM.le
  have hltb := hM.ltb
  have hcap := hM.cap_le
  obtain ⟨a0, a1, a2⟩ : 0 ≤ to ∧ 0 ≤ n ∧ to + n ≤ ws.length := by simpa [inB] using h1
  obtain ⟨b0, b1, b2⟩ : 0 ≤ frm ∧ 0 ≤ n ∧ frm + n ≤ ws.length := by simpa [inB] using h2
  obtain ⟨i0, hi0, hz0, hz1, hz2⟩ := info_parts info30
  have hsrc := (hM.src b0 b1 b2 (mx := cap) (by omega)).alloc (.cells #[] 30)
  obtain ⟨t, rfl⟩ := Int.eq_ofNat_of_zero_le a0
  obtain ⟨f, rfl⟩ := Int.eq_ofNat_of_zero_le b0
  obtain ⟨m, rfl⟩ := Int.eq_ofNat_of_zero_le a1
  simp only [Int.toNat_natCast] at hsrc ⊢
  go_enter Try.func30, Try.ntmps30
  go_wp2_with (first | (go_at_call 31; refine (rthere_any _ _ _ _ _ _ _ hc hl (by omega) (by omega)).mono ?_; rintro e w' ⟨rfl, rfl⟩) | (at_builtin; refine wpList_append_src rfl _ _ 29 rfl w.heap.size 30 i0 (.int .u64 0) 1 8 Try.underlying29 hi0 hz0 hz1 hz2 rfl (by decide) (.slice (some ⟨w.heap.size, 0, none⟩) 0 0) 0 [] rfl (World.ownsRow_made w #[] 0 (Nat.le_refl _) (by unfold maxLen; omega) rfl) _ m _ rfl hsrc (ints_oneCell _ _) (by unfold maxLen; omega) (by omega) (by simp) ?_; intro v' w1 hown hgr; generalize hA : (if cap = f then some (⟨g, 0, none⟩ : Addr) else some ⟨g, f, none⟩) = A; clear hA hsrc))
  have hsp : ∀ k, k < m → (splice ws t ((ws.drop f).take k)).set (t + k) (ws.getD (f + k) 0) = splice ws t ((ws.drop f).take (k + 1)) := by
    intro k hk
    have e1 : min t ws.length = t := by omega
    have e2 : min k (ws.length - f) = k := by omega
    have e3 : min (k + 1) (ws.length - f) = k + 1 := by omega
    apply List.ext_getElem?
    intro i
    simp only [splice, List.getElem?_set, List.getElem?_append, List.getElem?_take, List.getElem?_drop, List.length_take, List.length_append, List.length_drop, List.getD, e1, e2, e3]
    (repeat' split) <;> first | rfl | omega | (congr 1; omega) | skip
    all_goals (subst_vars; rw [show t + k - t = k by omega]; simp [show f + k < ws.length by omega])
  have hk1 : New w w1 := ((Kept.refl _ _).alloc _).grown hgr (by intro k hk; simp [Value.ownBlock] at hk; omega)
  have hM1 := hM.same hk1
  by_cases hm0 : m = 0
  · subst hm0
    clear hsp hown hgr hc
    refine wp_loop_once ?_
    go_wp2
    go_ret
    exact ⟨rfl, by simpa [splice] using hM1, hk1.mono (fun _ _ h => h.elim)⟩
  · obtain ⟨g1, cap1, rfl, hb1, hrow⟩ := Row.of_own (n := m) (by simpa using hown) (by omega)
    rw [← List.map_drop, ← List.map_take] at hrow
    have Hsp := Lib.hid hsp
    have hcap1 := hrow.cap_le
    have hlm : ((ws.drop f).take m).length = m := by simp; omega
    rw [hlm] at hcap1
    have hne : g1 ≠ g := by have := hM.ltg; omega
    clear hsp hown hgr hc hlm
    go_loopw [10] (fun i wr => ∃ k : Nat, k ≤ m ∧ i = .int .i64 k ∧ Mem 52 wr b g cap (splice ws t ((ws.drop f).take k)) ∧ Row wr g1 cap1 30 (((ws.drop f).take m).map (Value.int .u64)) ∧ Kept (fun k => k = g) w wr) (fun i _ => m - (intOf i).toNat)
    case atStart => exact ⟨0, Nat.zero_le _, rfl, by simpa [splice] using hM1, hrow, hk1.mono (fun _ _ h => h.elim)⟩
    case round =>
      obtain ⟨k, hkm, rfl, hMr, hrr, hkr⟩ := hrel
      by_cases hlt : k < m
      · have Hlen : Hid ((splice ws t ((ws.drop f).take k)).length = ws.length) := length_splice _ _ _ (by simp; omega)
        have hc := hMr.cell0
        rw [Hlen.out] at hc
        have hcw := hMr.cellAt (i := t + k) (by rw [Hlen.out]; omega)
        have hfw := hMr.free (t + k)
        have hst := hMr.set (t + k) (ws.getD (f + k) 0)
        rw [Hsp.out k hlt] at hst
        have hsrc := hrr.cellI (i := k) (by simp; omega)
        have e0 : ((ws.drop f).take m).getD k 0 = ws.getD (f + k) 0 := by simp [List.getD, hlt]
        rw [e0] at hsrc
        clear e0
        generalize ws.getD (f + k) 0 = u at hsrc hst
        generalize (splice ws t ((ws.drop f).take k)).getD (t + k) 0 = u' at hcw
        have s1 : IntKind.i64.wrap ((t : Int) + k) = t + k := IntWalk.i64_in _ (by omega)
        have k0 : (0 : Int) ≤ (t : Int) + k := by omega
        have k1 : (t : Int) + k < ws.length := by omega
        have k2 : ((t : Int) + k).toNat = t + k := by omega
        go_wp2_with fail
        go_still_tail 12, (by kernel_rfl)
        change wpList _ _ _ _ _ wr.drew
        clear s1 k1
        go_wp2
        go_roundw
        case rel => exact ⟨k + 1, by omega, by go_num, hst.1.kept (F := fun _ => False) (Kept.refl _ _).drew (fun h => h) (fun h => h), (hrr.kept hst.2 hne).same ((Kept.refl _ _).drew), (hkr.trans hst.2).drew⟩
        case measure => simp [intOf]; omega
      · obtain rfl : k = m := by omega
        go_wp2
        go_ret
        exact ⟨rfl, hMr, hkr⟩
end Go.Proofs.Ytnfomlgjnckphaa

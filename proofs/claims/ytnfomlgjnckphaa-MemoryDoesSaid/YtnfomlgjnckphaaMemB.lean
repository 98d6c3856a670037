/- Package memory, on: Copy; what the laws call 'laid' and 'fixed'. -/
import Derived.Test.YtnfomlgjnckphaaMemA
set_option linter.all false
namespace Go.Proofs.Ytnfomlgjnckphaa
open Go.RowKit

/-- slices.Clone of words. -/
theorem clone_any (v : Value) (n : Nat) (xs : List Value) (w : World) (hn0 : 0 < n) (hs : Src w v n 1 xs) (h1 : ∀ u ∈ xs, u.oneCell' = true) (hn : n ≤ 65536) :
    Calls Try.prog 25 #[v] w fun e w' => ∃ g cap, e = .returned (.slice (some ⟨g, 0, none⟩) n cap) ∧ w.heap.size ≤ g ∧ Row w' g cap 30 xs ∧ Kept (fun _ => False) w w' := by
  obtain ⟨i0, hi0, hz0, hz1, hz2⟩ := info_parts info30
  have hs' := hs
  obtain ⟨ao, c, rfl, _, hxl, hc⟩ := hs'
  obtain ⟨ad, rfl⟩ : ∃ ad, ao = some ad := by
    cases xs with
    | nil => simp at hxl; omega
    | cons u l => obtain ⟨ad, h1, _⟩ := hc 0 u rfl; exact ⟨ad, h1⟩
  clear hc
  have heq := fun (w : World) (a : Option Addr) (n c n' c' : Nat) => Lib.run_eql_slice_nil (P := Try.prog) w 29 30 a n c n' c' Try.underlying29
  go_enter Try.func25, Try.ntmps25
  go_wp2_with (at_builtin; refine wpList_append_src rfl _ _ 29 rfl w.heap.size 30 i0 (.int .u64 0) 1 8 Try.underlying29 hi0 hz0 hz1 hz2 rfl (by decide) (.slice (some ⟨w.heap.size, 0, none⟩) 0 0) 0 [] rfl (World.ownsRow_made w #[] 0 (Nat.le_refl _) (by unfold maxLen; omega) rfl) _ n xs rfl (hs.alloc _) h1 (by unfold maxLen; omega) (by omega) (by simp) ?_; intro v' w' hown hgr)
  go_ret
  obtain ⟨g, cap, rfl, hb, hrow⟩ := Row.of_own (n := n) (xs := xs) (by simpa using hown) hn0
  exact ⟨g, cap, rfl, hb, hrow, ((Kept.refl _ _).alloc _).grown hgr (by intro k hk; simp [Value.ownBlock] at hk; omega)⟩

theorem copy_any (b g cap : Nat) (ws : List Int) (w : World) (hM : Mem 55 w b g cap ws) (h0 : 0 < ws.length) :
    Calls Try.prog 22 #[.pointer (some ⟨b, 0, none⟩)] w fun e w' => ∃ b' g' cap', e = .returned (.pointer (some ⟨b', 0, none⟩)) ∧ w.heap.size ≤ b' ∧ w.heap.size ≤ g' ∧
      Mem 55 w' b' g' cap' ws ∧ Kept (fun _ => False) w w' := by
  have hc := hM.cell0
  have hl := hM.le
  go_enter Try.func22, Try.ntmps22
  go_wp2_with (go_at_call 25; refine (clone_any _ ws.length _ _ h0 hM.all (ints_oneCell _ _) hl).mono ?_; rintro e w1 ⟨g1, cap1, rfl, hg1, hrow, hk⟩)
  go_ret
  have hlt := hrow.lt
  have hk1 := hk.alloc (.cells #[.slice (some ⟨g1, 0, none⟩) ws.length cap1] 55)
  exact ⟨w1.heap.size, g1, cap1, rfl, hk.size, hg1, ⟨heap_alloc_new _ _, hrow.alloc _, by omega, hl⟩, hk1⟩

theorem take_eq_snoc {xs ys : List Int} {k : Nat} (hx : k < xs.length) (hy : k < ys.length) (h : xs.take k = ys.take k) (he : xs.getD k 0 = ys.getD k 0) : xs.take (k + 1) = ys.take (k + 1) := by
  rw [List.take_succ_eq_append_getElem hx, List.take_succ_eq_append_getElem hy, h]
  simp [List.getD, hx, hy] at he
  rw [he]

theorem same_q (a b : Value) (n m : Nat) (xs ys : List Int) (w : World) (ha : Src w a n 1 (xs.map (Value.int .u64))) (hb : Src w b m 1 (ys.map (Value.int .u64))) (hn : n ≤ 65536) (hm : m ≤ 65536) :
    Calls Try.prog 20 #[a, b] w fun e w' => e = .returned (.bool (decide (xs = ys))) ∧ ∃ q, w' = w.drewN q := by
  obtain ⟨ao, ca, rfl, _, hxl, hca⟩ := ha
  obtain ⟨bo, cb, rfl, _, hyl, hcb⟩ := hb
  simp only [List.length_map, Nat.mul_one] at hxl hyl
  by_cases hnm : n = m
  · subst hnm
    by_cases h0 : n = 0
    · have e1 : xs = [] := List.eq_nil_of_length_eq_zero (by omega)
      have e2 : ys = [] := List.eq_nil_of_length_eq_zero (by omega)
      subst h0 e1 e2
      go_enter Try.func20, Try.ntmps20
      go_wp2
      refine wp_loop_once ?_
      go_wp2
      go_ret
      exact ⟨rfl, 0, rfl⟩
    · have hc1 : ∃ aa, ao = some aa := by
        obtain ⟨ad, h1, _⟩ := hca 0 (.int .u64 (xs.getD 0 0)) (by simp [List.getD, show 0 < xs.length by omega]); exact ⟨ad, h1⟩
      have hc2 : ∃ aa, bo = some aa := by
        obtain ⟨ad, h1, _⟩ := hcb 0 (.int .u64 (ys.getD 0 0)) (by simp [List.getD, show 0 < ys.length by omega]); exact ⟨ad, h1⟩
      obtain ⟨aa, rfl⟩ := hc1
      obtain ⟨ab, rfl⟩ := hc2
      have Ha : Hid (∀ k, k < n → w.cell? (aa.add k) = some (.int .u64 (xs.getD k 0))) := by
        intro k hk
        obtain ⟨ad, h1, h2⟩ := hca k (.int .u64 (xs.getD k 0)) (by simp [List.getD, show k < xs.length by omega])
        cases h1; exact h2
      have Hb : Hid (∀ k, k < n → w.cell? (ab.add k) = some (.int .u64 (ys.getD k 0))) := by
        intro k hk
        obtain ⟨ad, h1, h2⟩ := hcb k (.int .u64 (ys.getD k 0)) (by simp [List.getD, show k < ys.length by omega])
        cases h1; exact h2
      clear hca hcb
      have Hxl := Lib.hid hxl; have Hyl := Lib.hid hyl; clear hxl hyl
      go_enter Try.func20, Try.ntmps20
      go_wp2
      go_loopw [5] (fun i wr => ∃ k : Nat, k ≤ n ∧ i = .int .i64 k ∧ xs.take k = ys.take k ∧ (∃ q, wr = w.drewN q)) (fun i _ => n - (intOf i).toNat)
      case atStart => exact ⟨0, Nat.zero_le _, rfl, rfl, 0, rfl⟩
      case round =>
        obtain ⟨k, hk, rfl, hpre, q, rfl⟩ := hrel
        have Hpre := Lib.hid hpre; clear hpre
        by_cases hlt : k < n
        · have h1 := Ha.out k hlt
          have h2 := Hb.out k hlt
          generalize hu : xs.getD k 0 = u at h1
          generalize hv : ys.getD k 0 = v at h2
          have Hu := Lib.hid hu; have Hv := Lib.hid hv; clear hu hv
          go_wp2
          go_quiet (fail)
          go_wp2
          · have hne : (u != v) = true := by assumption
            go_ret
            refine ⟨ret_bool ?_, ⟨_, World.drewN_drewN _ _ _⟩⟩
            have : xs ≠ ys := by
              rintro rfl
              rw [← Hu.out, ← Hv.out] at hne; simp at hne
            simp [this]
          · have hne : (u != v) = false := by assumption
            go_roundw
            case rel => exact ⟨k + 1, by omega, by go_num, take_eq_snoc (by rw [Hxl.out]; omega) (by rw [Hyl.out]; omega) Hpre.out (by rw [Hu.out, Hv.out]; simpa using hne), _, rfl⟩
            case measure => simp [intOf]; omega
        · go_wp2
          go_ret
          refine ⟨ret_bool ?_, ⟨_, rfl⟩⟩
          have : xs = ys := by
            have h1 := Hpre.out
            rwa [List.take_of_length_le (by rw [Hxl.out]; omega), List.take_of_length_le (by rw [Hyl.out]; omega)] at h1
          simp [this]
  · have hne : ((n : Int) != (m : Int)) = true := by rw [bne_iff_ne]; omega
    have hxy : xs ≠ ys := by rintro rfl; omega
    clear hca hcb
    go_enter Try.func20, Try.ntmps20
    go_wp2
    go_ret
    exact ⟨ret_bool (by simp [hxy]), 0, rfl⟩
theorem same_any (a b : Value) (n m : Nat) (xs ys : List Int) (w : World) (ha : Src w a n 1 (xs.map (Value.int .u64))) (hb : Src w b m 1 (ys.map (Value.int .u64))) (hn : n ≤ 65536) (hm : m ≤ 65536) :
    Calls Try.prog 20 #[a, b] w fun e w' => e = .returned (.bool (decide (xs = ys))) ∧ Kept (fun _ => False) w w' :=
  (same_q a b n m xs ys w ha hb hn hm).mono fun _ _ ⟨he, q, hq⟩ => ⟨he, hq ▸ (Kept.refl _ _).drewN q⟩
end Go.Proofs.Ytnfomlgjnckphaa

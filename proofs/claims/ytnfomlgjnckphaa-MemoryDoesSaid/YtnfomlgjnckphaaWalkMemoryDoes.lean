/- The walk of the law MemoryDoes. -/
import Derived.Test.YtnfomlgjnckphaaSame
set_option linter.all false
namespace Go.Proofs.Ytnfomlgjnckphaa
open Go.RowKit

theorem i64_le {n : Int} (h : (Lit.int .i64 n).wf = true) : n ≤ 9223372036854775807 := by
  simp [Lit.wf, IntKind.min, IntKind.max, IntKind.signed, IntKind.bits] at h
  omega

theorem quiet_more {P : Program} {f : FuncId} {args : Array Value} {w : World} {n : Nat} {v : Value}
    (h : Calls P f args (w.drewN n) fun e w' => e = .returned v ∧ ∃ q, w' = (w.drewN n).drewN q) : Calls P f args (w.drewN n) fun e w'' => e = .returned v ∧ ∃ m, w'' = w.drewN m :=
  h.mono fun _ _ ⟨he, q, hm⟩ => ⟨he, n + q, by rw [hm, World.drewN_drewN]⟩

theorem same_true (a b : Value) (n : Nat) (xs : List Int) (w : World) (ha : Src w a n 1 (xs.map (Value.int .u64))) (hb : Src w b n 1 (xs.map (Value.int .u64))) (hn : n ≤ 65536) :
    Calls Try.prog 20 #[a, b] w fun e w' => e = .returned (.bool true) ∧ ∃ q, w' = w.drewN q :=
  (same_q a b n n xs xs w ha hb hn hn).mono fun _ _ ⟨he, q, hq⟩ => ⟨by rw [he]; simp, q, hq⟩

set_option maxHeartbeats 4000000 in
theorem walkMemoryDoes (w : World) (n : Int) (_ : (Lit.int .i64 n).wf = true)
    (v : Value) (rows : List (List Value)) (hs : Src w v rows.length 5 rows.flatten) (hr : ∀ x ∈ rows, FlatOk [.int .i64, .int .i64, .int .i64, .int .i64, .int .u64] x) (hm : rows.length ≤ maxLen) :
    Calls Try.prog 9 #[.int .i64 n, v] w fun e w' => e = .returned (.bool true) ∧ Below w.heap.size w w' := by
  unfold maxLen at hm
  obtain ⟨ao, c, rfl, hc⟩ := Src.rows (ks := [.int .i64, .int .i64, .int .i64, .int .i64, .int .u64]) hs rfl rfl hr (by decide)
  have Hc := Lib.hid hc
  clear hc hs
  obtain ⟨k, hk, a0, a1⟩ := and_small n 6 (by decide)
  simp only [Int.reducePow, Int.reduceSub] at hk a1
  obtain ⟨k, rfl⟩ := Int.eq_ofNat_of_zero_le a0
  generalize rows.length = len at *
  go_enter Try.func9, Try.ntmps9
  go_wp2_with fail
  refine (new_yes (1 + k) _ (by omega) (by omega)).mono ?_
  rintro e w1 ⟨rfl, hM1, hk1⟩
  go_wp2_with fail
  refine (rnew_yes (1 + k) _ (by omega) (by omega)).mono ?_
  rintro e w2 ⟨rfl, hR2, hk2⟩
  have hM2 := hM1.same hk2
  have HK := Lib.hid hk
  have hM1b := hM1.ltb
  clear hk hM1
  have h1k : ((1 : Int) + k).toNat = 1 + k := by omega
  rw [h1k] at hM2 hR2
  have hw1 := hk1.size
  have hlt1 := hM2.ltg
  clear h1k
  go_wp2_with fail
  have hM2' := hM2.ne
  have hR2' := hR2.ne
  have hkk : New w w2 := hk1.trans hk2
  obtain ⟨b2, hb2⟩ : ∃ b2, b2 = w1.heap.size + 1 := ⟨_, rfl⟩
  obtain ⟨g2, hg2⟩ : ∃ g2, g2 = w1.heap.size := ⟨_, rfl⟩
  rw [← hb2] at hR2 ⊢
  rw [← hg2] at hR2
  have d1 : w.heap.size + 1 ≠ g2 := by have := hM1b; omega
  have d2 : w.heap.size ≠ b2 := by omega
  have d3 : w.heap.size ≠ g2 := by have := hM1b; omega
  have Hb2 : Hid (b2 = w1.heap.size + 1 ∧ g2 = w1.heap.size) := ⟨hb2, hg2⟩
  have q1 : w.heap.size ≤ b2 := by omega
  have q2 : w.heap.size ≤ g2 := by omega
  clear hb2 hg2 hk1 hk2 hM2' hR2' hlt1
  go_loopw [5, 9] (fun m i wr => ∃ (j b g cap : Nat) (ws : List Int), j ≤ len ∧ j ≤ 60 ∧ m = .pointer (some ⟨b, 0, none⟩) ∧ i = .int .i64 j ∧ Mem 55 wr b g cap ws ∧ Mem 52 wr b2 g2 (1 + k) ws ∧ Hid (ws.length = 1 + k) ∧ (b ≠ g2 ∧ g ≠ b2 ∧ g ≠ g2) ∧ w.heap.size ≤ b ∧ w.heap.size ≤ g ∧ New w wr) (fun _ i _ => 60 - (intOf i).toNat)
  case atStart => exact ⟨0, _, _, _, _, Nat.zero_le _, by omega, rfl, rfl, hM2, hR2, by simp [Hid], ⟨d1, d2, d3⟩, by omega, by omega, hkk⟩
  case round =>
    clear hM2 hR2 d1 d2 d3 hkk
    obtain ⟨j, b, g, cap, ws, hjl, hj60, rfl, rfl, hM, hR, Hw, ⟨d1, d2, d3⟩, p1, p2, hk⟩ := hrel
    by_cases h1 : j < len
    · by_cases h2 : j < 60
      · obtain ⟨B, O, x, rfl, hx, _, hcell⟩ := Hc.out j h1
        obtain ⟨kind, oat, ofrm, on, ov, rfl, _, wa, wf, wn⟩ := op_open hx
        have e0 := hcell 0 (.int .i64 kind) rfl
        have e1 := hcell 1 (.int .i64 oat) rfl
        have e2 := hcell 2 (.int .i64 ofrm) rfl
        have e3 := hcell 3 (.int .i64 on) rfl
        have e4 := hcell 4 (.int .u64 ov) rfl
        clear hcell hx
        simp only [Nat.add_zero] at e0
        have f0 := cell_kept hk e0 (fun h => h)
        have f1 := cell_kept hk e1 (fun h => h)
        have f2 := cell_kept hk e2 (fun h => h)
        have f3 := cell_kept hk e3 (fun h => h)
        have f4 := cell_kept hk e4 (fun h => h)
        by_cases hkind : kind = 5
        · subst hkind
          have hlb := hM.ltb; have hlg := hM.ltg; have hlb2 := hR.ltb; have hlg2 := hR.ltg
          have hks := hk.size
          go_wp2_with fail
          refine (copy_any _ _ _ ws _ hM (by have := Hw.out; omega)).mono ?_
          rintro e w3 ⟨b', g', cap', rfl, hb', hg', hM3, hk3⟩
          have hO3 := hM.same hk3
          have hR3 := hR.same hk3
          have hl3 := hk3.size
          go_wp2_with fail
          refine (fill_yes _ _ _ ws 0 1 12345 _ hO3 (by have := Hw.out; simp [inB]; omega)).mono ?_
          rintro e w4 ⟨rfl, _, hk4⟩
          have hM4 := hM3.kept hk4 (by omega) (by omega)
          have hR4 := hR3.kept hk4 (by omega) (by omega)
          have HKK : New w w4 := (hk.trans hk3).new hk4 (by intro i hi; omega)
          have f0 := cell_kept HKK e0 (fun h => h)
          have f1 := cell_kept HKK e1 (fun h => h)
          have f2 := cell_kept HKK e2 (fun h => h)
          have f3 := cell_kept HKK e3 (fun h => h)
          have f4 := cell_kept HKK e4 (fun h => h)
          have D1 : b' ≠ g2 := by omega
          have D2 : g' ≠ b2 := by omega
          have D3 : g' ≠ g2 := by omega
          clear hM hO3 hM3 hR hR3 hk hk3 hk4 e0 e1 e2 e3 e4
          go_wp2_with fail
          refine (same_calls _ b' g' cap' b2 g2 (1 + k) ws 5 oat ofrm on ov hM4 hR4 ⟨D1, D2, D3⟩ (i64_le wa) (i64_le wf) (i64_le wn)).mono ?_
          rintro e w5 ⟨rfl, ws', hl', hM5, hR5, hk5⟩
          have Hw5 : Hid (ws'.length = 1 + k) := hl'.trans Hw.out
          have hk6 : New w w5 := HKK.new hk5 (by intro i hi; omega)
          clear hl' hk5 hM4 hR4
          go_wp2_with fail
          refine (size_any _ _ _ ws' _ hM5).mono ?_
          rintro e w6 ⟨rfl, rfl⟩
          go_wp2_with fail
          refine (words_all _ _ _ ws' _ _ hM5 rfl (by have := Hw5.out; omega)).mono ?_
          rintro e w6 ⟨g1, cap1, rfl, hr1, hg1, hk7⟩
          have hM6 := hM5.same hk7
          have hR6 := hR5.same hk7
          have hk8 := hk6.trans hk7
          have hr6 := hr1.src
          simp only [List.length_map] at hr6
          have hsR := hR6.all
          have hcR := hR6.cell0
          have hMq : ∀ q, Mem 55 (w6.drewN q) b' g' cap' ws' := fun q => hM6.same ((Kept.refl _ _).drewN q)
          have hRq : ∀ q, Mem 52 (w6.drewN q) b2 g2 (1 + k) ws' := fun q => hR6.same ((Kept.refl _ _).drewN q)
          have hsRq : ∀ q, Src (w6.drewN q) (.slice (some ⟨g2, 0, none⟩) ws'.length (1 + k)) ws'.length 1 (ws'.map (Value.int .u64)) := fun q => hsR.same ((Kept.refl _ _).drewN q)
          have hr6q : ∀ q, Src (w6.drewN q) (.slice (some ⟨g1, 0, none⟩) ws'.length cap1) ws'.length 1 (ws'.map (Value.int .u64)) := fun q => hr6.same ((Kept.refl _ _).drewN q)
          have hl65 := hM6.le
          clear hM5 hR5 hr1 hk6 hk7 f0 f1 f2 f3 f4
          go_wp2_with fail
          go_quiet ((first | (go_at_call 20; with_reducible refine quiet_more (same_true _ _ _ ws' _ (hr6q _) (hsRq _) hl65)) | (go_at_call 13; with_reducible refine quiet_eq (size_any _ _ _ ws' _ (hMq _)))))
          go_wp2_with fail
          go_roundw
          case rel => exact ⟨j + 1, b', g', cap', ws', by omega, by omega, rfl, by go_num, hMq _, hRq _, Hw5, ⟨D1, D2, D3⟩, by omega, by omega, hk8.drewN _⟩
          case measure => simp [intOf]; omega
        · have hkf : (kind == 5) = false := by simpa using hkind
          clear e0 e1 e2 e3 e4
          go_wp2_with fail
          refine (same_calls _ b g cap b2 g2 (1 + k) ws kind oat ofrm on ov hM hR ⟨d1, d2, d3⟩ (i64_le wa) (i64_le wf) (i64_le wn)).mono ?_
          rintro e w5 ⟨rfl, ws', hl', hM5, hR5, hk5⟩
          have Hw5 : Hid (ws'.length = 1 + k) := hl'.trans Hw.out
          have hk6 : New w w5 := hk.new hk5 (by intro i hi; omega)
          clear hl' hk5 hM hR
          go_wp2_with fail
          refine (size_any _ _ _ ws' _ hM5).mono ?_
          rintro e w6 ⟨rfl, rfl⟩
          go_wp2_with fail
          refine (words_all _ _ _ ws' _ _ hM5 rfl (by have := Hw5.out; omega)).mono ?_
          rintro e w6 ⟨g1, cap1, rfl, hr1, hg1, hk7⟩
          have hM6 := hM5.same hk7
          have hR6 := hR5.same hk7
          have hk8 := hk6.trans hk7
          have hr6 := hr1.src
          simp only [List.length_map] at hr6
          have hsR := hR6.all
          have hcR := hR6.cell0
          have hMq : ∀ q, Mem 55 (w6.drewN q) b g cap ws' := fun q => hM6.same ((Kept.refl _ _).drewN q)
          have hRq : ∀ q, Mem 52 (w6.drewN q) b2 g2 (1 + k) ws' := fun q => hR6.same ((Kept.refl _ _).drewN q)
          have hsRq : ∀ q, Src (w6.drewN q) (.slice (some ⟨g2, 0, none⟩) ws'.length (1 + k)) ws'.length 1 (ws'.map (Value.int .u64)) := fun q => hsR.same ((Kept.refl _ _).drewN q)
          have hr6q : ∀ q, Src (w6.drewN q) (.slice (some ⟨g1, 0, none⟩) ws'.length cap1) ws'.length 1 (ws'.map (Value.int .u64)) := fun q => hr6.same ((Kept.refl _ _).drewN q)
          have hl65 := hM6.le
          clear hM5 hR5 hr1 hk6 hk7 f0 f1 f2 f3 f4
          go_wp2_with fail
          go_quiet ((first | (go_at_call 20; with_reducible refine quiet_more (same_true _ _ _ ws' _ (hr6q _) (hsRq _) hl65)) | (go_at_call 13; with_reducible refine quiet_eq (size_any _ _ _ ws' _ (hMq _)))))
          go_wp2_with fail
          go_roundw
          case rel => exact ⟨j + 1, b, g, cap, ws', by omega, by omega, rfl, by go_num, hMq _, hRq _, Hw5, ⟨d1, d2, d3⟩, by omega, by omega, hk8.drewN _⟩
          case measure => simp [intOf]; omega
      · go_wp2_with fail
        refine (fixed_any _).mono ?_
        rintro e w6 ⟨rfl, hk6⟩
        go_wp2
        go_ret
        exact ⟨rfl, none_below (hk.trans hk6)⟩
    · go_wp2_with fail
      refine (fixed_any _).mono ?_
      rintro e w6 ⟨rfl, hk6⟩
      go_wp2
      go_ret
      exact ⟨rfl, none_below (hk.trans hk6)⟩
end Go.Proofs.Ytnfomlgjnckphaa

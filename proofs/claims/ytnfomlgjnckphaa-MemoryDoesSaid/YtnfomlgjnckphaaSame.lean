/- The law's own 'same': one call on both memories. -/
import Derived.Test.YtnfomlgjnckphaaMemR
set_option linter.all false
namespace Go.Proofs.Ytnfomlgjnckphaa
open Go.RowKit

/-- Behind a call on both: both hold the same words, as many as before. -/
def SameDone (w : World) (b g cap b2 g2 cap2 : Nat) (ws : List Int) (w' : World) : Prop :=
  ∃ ws' : List Int, ws'.length = ws.length ∧ Mem 55 w' b g cap ws' ∧ Mem 52 w' b2 g2 cap2 ws' ∧ Kept (fun k => k = g ∨ k = g2) w w'

set_option maxHeartbeats 1000000 in
theorem same_read_yes (w : World) (b g cap b2 g2 cap2 : Nat) (ws : List Int) (kind at_ frm n v : Int) (hM : Mem 55 w b g cap ws) (hR : Mem 52 w b2 g2 cap2 ws) (hd : b ≠ g2 ∧ g ≠ b2 ∧ g ≠ g2)
    (ha : at_ ≤ 9223372036854775807) (hf : frm ≤ 9223372036854775807) (hn : n ≤ 9223372036854775807)
    (h0 : 0 ≤ at_) (h1 : at_ < ws.length) :
    Calls Try.prog 23 #[.pointer (some ⟨b, 0, none⟩), .pointer (some ⟨b2, 0, none⟩), .agg #[.int .i64 0, .int .i64 at_, .int .i64 frm, .int .i64 n, .int .u64 v]] w fun e w' => e = .returned (.bool true) ∧ SameDone w b g cap b2 g2 cap2 ws w' := by
  have hB : (w.alloc (.cells #[.int .i64 0, .int .i64 at_, .int .i64 frm, .int .i64 n, .int .u64 v] 32)).heap[w.heap.size]? = some (.cells #[.int .i64 0, .int .i64 at_, .int .i64 frm, .int .i64 n, .int .u64 v] 32 (0, 0)) := heap_alloc_new _ _
  have hM1 := hM.alloc (.cells #[.int .i64 0, .int .i64 at_, .int .i64 frm, .int .i64 n, .int .u64 v] 32)
  have hR1 := hR.alloc (.cells #[.int .i64 0, .int .i64 at_, .int .i64 frm, .int .i64 n, .int .u64 v] 32)
  have hk0 : New w (w.alloc (.cells #[.int .i64 0, .int .i64 at_, .int .i64 frm, .int .i64 n, .int .u64 v] 32)) := (Kept.refl _ _).alloc _
  have hlb := hM.ltb; have hlg := hM.ltg; have hlb2 := hR.ltb; have hlg2 := hR.ltg
  obtain ⟨d1, d2, d3⟩ := hd
  go_enter Try.func23, Try.ntmps23
  go_wp2_with fail
  refine (read_yes _ _ _ ws at_ _ hM1 h0 h1).mono ?_
  rintro e w2 ⟨rfl, rfl⟩
  go_wp2_with fail
  refine (rread_yes _ _ _ ws at_ _ hR1 h0 h1).mono ?_
  rintro e w2 ⟨rfl, rfl⟩
  go_wp2_with fail
  go_ret
  exact ⟨rfl, ws, rfl, hM1, hR1, hk0.mono (fun _ _ h => h.elim)⟩

set_option maxHeartbeats 1000000 in
theorem same_read_no (w : World) (b g cap b2 g2 cap2 : Nat) (ws : List Int) (kind at_ frm n v : Int) (hM : Mem 55 w b g cap ws) (hR : Mem 52 w b2 g2 cap2 ws) (hd : b ≠ g2 ∧ g ≠ b2 ∧ g ≠ g2)
    (ha : at_ ≤ 9223372036854775807) (hf : frm ≤ 9223372036854775807) (hn : n ≤ 9223372036854775807)
    (h0 : ¬ (0 ≤ at_ ∧ at_ < ws.length)) :
    Calls Try.prog 23 #[.pointer (some ⟨b, 0, none⟩), .pointer (some ⟨b2, 0, none⟩), .agg #[.int .i64 0, .int .i64 at_, .int .i64 frm, .int .i64 n, .int .u64 v]] w fun e w' => e = .returned (.bool true) ∧ SameDone w b g cap b2 g2 cap2 ws w' := by
  have hB : (w.alloc (.cells #[.int .i64 0, .int .i64 at_, .int .i64 frm, .int .i64 n, .int .u64 v] 32)).heap[w.heap.size]? = some (.cells #[.int .i64 0, .int .i64 at_, .int .i64 frm, .int .i64 n, .int .u64 v] 32 (0, 0)) := heap_alloc_new _ _
  have hM1 := hM.alloc (.cells #[.int .i64 0, .int .i64 at_, .int .i64 frm, .int .i64 n, .int .u64 v] 32)
  have hR1 := hR.alloc (.cells #[.int .i64 0, .int .i64 at_, .int .i64 frm, .int .i64 n, .int .u64 v] 32)
  have hk0 : New w (w.alloc (.cells #[.int .i64 0, .int .i64 at_, .int .i64 frm, .int .i64 n, .int .u64 v] 32)) := (Kept.refl _ _).alloc _
  have hlb := hM.ltb; have hlg := hM.ltg; have hlb2 := hR.ltb; have hlg2 := hR.ltg
  obtain ⟨d1, d2, d3⟩ := hd
  go_enter Try.func23, Try.ntmps23
  go_wp2_with fail
  refine (read_no _ _ _ ws at_ _ hM1 h0 ha).mono ?_
  rintro e w2 ⟨rfl, rfl⟩
  go_wp2_with fail
  refine (rread_no _ _ _ ws at_ _ hR1 h0 ha).mono ?_
  rintro e w2 ⟨rfl, rfl⟩
  go_wp2_with fail
  go_ret
  exact ⟨rfl, ws, rfl, hM1, hR1, hk0.mono (fun _ _ h => h.elim)⟩

set_option maxHeartbeats 1000000 in
theorem same_write_yes (w : World) (b g cap b2 g2 cap2 : Nat) (ws : List Int) (kind at_ frm n v : Int) (hM : Mem 55 w b g cap ws) (hR : Mem 52 w b2 g2 cap2 ws) (hd : b ≠ g2 ∧ g ≠ b2 ∧ g ≠ g2)
    (ha : at_ ≤ 9223372036854775807) (hf : frm ≤ 9223372036854775807) (hn : n ≤ 9223372036854775807)
    (h0 : 0 ≤ at_) (h1 : at_ < ws.length) :
    Calls Try.prog 23 #[.pointer (some ⟨b, 0, none⟩), .pointer (some ⟨b2, 0, none⟩), .agg #[.int .i64 1, .int .i64 at_, .int .i64 frm, .int .i64 n, .int .u64 v]] w fun e w' => e = .returned (.bool true) ∧ SameDone w b g cap b2 g2 cap2 ws w' := by
  have hB : (w.alloc (.cells #[.int .i64 1, .int .i64 at_, .int .i64 frm, .int .i64 n, .int .u64 v] 32)).heap[w.heap.size]? = some (.cells #[.int .i64 1, .int .i64 at_, .int .i64 frm, .int .i64 n, .int .u64 v] 32 (0, 0)) := heap_alloc_new _ _
  have hM1 := hM.alloc (.cells #[.int .i64 1, .int .i64 at_, .int .i64 frm, .int .i64 n, .int .u64 v] 32)
  have hR1 := hR.alloc (.cells #[.int .i64 1, .int .i64 at_, .int .i64 frm, .int .i64 n, .int .u64 v] 32)
  have hk0 : New w (w.alloc (.cells #[.int .i64 1, .int .i64 at_, .int .i64 frm, .int .i64 n, .int .u64 v] 32)) := (Kept.refl _ _).alloc _
  have hlb := hM.ltb; have hlg := hM.ltg; have hlb2 := hR.ltb; have hlg2 := hR.ltg
  obtain ⟨d1, d2, d3⟩ := hd
  go_enter Try.func23, Try.ntmps23
  go_wp2_with fail
  refine (write_yes _ _ _ ws at_ v _ hM1 h0 h1).mono ?_
  rintro e w2 ⟨rfl, hM2, hk2⟩
  have hR2 := hR1.kept hk2 (Ne.symm d2) (Ne.symm d3)
  have hB2 := hk2.heap hB (by omega)
  have l1 : w2.cell? ⟨w.heap.size, 1, none⟩ = some (.int .i64 at_) := cell_blk hB2 1
  have l4 : w2.cell? ⟨w.heap.size, 4, none⟩ = some (.int .u64 v) := cell_blk hB2 4
  go_wp2_with fail
  refine (rwrite_yes _ _ _ ws at_ v _ hR2 h0 h1).mono ?_
  rintro e w3 ⟨rfl, hR3, hk3⟩
  have hM3 := hM2.kept hk3 d1 d3
  go_wp2_with fail
  go_ret
  exact ⟨rfl, _, by simp, hM3, hR3, (hk0.mono (fun _ _ h => h.elim)).trans ((hk2.mono (fun _ _ h => .inl h)).trans (hk3.mono (fun _ _ h => .inr h)))⟩

set_option maxHeartbeats 1000000 in
theorem same_write_no (w : World) (b g cap b2 g2 cap2 : Nat) (ws : List Int) (kind at_ frm n v : Int) (hM : Mem 55 w b g cap ws) (hR : Mem 52 w b2 g2 cap2 ws) (hd : b ≠ g2 ∧ g ≠ b2 ∧ g ≠ g2)
    (ha : at_ ≤ 9223372036854775807) (hf : frm ≤ 9223372036854775807) (hn : n ≤ 9223372036854775807)
    (h0 : ¬ (0 ≤ at_ ∧ at_ < ws.length)) :
    Calls Try.prog 23 #[.pointer (some ⟨b, 0, none⟩), .pointer (some ⟨b2, 0, none⟩), .agg #[.int .i64 1, .int .i64 at_, .int .i64 frm, .int .i64 n, .int .u64 v]] w fun e w' => e = .returned (.bool true) ∧ SameDone w b g cap b2 g2 cap2 ws w' := by
  have hB : (w.alloc (.cells #[.int .i64 1, .int .i64 at_, .int .i64 frm, .int .i64 n, .int .u64 v] 32)).heap[w.heap.size]? = some (.cells #[.int .i64 1, .int .i64 at_, .int .i64 frm, .int .i64 n, .int .u64 v] 32 (0, 0)) := heap_alloc_new _ _
  have hM1 := hM.alloc (.cells #[.int .i64 1, .int .i64 at_, .int .i64 frm, .int .i64 n, .int .u64 v] 32)
  have hR1 := hR.alloc (.cells #[.int .i64 1, .int .i64 at_, .int .i64 frm, .int .i64 n, .int .u64 v] 32)
  have hk0 : New w (w.alloc (.cells #[.int .i64 1, .int .i64 at_, .int .i64 frm, .int .i64 n, .int .u64 v] 32)) := (Kept.refl _ _).alloc _
  have hlb := hM.ltb; have hlg := hM.ltg; have hlb2 := hR.ltb; have hlg2 := hR.ltg
  obtain ⟨d1, d2, d3⟩ := hd
  go_enter Try.func23, Try.ntmps23
  go_wp2_with fail
  refine (write_no _ _ _ ws at_ v _ hM1 h0 ha).mono ?_
  rintro e w2 ⟨rfl, rfl⟩
  go_wp2_with fail
  refine (rwrite_no _ _ _ ws at_ v _ hR1 h0 ha).mono ?_
  rintro e w2 ⟨rfl, rfl⟩
  go_wp2_with fail
  go_ret
  exact ⟨rfl, ws, rfl, hM1, hR1, hk0.mono (fun _ _ h => h.elim)⟩

set_option maxHeartbeats 1000000 in
theorem same_words_no (w : World) (b g cap b2 g2 cap2 : Nat) (ws : List Int) (kind at_ frm n v : Int) (hM : Mem 55 w b g cap ws) (hR : Mem 52 w b2 g2 cap2 ws) (hd : b ≠ g2 ∧ g ≠ b2 ∧ g ≠ g2)
    (ha : at_ ≤ 9223372036854775807) (hf : frm ≤ 9223372036854775807) (hn : n ≤ 9223372036854775807)
    (h0 : inB at_ n ws.length = false) :
    Calls Try.prog 23 #[.pointer (some ⟨b, 0, none⟩), .pointer (some ⟨b2, 0, none⟩), .agg #[.int .i64 2, .int .i64 at_, .int .i64 frm, .int .i64 n, .int .u64 v]] w fun e w' => e = .returned (.bool true) ∧ SameDone w b g cap b2 g2 cap2 ws w' := by
  have hB : (w.alloc (.cells #[.int .i64 2, .int .i64 at_, .int .i64 frm, .int .i64 n, .int .u64 v] 32)).heap[w.heap.size]? = some (.cells #[.int .i64 2, .int .i64 at_, .int .i64 frm, .int .i64 n, .int .u64 v] 32 (0, 0)) := heap_alloc_new _ _
  have hM1 := hM.alloc (.cells #[.int .i64 2, .int .i64 at_, .int .i64 frm, .int .i64 n, .int .u64 v] 32)
  have hR1 := hR.alloc (.cells #[.int .i64 2, .int .i64 at_, .int .i64 frm, .int .i64 n, .int .u64 v] 32)
  have hk0 : New w (w.alloc (.cells #[.int .i64 2, .int .i64 at_, .int .i64 frm, .int .i64 n, .int .u64 v] 32)) := (Kept.refl _ _).alloc _
  have hlb := hM.ltb; have hlg := hM.ltg; have hlb2 := hR.ltb; have hlg2 := hR.ltg
  obtain ⟨d1, d2, d3⟩ := hd
  go_enter Try.func23, Try.ntmps23
  go_wp2_with fail
  refine (words_no _ _ _ ws at_ n _ hM1 h0 ha hn).mono ?_
  rintro e w2 ⟨rfl, rfl⟩
  go_wp2_with fail
  refine (rwords_no _ _ _ ws at_ n _ hR1 h0 ha hn).mono ?_
  rintro e w2 ⟨rfl, rfl⟩
  have hs : ∀ w, Src w (.slice none 0 0) 0 1 (([] : List Int).map (Value.int .u64)) := fun w => ⟨none, 0, rfl, fun _ => rfl, by simp, by simp⟩
  go_wp2_with fail
  refine (same_q _ _ 0 0 [] [] _ (hs _) (hs _) (by decide) (by decide)).mono ?_
  rintro e w2 ⟨rfl, q, rfl⟩
  simp only [decide_true]
  go_wp2_with fail
  refine wp_loop_once ?_
  go_wp2
  go_ret
  have hk : New _ _ := (Kept.refl (fun _ => False) (w.alloc (.cells #[.int .i64 2, .int .i64 at_, .int .i64 frm, .int .i64 n, .int .u64 v] 32))).drewN q
  exact ⟨rfl, ws, rfl, hM1.same hk, hR1.same hk, (hk0.trans hk).mono (fun _ _ h => h.elim)⟩

set_option maxHeartbeats 1000000 in
theorem same_words_yes (w : World) (b g cap b2 g2 cap2 : Nat) (ws : List Int) (kind at_ frm n v : Int) (hM : Mem 55 w b g cap ws) (hR : Mem 52 w b2 g2 cap2 ws) (hd : b ≠ g2 ∧ g ≠ b2 ∧ g ≠ g2)
    (ha : at_ ≤ 9223372036854775807) (hf : frm ≤ 9223372036854775807) (hn : n ≤ 9223372036854775807)
    (h0 : inB at_ n ws.length = true) :
    Calls Try.prog 23 #[.pointer (some ⟨b, 0, none⟩), .pointer (some ⟨b2, 0, none⟩), .agg #[.int .i64 2, .int .i64 at_, .int .i64 frm, .int .i64 n, .int .u64 v]] w fun e w' => e = .returned (.bool true) ∧ SameDone w b g cap b2 g2 cap2 ws w' := by
  have hB : (w.alloc (.cells #[.int .i64 2, .int .i64 at_, .int .i64 frm, .int .i64 n, .int .u64 v] 32)).heap[w.heap.size]? = some (.cells #[.int .i64 2, .int .i64 at_, .int .i64 frm, .int .i64 n, .int .u64 v] 32 (0, 0)) := heap_alloc_new _ _
  have hM1 := hM.alloc (.cells #[.int .i64 2, .int .i64 at_, .int .i64 frm, .int .i64 n, .int .u64 v] 32)
  have hR1 := hR.alloc (.cells #[.int .i64 2, .int .i64 at_, .int .i64 frm, .int .i64 n, .int .u64 v] 32)
  have hk0 : New w (w.alloc (.cells #[.int .i64 2, .int .i64 at_, .int .i64 frm, .int .i64 n, .int .u64 v] 32)) := (Kept.refl _ _).alloc _
  have hlb := hM.ltb; have hlg := hM.ltg; have hlb2 := hR.ltb; have hlg2 := hR.ltg
  obtain ⟨d1, d2, d3⟩ := hd
  have hle := hM.le
  obtain ⟨a0, a1, a2⟩ : 0 ≤ at_ ∧ 0 ≤ n ∧ at_ + n ≤ ws.length := by simpa [inB] using h0
  go_enter Try.func23, Try.ntmps23
  go_wp2_with fail
  refine (words_yes _ _ _ ws at_ n _ hM1 h0).mono ?_
  rintro e w2 ⟨va, rfl, ho1, hk2⟩
  have hM2 := hM1.same hk2
  have hR2 := hR1.same hk2
  have hB2 := hk2.heap hB (fun h => h)
  have l1 : w2.cell? ⟨w.heap.size, 1, none⟩ = some (.int .i64 at_) := cell_blk hB2 1
  have l3 : w2.cell? ⟨w.heap.size, 3, none⟩ = some (.int .i64 n) := cell_blk hB2 3
  go_wp2_with fail
  refine (rwords_yes _ _ _ ws at_ n _ hR2 h0).mono ?_
  rintro e w3 ⟨vb, rfl, ho2, hk3⟩
  have hM3 := hM2.same hk3
  have hR3 := hR2.same hk3
  go_wp2_with fail
  refine (same_q _ _ n.toNat n.toNat _ _ _ ((Src.of_own ho1).same hk3) (Src.of_own ho2) (by omega) (by omega)).mono ?_
  rintro e w4 ⟨rfl, q, rfl⟩
  simp only [decide_true]
  have hkq : New w3 (w3.drewN q) := (Kept.refl _ _).drewN q
  have hM4 := hM3.same hkq
  have hR4 := hR3.same hkq
  have hk5 : New w (w3.drewN q) := ((hk0.trans hk2).trans hk3).trans hkq
  by_cases hm0 : n.toNat = 0
  · have hva : ∃ ao c, va = .slice ao 0 c := by
      obtain ⟨ao, c, h, _⟩ := Src.of_own ho1
      exact ⟨ao, c, by rw [h, hm0]⟩
    obtain ⟨ao, c, rfl⟩ := hva
    clear ho1 ho2 hB hB2 l1 l3
    go_wp2_with fail
    refine wp_loop_once ?_
    go_wp2
    go_ret
    exact ⟨rfl, ws, rfl, hM4, hR4, hk5.mono (fun _ _ h => h.elim)⟩
  · obtain ⟨g1, cap1, rfl, hb1, hrow⟩ := Row.of_own ho1 (by omega)
    have hrow4 := (hrow.same hk3).same hkq
    have hlen : Hid ((((ws.drop at_.toNat).take n.toNat).map (Value.int .u64)).length = n.toNat) := by show _ = _; simp; omega
    have hk0s := hk0.size
    have hsz : w.heap.size ≤ g1 := by omega
    generalize ((ws.drop at_.toNat).take n.toNat).map (Value.int .u64) = xs at hrow4 hlen
    have hcapl := hrow4.le
    rw [hlen.out] at hcapl
    have hnn : n.toNat ≤ 65536 := by omega
    clear ho1 ho2 hB hB2 l1 l3 hM3 hR3 hM2 hR2 hM1 hR1 hrow
    generalize n.toNat = m at *
    go_wp2_with fail
    go_loopw [16] (fun i wr => ∃ (k : Nat) (xs : List Value), k ≤ m ∧ i = .int .i64 k ∧ Row wr g1 cap1 30 xs ∧ Hid (xs.length = m) ∧ Mem 55 wr b g cap ws ∧ Mem 52 wr b2 g2 cap2 ws ∧ New w wr) (fun i _ => m - (intOf i).toNat)
    case atStart => exact ⟨0, xs, Nat.zero_le _, rfl, hrow4, hlen, hM4, hR4, hk5⟩
    case round =>
      clear hlen hrow4 hM4 hR4 hk5
      obtain ⟨k, xs, hkm, rfl, hrr, hlen, hMr, hRr, hkr⟩ := hrel
      by_cases hlt : k < m
      · have hcw := hrr.cell (i := k) (by rw [hlen.out]; omega)
        have hfw := hrr.free k
        have hst := hrr.set k (.int .u64 99)
        have hkst : Kept (fun i => i = g1) wr (wr.setCell ⟨g1, k, none⟩ (.int .u64 99)) := (Kept.refl (fun i => i = g1) wr).setCell (.inr rfl) _
        generalize xs[k]'(by rw [hlen.out]; omega) = u at hcw
        go_wp2
        go_roundw
        case rel => exact ⟨k + 1, _, by omega, by go_num, hst, by have := hlen.out; show _ = _; simpa using this, hMr.kept hkst (by omega) (by omega), hRr.kept hkst (by omega) (by omega), hkr.new hkst (by intro i hi; omega)⟩
        case measure => simp [intOf]; omega
      · obtain rfl : k = m := by omega
        go_wp2
        go_ret
        exact ⟨rfl, ws, rfl, hMr, hRr, hkr.mono (fun _ _ h => h.elim)⟩

set_option maxHeartbeats 1000000 in
theorem same_fill_no (w : World) (b g cap b2 g2 cap2 : Nat) (ws : List Int) (kind at_ frm n v : Int) (hM : Mem 55 w b g cap ws) (hR : Mem 52 w b2 g2 cap2 ws) (hd : b ≠ g2 ∧ g ≠ b2 ∧ g ≠ g2)
    (ha : at_ ≤ 9223372036854775807) (hf : frm ≤ 9223372036854775807) (hn : n ≤ 9223372036854775807)
    (h0 : inB at_ n ws.length = false) :
    Calls Try.prog 23 #[.pointer (some ⟨b, 0, none⟩), .pointer (some ⟨b2, 0, none⟩), .agg #[.int .i64 3, .int .i64 at_, .int .i64 frm, .int .i64 n, .int .u64 v]] w fun e w' => e = .returned (.bool true) ∧ SameDone w b g cap b2 g2 cap2 ws w' := by
  have hB : (w.alloc (.cells #[.int .i64 3, .int .i64 at_, .int .i64 frm, .int .i64 n, .int .u64 v] 32)).heap[w.heap.size]? = some (.cells #[.int .i64 3, .int .i64 at_, .int .i64 frm, .int .i64 n, .int .u64 v] 32 (0, 0)) := heap_alloc_new _ _
  have hM1 := hM.alloc (.cells #[.int .i64 3, .int .i64 at_, .int .i64 frm, .int .i64 n, .int .u64 v] 32)
  have hR1 := hR.alloc (.cells #[.int .i64 3, .int .i64 at_, .int .i64 frm, .int .i64 n, .int .u64 v] 32)
  have hk0 : New w (w.alloc (.cells #[.int .i64 3, .int .i64 at_, .int .i64 frm, .int .i64 n, .int .u64 v] 32)) := (Kept.refl _ _).alloc _
  have hlb := hM.ltb; have hlg := hM.ltg; have hlb2 := hR.ltb; have hlg2 := hR.ltg
  obtain ⟨d1, d2, d3⟩ := hd
  go_enter Try.func23, Try.ntmps23
  go_wp2_with fail
  refine (fill_no _ _ _ ws at_ n v _ hM1 h0 ha hn).mono ?_
  rintro e w2 ⟨rfl, rfl⟩
  go_wp2_with fail
  refine (rfill_no _ _ _ ws at_ n v _ hR1 h0 ha hn).mono ?_
  rintro e w2 ⟨rfl, rfl⟩
  go_wp2_with fail
  go_ret
  exact ⟨rfl, ws, rfl, hM1, hR1, hk0.mono (fun _ _ h => h.elim)⟩

set_option maxHeartbeats 1000000 in
theorem same_fill_yes (w : World) (b g cap b2 g2 cap2 : Nat) (ws : List Int) (kind at_ frm n v : Int) (hM : Mem 55 w b g cap ws) (hR : Mem 52 w b2 g2 cap2 ws) (hd : b ≠ g2 ∧ g ≠ b2 ∧ g ≠ g2)
    (ha : at_ ≤ 9223372036854775807) (hf : frm ≤ 9223372036854775807) (hn : n ≤ 9223372036854775807)
    (h0 : inB at_ n ws.length = true) :
    Calls Try.prog 23 #[.pointer (some ⟨b, 0, none⟩), .pointer (some ⟨b2, 0, none⟩), .agg #[.int .i64 3, .int .i64 at_, .int .i64 frm, .int .i64 n, .int .u64 v]] w fun e w' => e = .returned (.bool true) ∧ SameDone w b g cap b2 g2 cap2 ws w' := by
  have hB : (w.alloc (.cells #[.int .i64 3, .int .i64 at_, .int .i64 frm, .int .i64 n, .int .u64 v] 32)).heap[w.heap.size]? = some (.cells #[.int .i64 3, .int .i64 at_, .int .i64 frm, .int .i64 n, .int .u64 v] 32 (0, 0)) := heap_alloc_new _ _
  have hM1 := hM.alloc (.cells #[.int .i64 3, .int .i64 at_, .int .i64 frm, .int .i64 n, .int .u64 v] 32)
  have hR1 := hR.alloc (.cells #[.int .i64 3, .int .i64 at_, .int .i64 frm, .int .i64 n, .int .u64 v] 32)
  have hk0 : New w (w.alloc (.cells #[.int .i64 3, .int .i64 at_, .int .i64 frm, .int .i64 n, .int .u64 v] 32)) := (Kept.refl _ _).alloc _
  have hlb := hM.ltb; have hlg := hM.ltg; have hlb2 := hR.ltb; have hlg2 := hR.ltg
  obtain ⟨d1, d2, d3⟩ := hd
  obtain ⟨a0, a1, a2⟩ : 0 ≤ at_ ∧ 0 ≤ n ∧ at_ + n ≤ ws.length := by simpa [inB] using h0
  go_enter Try.func23, Try.ntmps23
  go_wp2_with fail
  refine (fill_yes _ _ _ ws at_ n v _ hM1 h0).mono ?_
  rintro e w2 ⟨rfl, hM2, hk2⟩
  have hR2 := hR1.kept hk2 (Ne.symm d2) (Ne.symm d3)
  have hB2 := hk2.heap hB (by omega)
  have l1 : w2.cell? ⟨w.heap.size, 1, none⟩ = some (.int .i64 at_) := cell_blk hB2 1
  have l3 : w2.cell? ⟨w.heap.size, 3, none⟩ = some (.int .i64 n) := cell_blk hB2 3
  have l4 : w2.cell? ⟨w.heap.size, 4, none⟩ = some (.int .u64 v) := cell_blk hB2 4
  go_wp2_with fail
  refine (rfill_yes _ _ _ ws at_ n v _ hR2 h0).mono ?_
  rintro e w3 ⟨rfl, hR3, hk3⟩
  have hM3 := hM2.kept hk3 d1 d3
  go_wp2_with fail
  go_ret
  exact ⟨rfl, _, length_splice _ _ _ (by simp; omega), hM3, hR3, (hk0.mono (fun _ _ h => h.elim)).trans ((hk2.mono (fun _ _ h => .inl h)).trans (hk3.mono (fun _ _ h => .inr h)))⟩

set_option maxHeartbeats 1000000 in
theorem same_move_no (w : World) (b g cap b2 g2 cap2 : Nat) (ws : List Int) (kind at_ frm n v : Int) (hM : Mem 55 w b g cap ws) (hR : Mem 52 w b2 g2 cap2 ws) (hd : b ≠ g2 ∧ g ≠ b2 ∧ g ≠ g2)
    (ha : at_ ≤ 9223372036854775807) (hf : frm ≤ 9223372036854775807) (hn : n ≤ 9223372036854775807)
    (h0 : ¬ (inB at_ n ws.length = true ∧ inB frm n ws.length = true)) :
    Calls Try.prog 23 #[.pointer (some ⟨b, 0, none⟩), .pointer (some ⟨b2, 0, none⟩), .agg #[.int .i64 4, .int .i64 at_, .int .i64 frm, .int .i64 n, .int .u64 v]] w fun e w' => e = .returned (.bool true) ∧ SameDone w b g cap b2 g2 cap2 ws w' := by
  have hB : (w.alloc (.cells #[.int .i64 4, .int .i64 at_, .int .i64 frm, .int .i64 n, .int .u64 v] 32)).heap[w.heap.size]? = some (.cells #[.int .i64 4, .int .i64 at_, .int .i64 frm, .int .i64 n, .int .u64 v] 32 (0, 0)) := heap_alloc_new _ _
  have hM1 := hM.alloc (.cells #[.int .i64 4, .int .i64 at_, .int .i64 frm, .int .i64 n, .int .u64 v] 32)
  have hR1 := hR.alloc (.cells #[.int .i64 4, .int .i64 at_, .int .i64 frm, .int .i64 n, .int .u64 v] 32)
  have hk0 : New w (w.alloc (.cells #[.int .i64 4, .int .i64 at_, .int .i64 frm, .int .i64 n, .int .u64 v] 32)) := (Kept.refl _ _).alloc _
  have hlb := hM.ltb; have hlg := hM.ltg; have hlb2 := hR.ltb; have hlg2 := hR.ltg
  obtain ⟨d1, d2, d3⟩ := hd
  go_enter Try.func23, Try.ntmps23
  go_wp2_with fail
  refine (move_no _ _ _ ws at_ frm n _ hM1 h0 ha hf hn).mono ?_
  rintro e w2 ⟨rfl, rfl⟩
  go_wp2_with fail
  refine (rmove_no _ _ _ ws at_ frm n _ hR1 h0 ha hf hn).mono ?_
  rintro e w2 ⟨rfl, rfl⟩
  go_wp2_with fail
  go_ret
  exact ⟨rfl, ws, rfl, hM1, hR1, hk0.mono (fun _ _ h => h.elim)⟩

set_option maxHeartbeats 1000000 in
theorem same_move_yes (w : World) (b g cap b2 g2 cap2 : Nat) (ws : List Int) (kind at_ frm n v : Int) (hM : Mem 55 w b g cap ws) (hR : Mem 52 w b2 g2 cap2 ws) (hd : b ≠ g2 ∧ g ≠ b2 ∧ g ≠ g2)
    (ha : at_ ≤ 9223372036854775807) (hf : frm ≤ 9223372036854775807) (hn : n ≤ 9223372036854775807)
    (h0 : inB at_ n ws.length = true) (h1 : inB frm n ws.length = true) :
    Calls Try.prog 23 #[.pointer (some ⟨b, 0, none⟩), .pointer (some ⟨b2, 0, none⟩), .agg #[.int .i64 4, .int .i64 at_, .int .i64 frm, .int .i64 n, .int .u64 v]] w fun e w' => e = .returned (.bool true) ∧ SameDone w b g cap b2 g2 cap2 ws w' := by
  have hB : (w.alloc (.cells #[.int .i64 4, .int .i64 at_, .int .i64 frm, .int .i64 n, .int .u64 v] 32)).heap[w.heap.size]? = some (.cells #[.int .i64 4, .int .i64 at_, .int .i64 frm, .int .i64 n, .int .u64 v] 32 (0, 0)) := heap_alloc_new _ _
  have hM1 := hM.alloc (.cells #[.int .i64 4, .int .i64 at_, .int .i64 frm, .int .i64 n, .int .u64 v] 32)
  have hR1 := hR.alloc (.cells #[.int .i64 4, .int .i64 at_, .int .i64 frm, .int .i64 n, .int .u64 v] 32)
  have hk0 : New w (w.alloc (.cells #[.int .i64 4, .int .i64 at_, .int .i64 frm, .int .i64 n, .int .u64 v] 32)) := (Kept.refl _ _).alloc _
  have hlb := hM.ltb; have hlg := hM.ltg; have hlb2 := hR.ltb; have hlg2 := hR.ltg
  obtain ⟨d1, d2, d3⟩ := hd
  obtain ⟨a0, a1, a2⟩ : 0 ≤ at_ ∧ 0 ≤ n ∧ at_ + n ≤ ws.length := by simpa [inB] using h0
  obtain ⟨b0, b1, b2⟩ : 0 ≤ frm ∧ 0 ≤ n ∧ frm + n ≤ ws.length := by simpa [inB] using h1
  go_enter Try.func23, Try.ntmps23
  go_wp2_with fail
  refine (move_yes _ _ _ ws at_ frm n _ hM1 h0 h1).mono ?_
  rintro e w2 ⟨rfl, hM2, hk2⟩
  have hR2 := hR1.kept hk2 (Ne.symm d2) (Ne.symm d3)
  have hB2 := hk2.heap hB (by omega)
  have l1 : w2.cell? ⟨w.heap.size, 1, none⟩ = some (.int .i64 at_) := cell_blk hB2 1
  have l2 : w2.cell? ⟨w.heap.size, 2, none⟩ = some (.int .i64 frm) := cell_blk hB2 2
  have l3 : w2.cell? ⟨w.heap.size, 3, none⟩ = some (.int .i64 n) := cell_blk hB2 3
  go_wp2_with fail
  refine (rmove_yes _ _ _ ws at_ frm n _ hR2 h0 h1).mono ?_
  rintro e w3 ⟨rfl, hR3, hk3⟩
  have hM3 := hM2.kept hk3 d1 d3
  go_wp2_with fail
  go_ret
  exact ⟨rfl, _, length_splice _ _ _ (by simp; omega), hM3, hR3, (hk0.mono (fun _ _ h => h.elim)).trans ((hk2.mono (fun _ _ h => .inl h)).trans (hk3.mono (fun _ _ h => .inr h)))⟩

set_option maxHeartbeats 1000000 in
theorem same_other (w : World) (b g cap b2 g2 cap2 : Nat) (ws : List Int) (kind at_ frm n v : Int) (hM : Mem 55 w b g cap ws) (hR : Mem 52 w b2 g2 cap2 ws) (hd : b ≠ g2 ∧ g ≠ b2 ∧ g ≠ g2)
    (ha : at_ ≤ 9223372036854775807) (hf : frm ≤ 9223372036854775807) (hn : n ≤ 9223372036854775807)
    (h0 : (kind == 0) = false) (h1 : (kind == 1) = false) (h2 : (kind == 2) = false) (h3 : (kind == 3) = false) (h4 : (kind == 4) = false) :
    Calls Try.prog 23 #[.pointer (some ⟨b, 0, none⟩), .pointer (some ⟨b2, 0, none⟩), .agg #[.int .i64 kind, .int .i64 at_, .int .i64 frm, .int .i64 n, .int .u64 v]] w fun e w' => e = .returned (.bool true) ∧ SameDone w b g cap b2 g2 cap2 ws w' := by
  have hB : (w.alloc (.cells #[.int .i64 kind, .int .i64 at_, .int .i64 frm, .int .i64 n, .int .u64 v] 32)).heap[w.heap.size]? = some (.cells #[.int .i64 kind, .int .i64 at_, .int .i64 frm, .int .i64 n, .int .u64 v] 32 (0, 0)) := heap_alloc_new _ _
  have hM1 := hM.alloc (.cells #[.int .i64 kind, .int .i64 at_, .int .i64 frm, .int .i64 n, .int .u64 v] 32)
  have hR1 := hR.alloc (.cells #[.int .i64 kind, .int .i64 at_, .int .i64 frm, .int .i64 n, .int .u64 v] 32)
  have hk0 : New w (w.alloc (.cells #[.int .i64 kind, .int .i64 at_, .int .i64 frm, .int .i64 n, .int .u64 v] 32)) := (Kept.refl _ _).alloc _
  have hlb := hM.ltb; have hlg := hM.ltg; have hlb2 := hR.ltb; have hlg2 := hR.ltg
  obtain ⟨d1, d2, d3⟩ := hd
  go_enter Try.func23, Try.ntmps23
  go_wp2_with fail
  go_ret
  exact ⟨rfl, ws, rfl, hM1, hR1, hk0.mono (fun _ _ h => h.elim)⟩

theorem same_calls (w : World) (b g cap b2 g2 cap2 : Nat) (ws : List Int) (kind at_ frm n v : Int) (hM : Mem 55 w b g cap ws) (hR : Mem 52 w b2 g2 cap2 ws) (hd : b ≠ g2 ∧ g ≠ b2 ∧ g ≠ g2)
    (ha : at_ ≤ 9223372036854775807) (hf : frm ≤ 9223372036854775807) (hn : n ≤ 9223372036854775807) :
    Calls Try.prog 23 #[.pointer (some ⟨b, 0, none⟩), .pointer (some ⟨b2, 0, none⟩), .agg #[.int .i64 kind, .int .i64 at_, .int .i64 frm, .int .i64 n, .int .u64 v]] w fun e w' => e = .returned (.bool true) ∧ SameDone w b g cap b2 g2 cap2 ws w' := by
  by_cases k0 : kind = 0
  · subst k0
    by_cases h : 0 ≤ at_ ∧ at_ < ws.length
    · exact same_read_yes w b g cap b2 g2 cap2 ws 0 at_ frm n v hM hR hd ha hf hn h.1 h.2
    · exact same_read_no w b g cap b2 g2 cap2 ws 0 at_ frm n v hM hR hd ha hf hn h
  by_cases k1 : kind = 1
  · subst k1
    by_cases h : 0 ≤ at_ ∧ at_ < ws.length
    · exact same_write_yes w b g cap b2 g2 cap2 ws 0 at_ frm n v hM hR hd ha hf hn h.1 h.2
    · exact same_write_no w b g cap b2 g2 cap2 ws 0 at_ frm n v hM hR hd ha hf hn h
  by_cases k2 : kind = 2
  · subst k2
    cases h : inB at_ n ws.length with
    | true => exact same_words_yes w b g cap b2 g2 cap2 ws 0 at_ frm n v hM hR hd ha hf hn h
    | false => exact same_words_no w b g cap b2 g2 cap2 ws 0 at_ frm n v hM hR hd ha hf hn h
  by_cases k3 : kind = 3
  · subst k3
    cases h : inB at_ n ws.length with
    | true => exact same_fill_yes w b g cap b2 g2 cap2 ws 0 at_ frm n v hM hR hd ha hf hn h
    | false => exact same_fill_no w b g cap b2 g2 cap2 ws 0 at_ frm n v hM hR hd ha hf hn h
  by_cases k4 : kind = 4
  · subst k4
    by_cases h : inB at_ n ws.length = true ∧ inB frm n ws.length = true
    · exact same_move_yes w b g cap b2 g2 cap2 ws 0 at_ frm n v hM hR hd ha hf hn h.1 h.2
    · exact same_move_no w b g cap b2 g2 cap2 ws 0 at_ frm n v hM hR hd ha hf hn h
  exact same_other w b g cap b2 g2 cap2 ws kind at_ frm n v hM hR hd ha hf hn (by simpa using k0) (by simpa using k1) (by simpa using k2) (by simpa using k3) (by simpa using k4)
end Go.Proofs.Ytnfomlgjnckphaa

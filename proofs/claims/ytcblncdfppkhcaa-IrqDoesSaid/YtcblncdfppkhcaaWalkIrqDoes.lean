/- The walk of the law IrqDoes. -/
import Derived.Test.YtcblncdfppkhcaaLineR
set_option linter.all false
namespace Go.Proofs.Ytcblncdfppkhcaa
open Go.RowKit

set_option maxRecDepth 100000 in
set_option maxHeartbeats 16000000 in
theorem walkIrqDoes (w : World) (many : Int) (_ : (Lit.int .i64 many).wf = true) (v : Value) (rows : List (List Value)) (hs : Src w v rows.length 4 rows.flatten) (hr : ∀ x ∈ rows, FlatOk [.int .i64, .int .i64, .int .i64, .int .u64] x) (hm : rows.length ≤ maxLen) :
    Calls Try.prog 8 #[.int .i64 many, v] w fun e w' => e = .returned (.bool true) ∧ Below w.heap.size w w' := by
  unfold maxLen at hm
  obtain ⟨ao, c, rfl, hc⟩ := hs.rows rfl rfl hr (by decide)
  have Hc := Lib.hid hc
  clear hc hs
  generalize rows.length = len at *
  obtain ⟨m, hmm, a0, a1⟩ := and_small many 3 (by decide)
  simp only [Int.reducePow, Int.reduceSub] at hmm a1
  obtain ⟨m, rfl⟩ := Int.eq_ofNat_of_zero_le a0
  obtain ⟨n, hn⟩ : ∃ n : Nat, n = 1 + m := ⟨_, rfl⟩
  have hw1 : IntKind.i64.wrap (1 + (m : Int)) = (n : Int) := by rw [IntKind.wrap_i64]; omega
  have hn1 : 1 ≤ n := by omega
  have hn2 : n ≤ 8 := by omega
  clear hn
  go_enter Try.func8, Try.ntmps8
  go_wp2_with fail
  refine (new_yes n _ (by omega) (by omega)).mono ?_
  rintro e w1 ⟨rfl, hM1, hk1⟩
  rw [Int.toNat_natCast] at hM1
  go_wp2_with fail
  refine (rnew_yes n _ (by omega) (by omega)).mono ?_
  rintro e w2 ⟨rfl, hR2, hk2⟩
  rw [Int.toNat_natCast] at hR2
  have hM2 := hM1.same hk2
  have hlb := hM1.ltb
  have hs1 := hk1.size
  have hk3 : New w w2 := hk1.trans hk2
  clear hM1 hk1 hk2
  go_wp2_with fail
  obtain ⟨b2, hb2⟩ : ∃ b2, b2 = w1.heap.size + 1 := ⟨_, rfl⟩
  obtain ⟨g2, hg2⟩ : ∃ g2, g2 = w1.heap.size := ⟨_, rfl⟩
  rw [← hb2] at hR2 ⊢
  rw [← hg2] at hR2
  have d1 : w.heap.size + 1 ≠ g2 := by omega
  have d2 : w.heap.size ≠ b2 := by omega
  have d3 : w.heap.size ≠ g2 := by omega
  have q1 : w.heap.size ≤ b2 := by omega
  have q2 : w.heap.size ≤ g2 := by omega
  clear hb2 hg2 hlb hs1
  have hlp : 0 < (List.replicate n Ln.no).length := by simp; omega
  clear hmm hw1
  go_loopw [5, 9] (fun p i wr => ∃ (j b g cap : Nat) (L : List Ln), j ≤ len ∧ j ≤ 80 ∧ p = .pointer (some ⟨b, 0, none⟩) ∧ i = .int .i64 j ∧ LI wr b g cap L ∧ LR wr b2 g2 n L ∧ Hid (0 < L.length) ∧ (b ≠ g2 ∧ g ≠ b2 ∧ g ≠ g2) ∧ w.heap.size ≤ b ∧ w.heap.size ≤ g ∧ New w wr) (fun _ i _ => 80 - (intOf i).toNat)
  case atStart => exact ⟨0, _, _, _, _, Nat.zero_le _, by omega, rfl, rfl, hM2, hR2, hlp, ⟨d1, d2, d3⟩, by omega, by omega, hk3⟩
  case round =>
    clear hM2 hR2 d1 d2 d3 hk3 hlp
    obtain ⟨j, b, g, cap, L, hjl, hj80, rfl, rfl, hM, hR, Hl, ⟨d1, d2, d3⟩, p1, p2, hk⟩ := hrel
    have hlb := hM.ltb; have hlg := hM.ltg; have hlb2 := hR.ltb; have hlg2 := hR.ltg
    by_cases h1 : j < len
    · by_cases h2 : j < 80
      · obtain ⟨B, O, x, rfl, hx, _, hcell⟩ := Hc.out j h1
        obtain ⟨kind, line, note, badge, rfl, _, wl, _, _⟩ := op_open hx
        have e0 := hcell 0 (.int .i64 kind) rfl
        have e1 := hcell 1 (.int .i64 line) rfl
        have e2 := hcell 2 (.int .i64 note) rfl
        have e3 := hcell 3 (.int .u64 badge) rfl
        clear hcell hx
        simp only [Nat.add_zero] at e0
        replace e0 := cell_kept hk e0 (fun h => h)
        replace e1 := cell_kept hk e1 (fun h => h)
        replace e2 := cell_kept hk e2 (fun h => h)
        replace e3 := cell_kept hk e3 (fun h => h)
        by_cases h0 : kind = 0
        · have hkind := h0
          clear h0
          subst hkind
          go_wp2_with fail
          refine (bind_all b g cap L line note badge _ (hM.alloc _) (i64_le wl)).mono ?_
          rintro e w3 ⟨rfl, hM3, hk3⟩
          have hB3 : w3.heap[wr.heap.size]? = some (.cells #[.int .i64 0, .int .i64 line, .int .i64 note, .int .u64 badge] 32 (0, 0)) := hk3.heap (heap_alloc_new _ _) (by omega)
          have hR3 := (hR.alloc _).kept hk3 (by omega) (by omega)
          have hK3 : New w w3 := (hk.alloc _).new hk3 (by intro i hi; omega)
          have l1 : w3.cell? ⟨wr.heap.size, 1, none⟩ = some (.int .i64 line) := cell_blk hB3 1
          have l2 : w3.cell? ⟨wr.heap.size, 2, none⟩ = some (.int .i64 note) := cell_blk hB3 2
          have l3 : w3.cell? ⟨wr.heap.size, 3, none⟩ = some (.int .u64 badge) := cell_blk hB3 3
          clear hM hR hk hB3 hk3
          go_wp2_with fail
          refine (rbind_all b2 g2 n L line note badge _ hR3 (i64_le wl)).mono ?_
          rintro e w4 ⟨rfl, hR4, hk4⟩
          have hM4 := hM3.kept hk4 (by omega) (by omega)
          have hK4 : New w w4 := hK3.new hk4 (by intro i hi; omega)
          have hlen := bindE_len L line note badge
          clear hM3 hR3 hK3 hk4 l1 l2 l3
          generalize bindE L line note badge = r at *
          obtain ⟨r1, L'⟩ := r
          simp only at hM4 hR4 hlen ⊢
          have Hl' : Hid (0 < L'.length) := by rw [hlen]; exact Hl.out
          clear hlen Hl
          go_wp2_with fail
          go_loopw [20] (fun n2 wi => ∃ q : Nat, q ≤ L'.length + 1 ∧ n2 = .int .i64 q ∧ LI wi b g cap L' ∧ LR wi b2 g2 n L' ∧ New w wi) (fun n2 _ => L'.length + 1 - (intOf n2).toNat)
          case atStart => exact ⟨0, by omega, rfl, hM4, hR4, hK4⟩
          case round =>
            clear hM4 hR4 hK4
            obtain ⟨q, hq, rfl, hMi, hRi, hki⟩ := hrel
            have hcR := hRi.cell0
            have hlR := hRi.le
            by_cases hq1 : q ≤ L'.length
            · go_wp2_with fail
              refine (open_all b g cap L' q _ hMi (by omega)).mono ?_
              rintro e w8 ⟨rfl, hk8⟩
              have hM8 := hMi.same hk8
              have hR8 := hRi.same hk8
              have hK8 := hki.trans hk8
              clear hMi hRi hki hcR hk8
              go_wp2_with fail
              refine (ropen_all b2 g2 n L' q _ hR8 (by omega)).mono ?_
              rintro e w9 ⟨rfl, hk9⟩
              have hM9 := hM8.same hk9
              have hR9 := hR8.same hk9
              have hK9 := hK8.trans hk9
              clear hM8 hR8 hK8 hk9
              generalize openE L' q = o
              obtain ⟨o1, o2⟩ := o
              go_wp2_with fail
              go_roundw
              case rel => exact ⟨q + 1, by omega, by go_num, hM9, hR9, hK9⟩
              case measure => simp [intOf]; omega
            · go_wp2_with fail
              go_roundw
              case rel => exact ⟨j + 1, b, g, cap, L', by omega, by omega, rfl, by go_num, hMi, hRi, Hl', ⟨by omega, by omega, by omega⟩, by omega, by omega, hki⟩
              case measure => simp [intOf]; omega
        by_cases h1' : kind = 1
        · have hkind := h1'
          clear h1'
          subst hkind
          go_wp2_with fail
          refine (free_all b g cap L line _ (hM.alloc _) (i64_le wl)).mono ?_
          rintro e w3 ⟨rfl, hM3, hk3⟩
          have hB3 : w3.heap[wr.heap.size]? = some (.cells #[.int .i64 1, .int .i64 line, .int .i64 note, .int .u64 badge] 32 (0, 0)) := hk3.heap (heap_alloc_new _ _) (by omega)
          have hR3 := (hR.alloc _).kept hk3 (by omega) (by omega)
          have hK3 : New w w3 := (hk.alloc _).new hk3 (by intro i hi; omega)
          have l1 : w3.cell? ⟨wr.heap.size, 1, none⟩ = some (.int .i64 line) := cell_blk hB3 1
          have l2 : w3.cell? ⟨wr.heap.size, 2, none⟩ = some (.int .i64 note) := cell_blk hB3 2
          have l3 : w3.cell? ⟨wr.heap.size, 3, none⟩ = some (.int .u64 badge) := cell_blk hB3 3
          clear hM hR hk hB3 hk3
          go_wp2_with fail
          refine (rfree_all b2 g2 n L line _ hR3 (i64_le wl)).mono ?_
          rintro e w4 ⟨rfl, hR4, hk4⟩
          have hM4 := hM3.kept hk4 (by omega) (by omega)
          have hK4 : New w w4 := hK3.new hk4 (by intro i hi; omega)
          have hlen := freeE_len L line
          clear hM3 hR3 hK3 hk4 l1 l2 l3
          generalize freeE L line = r at *
          obtain ⟨r1, L'⟩ := r
          simp only at hM4 hR4 hlen ⊢
          have Hl' : Hid (0 < L'.length) := by rw [hlen]; exact Hl.out
          clear hlen Hl
          go_wp2_with fail
          go_loopw [20] (fun n2 wi => ∃ q : Nat, q ≤ L'.length + 1 ∧ n2 = .int .i64 q ∧ LI wi b g cap L' ∧ LR wi b2 g2 n L' ∧ New w wi) (fun n2 _ => L'.length + 1 - (intOf n2).toNat)
          case atStart => exact ⟨0, by omega, rfl, hM4, hR4, hK4⟩
          case round =>
            clear hM4 hR4 hK4
            obtain ⟨q, hq, rfl, hMi, hRi, hki⟩ := hrel
            have hcR := hRi.cell0
            have hlR := hRi.le
            by_cases hq1 : q ≤ L'.length
            · go_wp2_with fail
              refine (open_all b g cap L' q _ hMi (by omega)).mono ?_
              rintro e w8 ⟨rfl, hk8⟩
              have hM8 := hMi.same hk8
              have hR8 := hRi.same hk8
              have hK8 := hki.trans hk8
              clear hMi hRi hki hcR hk8
              go_wp2_with fail
              refine (ropen_all b2 g2 n L' q _ hR8 (by omega)).mono ?_
              rintro e w9 ⟨rfl, hk9⟩
              have hM9 := hM8.same hk9
              have hR9 := hR8.same hk9
              have hK9 := hK8.trans hk9
              clear hM8 hR8 hK8 hk9
              generalize openE L' q = o
              obtain ⟨o1, o2⟩ := o
              go_wp2_with fail
              go_roundw
              case rel => exact ⟨q + 1, by omega, by go_num, hM9, hR9, hK9⟩
              case measure => simp [intOf]; omega
            · go_wp2_with fail
              go_roundw
              case rel => exact ⟨j + 1, b, g, cap, L', by omega, by omega, rfl, by go_num, hMi, hRi, Hl', ⟨by omega, by omega, by omega⟩, by omega, by omega, hki⟩
              case measure => simp [intOf]; omega
        by_cases h2' : kind = 2
        · have hkind := h2'
          clear h2'
          subst hkind
          go_wp2_with fail
          refine (raise_all b g cap L line _ (hM.alloc _) (i64_le wl)).mono ?_
          rintro e w3 ⟨rfl, hM3, hk3⟩
          have hB3 : w3.heap[wr.heap.size]? = some (.cells #[.int .i64 2, .int .i64 line, .int .i64 note, .int .u64 badge] 32 (0, 0)) := hk3.heap (heap_alloc_new _ _) (by omega)
          have hR3 := (hR.alloc _).kept hk3 (by omega) (by omega)
          have hK3 : New w w3 := (hk.alloc _).new hk3 (by intro i hi; omega)
          have l1 : w3.cell? ⟨wr.heap.size, 1, none⟩ = some (.int .i64 line) := cell_blk hB3 1
          have l2 : w3.cell? ⟨wr.heap.size, 2, none⟩ = some (.int .i64 note) := cell_blk hB3 2
          have l3 : w3.cell? ⟨wr.heap.size, 3, none⟩ = some (.int .u64 badge) := cell_blk hB3 3
          clear hM hR hk hB3 hk3
          go_wp2_with fail
          refine (rraise_all b2 g2 n L line _ hR3 (i64_le wl)).mono ?_
          rintro e w4 ⟨rfl, hR4, hk4⟩
          have hM4 := hM3.kept hk4 (by omega) (by omega)
          have hK4 : New w w4 := hK3.new hk4 (by intro i hi; omega)
          have hlen := raiseE_len L line
          clear hM3 hR3 hK3 hk4 l1 l2 l3
          generalize raiseE L line = r at *
          obtain ⟨⟨r1, r2, r3, r4⟩, L'⟩ := r
          simp only at hM4 hR4 hlen ⊢
          have Hl' : Hid (0 < L'.length) := by rw [hlen]; exact Hl.out
          clear hlen Hl
          go_wp2_with fail
          go_loopw [20] (fun n2 wi => ∃ q : Nat, q ≤ L'.length + 1 ∧ n2 = .int .i64 q ∧ LI wi b g cap L' ∧ LR wi b2 g2 n L' ∧ New w wi) (fun n2 _ => L'.length + 1 - (intOf n2).toNat)
          case atStart => exact ⟨0, by omega, rfl, hM4, hR4, hK4⟩
          case round =>
            clear hM4 hR4 hK4
            obtain ⟨q, hq, rfl, hMi, hRi, hki⟩ := hrel
            have hcR := hRi.cell0
            have hlR := hRi.le
            by_cases hq1 : q ≤ L'.length
            · go_wp2_with fail
              refine (open_all b g cap L' q _ hMi (by omega)).mono ?_
              rintro e w8 ⟨rfl, hk8⟩
              have hM8 := hMi.same hk8
              have hR8 := hRi.same hk8
              have hK8 := hki.trans hk8
              clear hMi hRi hki hcR hk8
              go_wp2_with fail
              refine (ropen_all b2 g2 n L' q _ hR8 (by omega)).mono ?_
              rintro e w9 ⟨rfl, hk9⟩
              have hM9 := hM8.same hk9
              have hR9 := hR8.same hk9
              have hK9 := hK8.trans hk9
              clear hM8 hR8 hK8 hk9
              generalize openE L' q = o
              obtain ⟨o1, o2⟩ := o
              go_wp2_with fail
              go_roundw
              case rel => exact ⟨q + 1, by omega, by go_num, hM9, hR9, hK9⟩
              case measure => simp [intOf]; omega
            · go_wp2_with fail
              go_roundw
              case rel => exact ⟨j + 1, b, g, cap, L', by omega, by omega, rfl, by go_num, hMi, hRi, Hl', ⟨by omega, by omega, by omega⟩, by omega, by omega, hki⟩
              case measure => simp [intOf]; omega
        by_cases h3' : kind = 3
        · have hkind := h3'
          clear h3'
          subst hkind
          go_wp2_with fail
          refine (ack_all b g cap L line _ (hM.alloc _) (i64_le wl)).mono ?_
          rintro e w3 ⟨rfl, hM3, hk3⟩
          have hB3 : w3.heap[wr.heap.size]? = some (.cells #[.int .i64 3, .int .i64 line, .int .i64 note, .int .u64 badge] 32 (0, 0)) := hk3.heap (heap_alloc_new _ _) (by omega)
          have hR3 := (hR.alloc _).kept hk3 (by omega) (by omega)
          have hK3 : New w w3 := (hk.alloc _).new hk3 (by intro i hi; omega)
          have l1 : w3.cell? ⟨wr.heap.size, 1, none⟩ = some (.int .i64 line) := cell_blk hB3 1
          have l2 : w3.cell? ⟨wr.heap.size, 2, none⟩ = some (.int .i64 note) := cell_blk hB3 2
          have l3 : w3.cell? ⟨wr.heap.size, 3, none⟩ = some (.int .u64 badge) := cell_blk hB3 3
          clear hM hR hk hB3 hk3
          go_wp2_with fail
          refine (rack_all b2 g2 n L line _ hR3 (i64_le wl)).mono ?_
          rintro e w4 ⟨rfl, hR4, hk4⟩
          have hM4 := hM3.kept hk4 (by omega) (by omega)
          have hK4 : New w w4 := hK3.new hk4 (by intro i hi; omega)
          have hlen := ackE_len L line
          clear hM3 hR3 hK3 hk4 l1 l2 l3
          generalize ackE L line = r at *
          obtain ⟨⟨r1, r2, r3, r4⟩, L'⟩ := r
          simp only at hM4 hR4 hlen ⊢
          have Hl' : Hid (0 < L'.length) := by rw [hlen]; exact Hl.out
          clear hlen Hl
          go_wp2_with fail
          go_loopw [20] (fun n2 wi => ∃ q : Nat, q ≤ L'.length + 1 ∧ n2 = .int .i64 q ∧ LI wi b g cap L' ∧ LR wi b2 g2 n L' ∧ New w wi) (fun n2 _ => L'.length + 1 - (intOf n2).toNat)
          case atStart => exact ⟨0, by omega, rfl, hM4, hR4, hK4⟩
          case round =>
            clear hM4 hR4 hK4
            obtain ⟨q, hq, rfl, hMi, hRi, hki⟩ := hrel
            have hcR := hRi.cell0
            have hlR := hRi.le
            by_cases hq1 : q ≤ L'.length
            · go_wp2_with fail
              refine (open_all b g cap L' q _ hMi (by omega)).mono ?_
              rintro e w8 ⟨rfl, hk8⟩
              have hM8 := hMi.same hk8
              have hR8 := hRi.same hk8
              have hK8 := hki.trans hk8
              clear hMi hRi hki hcR hk8
              go_wp2_with fail
              refine (ropen_all b2 g2 n L' q _ hR8 (by omega)).mono ?_
              rintro e w9 ⟨rfl, hk9⟩
              have hM9 := hM8.same hk9
              have hR9 := hR8.same hk9
              have hK9 := hK8.trans hk9
              clear hM8 hR8 hK8 hk9
              generalize openE L' q = o
              obtain ⟨o1, o2⟩ := o
              go_wp2_with fail
              go_roundw
              case rel => exact ⟨q + 1, by omega, by go_num, hM9, hR9, hK9⟩
              case measure => simp [intOf]; omega
            · go_wp2_with fail
              go_roundw
              case rel => exact ⟨j + 1, b, g, cap, L', by omega, by omega, rfl, by go_num, hMi, hRi, Hl', ⟨by omega, by omega, by omega⟩, by omega, by omega, hki⟩
              case measure => simp [intOf]; omega
        by_cases h4' : kind = 4
        · have hkind := h4'
          clear h4'
          subst hkind
          have hO := hM
          go_wp2_with fail
          refine (copy_any b g cap L _ (hM.alloc _) Hl.out).mono ?_
          rintro e w3 ⟨b', g', cap', rfl, hb', hg', hM3, hk3⟩
          simp only [World.size_alloc] at hb' hg'
          have hB3 : w3.heap[wr.heap.size]? = some (.cells #[.int .i64 4, .int .i64 line, .int .i64 note, .int .u64 badge] 32 (0, 0)) := hk3.heap (heap_alloc_new _ _) (fun h => h)
          have hO3 := (hM.alloc (.cells #[.int .i64 4, .int .i64 line, .int .i64 note, .int .u64 badge] 32)).same hk3
          have hR3 := (hR.alloc _).same hk3
          have hK3 : New w w3 := (hk.alloc _).trans hk3
          have l1 : w3.cell? ⟨wr.heap.size, 1, none⟩ = some (.int .i64 line) := cell_blk hB3 1
          have hks := hk.size
          clear hM hR hk hB3 hk3
          go_wp2_with fail
          refine (free_all b g cap L line _ hO3 (i64_le wl)).mono ?_
          rintro e w4 ⟨rfl, hO4, hk4⟩
          have hM4 := hM3.kept hk4 (by omega) (by omega)
          have hR4 := hR3.kept hk4 (by omega) (by omega)
          have hK4 : New w w4 := hK3.new hk4 (by intro i hi; omega)
          clear hM3 hR3 hK3 hk4 hO3 l1
          go_wp2_with fail
          refine (raise_all b g cap _ 0 _ hO4 (by decide)).mono ?_
          rintro e w5 ⟨rfl, hO5, hk5⟩
          have hM5 := hM4.kept hk5 (by omega) (by omega)
          have hR5 := hR4.kept hk5 (by omega) (by omega)
          have hK5 : New w w5 := hK4.new hk5 (by intro i hi; omega)
          clear hM4 hR4 hK4 hk5 hO4 hO5
          go_wp2_with fail
          go_loopw [20] (fun n2 wi => ∃ q : Nat, q ≤ L.length + 1 ∧ n2 = .int .i64 q ∧ LI wi b' g' cap' L ∧ LR wi b2 g2 n L ∧ New w wi) (fun n2 _ => L.length + 1 - (intOf n2).toNat)
          case atStart => exact ⟨0, by omega, rfl, hM5, hR5, hK5⟩
          case round =>
            clear hM5 hR5 hK5
            obtain ⟨q, hq, rfl, hMi, hRi, hki⟩ := hrel
            have hcR := hRi.cell0
            have hlR := hRi.le
            by_cases hq1 : q ≤ L.length
            · go_wp2_with fail
              refine (open_all b' g' cap' L q _ hMi (by omega)).mono ?_
              rintro e w8 ⟨rfl, hk8⟩
              have hM8 := hMi.same hk8
              have hR8 := hRi.same hk8
              have hK8 := hki.trans hk8
              clear hMi hRi hki hcR hk8
              go_wp2_with fail
              refine (ropen_all b2 g2 n L q _ hR8 (by omega)).mono ?_
              rintro e w9 ⟨rfl, hk9⟩
              have hM9 := hM8.same hk9
              have hR9 := hR8.same hk9
              have hK9 := hK8.trans hk9
              clear hM8 hR8 hK8 hk9
              generalize openE L q = o
              obtain ⟨o1, o2⟩ := o
              go_wp2_with fail
              go_roundw
              case rel => exact ⟨q + 1, by omega, by go_num, hM9, hR9, hK9⟩
              case measure => simp [intOf]; omega
            · go_wp2_with fail
              go_roundw
              case rel => exact ⟨j + 1, b', g', cap', L, by omega, by omega, rfl, by go_num, hMi, hRi, Hl, ⟨by omega, by omega, by omega⟩, by omega, by omega, hki⟩
              case measure => simp [intOf]; omega
        have k0 : (kind == 0) = false := by simpa using h0
        have k1 : (kind == 1) = false := by simpa using h1'
        have k2 : (kind == 2) = false := by simpa using h2'
        have k3 : (kind == 3) = false := by simpa using h3'
        have k4 : (kind == 4) = false := by simpa using h4'
        have hMa := fun o => hM.alloc o
        have hRa := fun o => hR.alloc o
        have hka := fun o => hk.alloc o
        go_wp2_with fail
        simp only [show ((j : Int) < 80) from by omega, decide_true]
        go_loopw [20] (fun n2 wi => ∃ q : Nat, q ≤ L.length + 1 ∧ n2 = .int .i64 q ∧ LI wi b g cap L ∧ LR wi b2 g2 n L ∧ New w wi) (fun n2 _ => L.length + 1 - (intOf n2).toNat)
        case atStart => exact ⟨0, by omega, rfl, (hMa _), (hRa _), (hka _)⟩
        case round =>
          clear hMa hRa hka hM hR hk
          obtain ⟨q, hq, rfl, hMi, hRi, hki⟩ := hrel
          have hcR := hRi.cell0
          have hlR := hRi.le
          by_cases hq1 : q ≤ L.length
          · go_wp2_with fail
            refine (open_all b g cap L q _ hMi (by omega)).mono ?_
            rintro e w8 ⟨rfl, hk8⟩
            have hM8 := hMi.same hk8
            have hR8 := hRi.same hk8
            have hK8 := hki.trans hk8
            clear hMi hRi hki hcR hk8
            go_wp2_with fail
            refine (ropen_all b2 g2 n L q _ hR8 (by omega)).mono ?_
            rintro e w9 ⟨rfl, hk9⟩
            have hM9 := hM8.same hk9
            have hR9 := hR8.same hk9
            have hK9 := hK8.trans hk9
            clear hM8 hR8 hK8 hk9
            generalize openE L q = o
            obtain ⟨o1, o2⟩ := o
            go_wp2_with fail
            go_roundw
            case rel => exact ⟨q + 1, by omega, by go_num, hM9, hR9, hK9⟩
            case measure => simp [intOf]; omega
          · go_wp2_with fail
            go_roundw
            case rel => exact ⟨j + 1, b, g, cap, L, by omega, by omega, rfl, by go_num, hMi, hRi, Hl, ⟨by omega, by omega, by omega⟩, by omega, by omega, hki⟩
            case measure => simp [intOf]; omega
      · go_wp2_with fail
        refine (fixed_any _).mono ?_
        rintro e w6 ⟨rfl, hk6⟩
        go_wp2
        go_ret
        exact ⟨rfl, none_below (hk.trans hk6)⟩
    · go_wp2_with fail
      refine (fixed_any _).mono ?_
      rintro e w6 ⟨rfl, hk6⟩
      go_wp2
      go_ret
      exact ⟨rfl, none_below (hk.trans hk6)⟩
end Go.Proofs.Ytcblncdfppkhcaa

/- The walk of the law IrqApart. -/
import Derived.Test.YtcblncdfppkhcaaLineR
set_option linter.all false
namespace Go.Proofs.Ytcblncdfppkhcaa
open Go.RowKit

theorem bindE_at (L : List Ln) (n note badge : Int) {i : Nat} (hi : (i : Int) ≠ n) : (bindE L n note badge).2[i]? = L[i]? := by
  unfold bindE
  (repeat' split) <;> first | rfl | (rw [List.getElem?_set_ne (by omega)])
theorem freeE_at (L : List Ln) (n : Int) {i : Nat} (hi : (i : Int) ≠ n) : (freeE L n).2[i]? = L[i]? := by
  unfold freeE
  (repeat' split) <;> first | rfl | (rw [List.getElem?_set_ne (by omega)])
theorem raiseE_at (L : List Ln) (n : Int) {i : Nat} (hi : (i : Int) ≠ n) : (raiseE L n).2[i]? = L[i]? := by
  unfold raiseE
  (repeat' split) <;> first | rfl | (rw [List.getElem?_set_ne (by omega)])
theorem ackE_at (L : List Ln) (n : Int) {i : Nat} (hi : (i : Int) ≠ n) : (ackE L n).2[i]? = L[i]? := by
  unfold ackE
  (repeat' split) <;> first | rfl | (rw [List.getElem?_set_ne (by omega)])

set_option maxRecDepth 100000 in
set_option maxHeartbeats 16000000 in
theorem walkIrqApart (w : World) (v : Value) (rows : List (List Value)) (hs : Src w v rows.length 4 rows.flatten) (hr : ∀ x ∈ rows, FlatOk [.int .i64, .int .i64, .int .i64, .int .u64] x) (hm : rows.length ≤ maxLen)
    (k : Int) (_ : (Lit.int .i64 k).wf = true) :
    Calls Try.prog 5 #[v, .int .i64 k] w fun e w' => e = .returned (.bool true) ∧ Below w.heap.size w w' := by
  unfold maxLen at hm
  obtain ⟨ao, c, rfl, hc⟩ := hs.rows rfl rfl hr (by decide)
  have Hc := Lib.hid hc
  clear hc hs
  generalize rows.length = len at *
  obtain ⟨n, hn, a0, a1⟩ := and_small k 2 (by decide)
  simp only [Int.reducePow, Int.reduceSub] at hn a1
  obtain ⟨n, rfl⟩ := Int.eq_ofNat_of_zero_le a0
  have hn4 : n < 4 := by omega
  go_enter Try.func5, Try.ntmps5
  go_wp2_with fail
  refine (new_yes 4 _ (by decide) (by decide)).mono ?_
  rintro e w1 ⟨rfl, hM1, hk1⟩
  replace hM1 : LI w1 (w.heap.size + 1) w.heap.size 4 [.no, .no, .no, .no] := hM1
  go_wp2_with fail
  obtain ⟨b, hb⟩ : ∃ b, b = w.heap.size + 1 := ⟨_, rfl⟩
  obtain ⟨g, hg⟩ : ∃ g, g = w.heap.size := ⟨_, rfl⟩
  rw [← hb] at hM1 ⊢
  rw [← hg] at hM1
  have p1 : w.heap.size ≤ b := by omega
  have p2 : w.heap.size ≤ g := by omega
  clear hb hg
  go_loopw [7] (fun i wr => ∃ (q : Nat) (L : List Ln), q ≤ 4 ∧ i = .int .i64 q ∧ LI wr b g 4 L ∧ Hid (L.length = 4 ∧ (∀ r, q ≤ r → r < 4 → L[r]? = some .no) ∧ (∀ r, r < q → ∃ y, L[r]? = some ⟨.opn, y, 1⟩)) ∧ New w wr) (fun i _ => 4 - (intOf i).toNat)
  case atStart => exact ⟨0, _, by omega, rfl, hM1, ⟨rfl, by intro r _ hr; (have : r = 0 ∨ r = 1 ∨ r = 2 ∨ r = 3 := by omega); rcases this with rfl | rfl | rfl | rfl <;> rfl, by intro r hr; omega⟩, hk1⟩
  case round =>
    clear hM1 hk1
    obtain ⟨q, L, hq, rfl, hM, HL, hk⟩ := hrel
    by_cases h1 : q < 4
    · obtain ⟨hl, hfree, hset⟩ := HL.out
      have hx := hfree q (Nat.le_refl _) h1
      clear hfree hset
      go_wp2_with fail
      refine (bind_in b g 4 L q _ q 1 _ hM hx rfl (by omega)).mono ?_
      rintro e w2 ⟨rfl, hM2, hk2⟩
      have hk3 : New w w2 := hk.new hk2 (by intro i hi; omega)
      clear hM hk hk2
      go_wp2_with fail
      go_roundw
      case rel =>
        refine ⟨q + 1, _, by omega, by go_num, hM2, ?_, hk3⟩
        obtain ⟨hl, hfree, hset⟩ := HL.out
        refine ⟨by simpa using hl, fun r h2 h3 => by rw [List.getElem?_set_ne (by omega)]; exact hfree r (by omega) h3, fun r h2 => ?_⟩
        by_cases hrq : r = q
        · subst hrq; exact ⟨_, List.getElem?_set_self (by omega)⟩
        · rw [List.getElem?_set_ne (by omega)]; exact hset r (by omega)
      case measure => simp [intOf]; omega
    · obtain rfl : q = 4 := by omega
      obtain ⟨hl, _, hset⟩ := HL.out
      obtain ⟨y, hx⟩ := hset n hn4
      clear hset HL h1 hq
      go_wp2_with fail
      refine (raise_in b g 4 L n _ _ _ _ _ _ hM hx rfl).mono ?_
      rintro e w2 ⟨rfl, hM2, hk2⟩
      have hk3 : New w w2 := hk.new hk2 (by intro i hi; omega)
      have hx2 : (L.set n ⟨.shut, y, 1⟩)[n]? = some ⟨.shut, y, 1⟩ := List.getElem?_set_self (by omega)
      have hl2 : (L.set n ⟨.shut, y, 1⟩).length = 4 := by simpa using hl
      generalize L.set n ⟨.shut, y, 1⟩ = L2 at *
      clear hM hk hk2 hx hl
      go_wp2_with fail
      refine (open_in b g 4 L2 n _ _ hM2 hx2).mono ?_
      rintro e w3 ⟨rfl, hk3'⟩
      have hM3 := hM2.same hk3'
      have hk4 := hk3.trans hk3'
      simp only [St.isOpen, St.isAgain]
      clear hM2 hk3 hk3'
      have Hl2 : Hid (L2.length = 4 ∧ L2[n]? = some ⟨.shut, y, 1⟩) := ⟨hl2, hx2⟩
      clear hl2 hx2
      go_wp2_with fail
      go_loopw [11] (fun i wr => ∃ (j : Nat) (L : List Ln), j ≤ len ∧ j ≤ 40 ∧ i = .int .i64 j ∧ LI wr b g 4 L ∧ Hid (L.length = 4 ∧ L[n]? = some ⟨.shut, y, 1⟩) ∧ New w wr) (fun i _ => 40 - (intOf i).toNat)
      case atStart => exact ⟨0, _, by omega, by omega, rfl, hM3, Hl2, hk4⟩
      case round =>
        clear hM3 hk4 Hl2
        obtain ⟨j, L, hjl, hj40, rfl, hM, Hl, hk⟩ := hrel
        have hlb := hM.ltb; have hlg := hM.ltg
        by_cases h1 : j < len
        · by_cases h2 : j < 40
          · obtain ⟨B, O, x, rfl, hx, _, hcell⟩ := Hc.out j h1
            obtain ⟨kind, line, note, badge, rfl, _, wl, _, _⟩ := op_open hx
            have e0 := hcell 0 (.int .i64 kind) rfl
            have e1 := hcell 1 (.int .i64 line) rfl
            have e2 := hcell 2 (.int .i64 note) rfl
            have e3 := hcell 3 (.int .u64 badge) rfl
            clear hcell hx
            simp only [Nat.add_zero] at e0
            replace e0 := cell_kept hk e0 (fun h => h)
            replace e1 := cell_kept hk e1 (fun h => h)
            replace e2 := cell_kept hk e2 (fun h => h)
            replace e3 := cell_kept hk e3 (fun h => h)
            by_cases hline : line = n
            · go_wp2_with fail
              go_roundw
              case rel => exact ⟨j + 1, L, by omega, by omega, by go_num, hM.alloc _, Hl, hk.alloc _⟩
              case measure => simp [intOf]; omega
            · have hline' : (line == (n : Int)) = false := by simpa using hline
              have hne : (n : Int) ≠ line := fun h => hline h.symm
              by_cases k1 : kind = 1
              · subst k1
                go_wp2_with fail
                refine (free_all b g 4 L line _ (hM.alloc _) (i64_le wl)).mono ?_
                rintro e w4 ⟨rfl, hM4, hk4⟩
                have hk5 : New w w4 := (hk.alloc _).new hk4 (by intro i hi; omega)
                have Hl5 : Hid ((freeE L line).2.length = 4 ∧ (freeE L line).2[n]? = some ⟨.shut, y, 1⟩) := ⟨by rw [freeE_len]; exact Hl.out.1, by rw [freeE_at L line hne]; exact Hl.out.2⟩
                clear hM hk hk4 Hl
                go_wp2_with fail
                go_roundw
                case rel => exact ⟨j + 1, _, by omega, by omega, by go_num, hM4, Hl5, hk5⟩
                case measure => simp [intOf]; omega
              by_cases k2 : kind = 2
              · subst k2
                go_wp2_with fail
                refine (raise_all b g 4 L line _ (hM.alloc _) (i64_le wl)).mono ?_
                rintro e w4 ⟨rfl, hM4, hk4⟩
                have hk5 : New w w4 := (hk.alloc _).new hk4 (by intro i hi; omega)
                have Hl5 : Hid ((raiseE L line).2.length = 4 ∧ (raiseE L line).2[n]? = some ⟨.shut, y, 1⟩) := ⟨by rw [raiseE_len]; exact Hl.out.1, by rw [raiseE_at L line hne]; exact Hl.out.2⟩
                clear hM hk hk4 Hl
                go_wp2_with fail
                go_roundw
                case rel => exact ⟨j + 1, _, by omega, by omega, by go_num, hM4, Hl5, hk5⟩
                case measure => simp [intOf]; omega
              by_cases k3 : kind = 3
              · subst k3
                go_wp2_with fail
                refine (ack_all b g 4 L line _ (hM.alloc _) (i64_le wl)).mono ?_
                rintro e w4 ⟨rfl, hM4, hk4⟩
                have hk5 : New w w4 := (hk.alloc _).new hk4 (by intro i hi; omega)
                have Hl5 : Hid ((ackE L line).2.length = 4 ∧ (ackE L line).2[n]? = some ⟨.shut, y, 1⟩) := ⟨by rw [ackE_len]; exact Hl.out.1, by rw [ackE_at L line hne]; exact Hl.out.2⟩
                clear hM hk hk4 Hl
                go_wp2_with fail
                go_roundw
                case rel => exact ⟨j + 1, _, by omega, by omega, by go_num, hM4, Hl5, hk5⟩
                case measure => simp [intOf]; omega
              by_cases k0 : kind = 0
              · subst k0
                go_wp2_with fail
                refine (bind_all b g 4 L line note badge _ (hM.alloc _) (i64_le wl)).mono ?_
                rintro e w4 ⟨rfl, hM4, hk4⟩
                have hk5 : New w w4 := (hk.alloc _).new hk4 (by intro i hi; omega)
                have Hl5 : Hid ((bindE L line note badge).2.length = 4 ∧ (bindE L line note badge).2[n]? = some ⟨.shut, y, 1⟩) := ⟨by rw [bindE_len]; exact Hl.out.1, by rw [bindE_at L line note badge hne]; exact Hl.out.2⟩
                clear hM hk hk4 Hl
                go_wp2_with fail
                go_roundw
                case rel => exact ⟨j + 1, _, by omega, by omega, by go_num, hM4, Hl5, hk5⟩
                case measure => simp [intOf]; omega
              have f0 : (kind == 0) = false := by simpa using k0
              have f1 : (kind == 1) = false := by simpa using k1
              have f2 : (kind == 2) = false := by simpa using k2
              have f3 : (kind == 3) = false := by simpa using k3
              go_wp2_with fail
              go_roundw
              case rel => exact ⟨j + 1, L, by omega, by omega, by go_num, hM.alloc _, Hl, hk.alloc _⟩
              case measure => simp [intOf]; omega
          · go_wp2_with fail
            refine (open_in b g 4 L n _ _ hM Hl.out.2).mono ?_
            rintro e w5 ⟨rfl, hk5⟩
            simp only [St.isOpen, St.isAgain]
            go_wp2_with fail
            refine (fixed_any _).mono ?_
            rintro e w6 ⟨rfl, hk6⟩
            go_wp2
            go_ret
            exact ⟨rfl, none_below ((hk.trans hk5).trans hk6)⟩
        · go_wp2_with fail
          refine (open_in b g 4 L n _ _ hM Hl.out.2).mono ?_
          rintro e w5 ⟨rfl, hk5⟩
          simp only [St.isOpen, St.isAgain]
          go_wp2_with fail
          refine (fixed_any _).mono ?_
          rintro e w6 ⟨rfl, hk6⟩
          go_wp2
          go_ret
          exact ⟨rfl, none_below ((hk.trans hk5).trans hk6)⟩
end Go.Proofs.Ytcblncdfppkhcaa

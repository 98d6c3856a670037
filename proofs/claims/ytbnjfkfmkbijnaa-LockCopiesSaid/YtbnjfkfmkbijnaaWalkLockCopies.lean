/- The walk of the law LockCopies. -/
import Derived.Test.YtbnjfkfmkbijnaaLockG
set_option linter.all false
namespace Go.Proofs.Ytbnjfkfmkbijnaa
open Go.RowKit

set_option maxRecDepth 100000 in
set_option maxHeartbeats 8000000 in
theorem walkLockCopies (w : World) (v : Value) (rows : List (List Value)) (hs : Src w v rows.length 1 rows.flatten) (hr : ∀ x ∈ rows, FlatOk [.int .i64] x) (hm : rows.length ≤ maxLen) (core : Int) (_ : (Lit.int .i64 core).wf = true) :
    Calls Try.prog 8 #[v, .int .i64 core] w fun e w' => e = .returned (.bool true) ∧ Below w.heap.size w w' := by
  obtain ⟨zs, hz, _⟩ := ints_of_rows hr
  rw [hz] at hs
  generalize rows.length = n at hs hm
  clear hz hr
  unfold maxLen at hm
  obtain ⟨hl, ao, c, rfl, hc⟩ := hs.ints
  have Hc := Lib.hid hc
  clear hc hl hs
  obtain ⟨t, ht, a0, a1⟩ := and_small core 3 (by decide)
  simp only [Int.reducePow, Int.reduceSub] at ht a1
  go_enter Try.func8, Try.ntmps8
  go_wp2_with fail
  refine (lock_new 8 _ (by decide) (by decide)).mono ?_
  rintro e w1 ⟨rfl, hM, hk⟩
  replace hM : LK w.heap.size w1 (w.heap.size + 1) w.heap.size 8 [] := hM
  go_wp2_with fail
  obtain ⟨b, hb⟩ : ∃ b, b = w.heap.size + 1 := ⟨_, rfl⟩
  rw [← hb] at hM ⊢
  clear hb
  go_loopw [7] (fun i wr => ∃ (k : Nat) (L : List Int), k ≤ n ∧ k ≤ 40 ∧ i = .int .i64 k ∧ LK w.heap.size wr b w.heap.size 8 L ∧ New w wr) (fun i _ => 40 - (intOf i).toNat)
  case atStart => exact ⟨0, [], by omega, by omega, rfl, hM, hk⟩
  case round =>
    clear hM hk
    obtain ⟨k, L, hkn, hk40, rfl, hM, hk⟩ := hrel
    by_cases h12 : k < n ∧ k < 40
    · obtain ⟨h1, h2⟩ := h12
      have h2z : (k : Int) < 40 := by omega
      obtain ⟨ad, rfl, hcell⟩ := Hc.out k h1
      replace hcell := cell_kept hk hcell (fun h => h)
      generalize zs.getD k 0 = u at hcell
      obtain ⟨x, hx, c0, c1⟩ := and_small u 3 (by decide)
      simp only [Int.reducePow, Int.reduceSub] at hx c1
      by_cases hxl : x ∈ L
      · go_wp2_with fail
        refine (enter1 _ _ _ _ L x 160 _ hM hk.size (by rw [enterE, if_neg (fun h => h ⟨c0, c1⟩), if_pos hxl])).mono ?_
        rintro e w2 ⟨rfl, hM2, hk2⟩
        replace hk2 := hk.new hk2 (fun i hi => hi.1)
        clear hM hk hcell hxl
        obtain ⟨hr1, hr2, hho⟩ : ∃ hr1 hr2, holderE L = (hr1, hr2) := ⟨_, _, rfl⟩
        go_wp2_with fail
        refine (holder1 _ _ _ _ hr1 hr2 _ hM2 hho).mono ?_
        rintro e w3 ⟨rfl, rfl⟩
        go_wp2_with fail
        refine (leave1 _ _ _ _ _ hr1 _ _ hM2 rfl).mono ?_
        rintro e w3 ⟨rfl, hM3, hk3⟩
        replace hk3 := hk2.new hk3 (fun i hi => hi.1)
        clear hM2 hk2
        go_wp2_with fail
        go_roundw
        case rel => exact ⟨k + 1, _, by omega, by omega, by go_num, hM3, hk3⟩
        case measure => simp [intOf]; omega
      · go_wp2_with fail
        refine (enter1 _ _ _ _ (L ++ [x]) x 0 _ hM hk.size (by rw [enterE, if_neg (fun h => h ⟨c0, c1⟩), if_neg hxl])).mono ?_
        rintro e w2 ⟨rfl, hM2, hk2⟩
        replace hk2 := hk.new hk2 (fun i hi => hi.1)
        clear hM hk hcell hxl
        go_wp2_with fail
        go_roundw
        case rel => exact ⟨k + 1, _, by omega, by omega, by go_num, hM2, hk2⟩
        case measure => simp [intOf]; omega
    · have hcase : ¬ k < n ∨ (k < n ∧ ¬ k < 40) := by
        by_cases h : k < n
        · exact .inr ⟨h, fun h' => h12 ⟨h, h'⟩⟩
        · exact .inl h
      clear h12
      obtain ⟨hh, is, hho⟩ : ∃ hh is, holderE L = (hh, is) := ⟨_, _, rfl⟩
      obtain ⟨r, L2, hlv, hr⟩ : ∃ r L2, leaveE 8 L hh = (r, L2) ∧ decide (r = 0) = is := by
        cases L with
        | nil =>
          simp [holderE] at hho
          obtain ⟨rfl, rfl⟩ := hho
          exact ⟨161, [], by simp [leaveE], rfl⟩
        | cons a l =>
          simp [holderE] at hho
          obtain ⟨rfl, rfl⟩ := hho
          have := hM.core a (by simp)
          exact ⟨0, l, by rw [leaveE, if_neg (fun h => h this), if_pos (by simp)]; rfl, rfl⟩
      have hl8 := hM.len
      obtain ⟨r3, L3, he3⟩ : ∃ r3 L3, enterE 8 L2 t = (r3, L3) := ⟨_, _, rfl⟩
      rcases hcase with h | ⟨h, h'⟩
      all_goals
        go_wp2_with fail
        refine (lock_line _ _ _ _ _ hM).mono ?_
        rintro e w2 ⟨v2, rfl, hown2, hk2⟩
        have hM2 := hM.same hk2
        replace hk2 := hk.trans hk2
        clear hM hk
        go_wp2_with fail
        refine (lock_copy _ _ _ _ _ hM2 (by decide)).mono ?_
        rintro e w3 ⟨b', g', rfl, hC3, hk3⟩
        have hM3 := hM2.sized.same hk3
        have hown3 := own_same hown2 hk3
        have hsz3 := hk3.size
        replace hk3 := hk2.trans hk3
        clear hM2 hown2
        go_wp2_with fail
        refine (lock_line _ _ _ _ _ hC3).mono ?_
        rintro e w4 ⟨v4, rfl, hown4, hk4⟩
        have hM4 := hM3.same hk4
        have hC4 := hC3.same hk4
        have hown4' := own_same hown3 hk4
        have hsz4 := hk4.size
        replace hk4 := hk3.trans hk4
        clear hM3 hC3 hown3 hk3
        go_wp2_with fail
        refine (nums_any _ _ _ _ L L _ (Src.of_own hown4) (Src.of_own hown4') (by omega) (by omega)).mono ?_
        rintro e w5 ⟨rfl, hk5⟩
        rw [show decide (L = L) = true by simp]
        have hM5 := hM4.same hk5
        have hC5 := hC4.same hk5
        have hown5 := own_same hown4' hk5
        have hsz5 := hk5.size
        replace hk5 := hk4.trans hk5
        clear hM4 hC4 hown4 hown4' hk4
        go_wp2_with fail
        refine (holder1 _ _ _ _ hh is _ hM5 hho).mono ?_
        rintro e w6 ⟨rfl, rfl⟩
        go_wp2_with fail
        refine (leave2 _ _ _ L L2 hh r _ hM5 hlv).mono ?_
        rintro e w6 ⟨rfl, hM6, hk6⟩
        have hC6 := hC5.apart hk6 (fun i hi hj => by omega)
        have hown6 := own_kept hown5 hk6 (fun i hi hF => by obtain ⟨c, hc⟩ := own_type hown5 hi; exact Fr.not3 hc (by decide) (by decide) (by decide) hF)
        have hk6' : New w w6 := hk5.new hk6 (fun i hi => hi.1.1)
        have hsz6 := hk6.size
        clear hM5 hC5 hown5 hk5 hk6 hlv
        go_wp2_with fail
        refine (enter2 _ _ _ L2 L3 t r3 _ hM6 he3).mono ?_
        rintro e w7 ⟨rfl, _, hk7⟩
        have hC7 := hC6.apart hk7 (fun i hi hj => by omega)
        have hown7 := own_kept hown6 hk7 (fun i hi hF => by obtain ⟨c, hc⟩ := own_type hown6 hi; exact Fr.not3 hc (by decide) (by decide) (by decide) hF)
        have hk7' : New w w7 := hk6'.new hk7 (fun i hi => hi.1.1)
        clear hM6 hC6 hown6 hk6' hk7
        go_wp2_with fail
        refine (holder1 _ _ _ _ hh is _ hC7 hho).mono ?_
        rintro e w8 ⟨rfl, rfl⟩
        clear hho
        go_wp2_with fail
        refine (lock_line _ _ _ _ _ hC7).mono ?_
        rintro e w8 ⟨v8, rfl, hown8, hk8⟩
        have hown8' := own_same hown7 hk8
        replace hk8 := hk7'.trans hk8
        clear hC7 hown7 hk7'
        go_wp2_with fail
        refine (nums_any _ _ _ _ L L _ (Src.of_own hown8) (Src.of_own hown8') (by omega) (by omega)).mono ?_
        rintro e w9 ⟨rfl, hk9⟩
        rw [show decide (L = L) = true by simp]
        replace hk9 := hk8.trans hk9
        clear hown8 hown8' hk8
        go_wp2_with fail
        refine (fixed_any _).mono ?_
        rintro e wf ⟨rfl, hkf⟩
        go_wp2
        go_ret
        exact ⟨rfl, none_below (hk9.trans hkf)⟩
end Go.Proofs.Ytbnjfkfmkbijnaa

/- The walk of the law MemoryMoves. -/
import Derived.Test.YtnfomlgjnckphaaLaid
set_option linter.all false
namespace Go.Proofs.Ytnfomlgjnckphaa
open Go.RowKit

set_option maxHeartbeats 2000000 in
theorem walkMemoryMoves (w : World) (v : Value) (rows : List (List Value)) (hs : Src w v rows.length 1 rows.flatten) (hr : ∀ x ∈ rows, FlatOk [.int .u64] x) (hm : rows.length ≤ maxLen)
    (oat : Int) (_ : (Lit.int .i64 oat).wf = true) (on : Int) (_ : (Lit.int .i64 on).wf = true) :
    Calls Try.prog 7 #[v, .int .i64 oat, .int .i64 on] w fun e w' => e = .returned (.bool true) ∧ Below w.heap.size w w' := by
  obtain ⟨zs, hz, _⟩ := ints_of_rows hr
  rw [hz] at hs
  generalize rows.length = n at hs hm
  clear hz hr
  obtain ⟨k, hk, a0, a1⟩ := and_small on 4 (by decide)
  obtain ⟨na, hna, b0, b1⟩ := and_small oat 16 (by decide)
  simp only [Int.reducePow, Int.reduceSub] at hk a1 hna b1
  obtain ⟨f, hf, c0, c1⟩ : ∃ f : Int, na % (17 - k) = f ∧ 0 ≤ f ∧ f < 17 - k := ⟨_, rfl, Int.emod_nonneg _ (by omega), Int.emod_lt_of_pos _ (by omega)⟩
  obtain ⟨k, rfl⟩ := Int.eq_ofNat_of_zero_le a0
  obtain ⟨f, rfl⟩ := Int.eq_ofNat_of_zero_le c0
  go_enter Try.func7, Try.ntmps7
  go_wp2_with fail
  refine (laid_any _ n zs _ hs (by unfold maxLen at hm; omega)).mono ?_
  rintro e w1 ⟨b, g, cap, ws, rfl, hM1, hw, hb, hg, hk1⟩
  have Hw := Lib.hid hw
  clear hw hs
  have HF := Lib.hid hf
  clear hf
  go_wp2_with fail
  rw [HF.out]
  refine (words_yes _ _ _ ws f k _ hM1 (by simp [inB, Hw.out]; omega)).mono ?_
  rintro e w2 ⟨va, rfl, ho1, hk2⟩
  have hM2 := hM1.same hk2
  have HK := Lib.hid hk
  have HN := Lib.hid hna
  clear hk hna
  go_wp2_with fail
  refine (move_yes _ _ _ ws 16 f k _ hM2 (by simp [inB, Hw.out]; omega) (by simp [inB, Hw.out]; omega)).mono ?_
  rintro e w3 ⟨rfl, hM3, hk3⟩
  have h16 : Int.toNat 16 = 16 := rfl
  simp only [Int.toNat_natCast, h16] at hM3 ho1
  have hl3 : Hid ((splice ws 16 ((ws.drop f).take k)).length = 32) := by
    show _ = _
    rw [length_splice _ _ _ (by simp [Hw.out]; omega), Hw.out]
  go_wp2_with fail
  refine (fill_yes _ _ _ _ f k 77 _ hM3 (by have := hl3.out; simp [inB]; omega)).mono ?_
  rintro e w4 ⟨rfl, hM4, hk4⟩
  simp only [Int.toNat_natCast] at hM4
  have hl4 : Hid ((splice (splice ws 16 ((ws.drop f).take k)) f (List.replicate k 77)).length = 32) := by
    show _ = _
    rw [length_splice _ _ _ (by simp [hl3.out]; omega), hl3.out]
  go_wp2_with fail
  refine (move_yes _ _ _ _ f 16 k _ hM4 (by have := hl4.out; simp [inB]; omega) (by have := hl4.out; simp [inB]; omega)).mono ?_
  rintro e w5 ⟨rfl, hM5, hk5⟩
  simp only [Int.toNat_natCast, h16] at hM5
  clear h16
  generalize hwz : splice (splice (splice ws 16 ((ws.drop f).take k)) f (List.replicate k 77)) f (((splice (splice ws 16 ((ws.drop f).take k)) f (List.replicate k 77)).drop 16).take k) = wz at hM5
  have hback : (wz.drop f).take k = (ws.drop f).take k := by
    rw [← hwz]
    apply List.ext_getElem?
    intro i
    by_cases hi : i < k
    · have e0 := Hw.out
      simp only [List.getElem?_take, if_pos hi, List.getElem?_drop]
      have gd : ∀ (l : List Int) (j : Nat), j < l.length → l[j]? = some (l.getD j 0) := fun l j h => by simp [List.getD, h]
      have l1 := hl3.out
      have l2 := hl4.out
      have l3 : (((splice (splice ws 16 ((ws.drop f).take k)) f (List.replicate k 77)).drop 16).take k).length = k := by simp [l2]; omega
      rw [gd _ _ (by rw [length_splice _ _ _ (by omega)]; omega), gd _ _ (by omega)]
      rw [splice_getD _ _ _ _ (by omega), if_pos (by omega)]
      rw [show f + i - f = i by omega]
      have : (((splice (splice ws 16 ((ws.drop f).take k)) f (List.replicate k 77)).drop 16).take k).getD i 0 = (splice (splice ws 16 ((ws.drop f).take k)) f (List.replicate k 77)).getD (16 + i) 0 := by
        simp [List.getD, hi]
      rw [this, splice_getD _ _ _ _ (by simp; omega), if_neg (by simp; omega), splice_getD _ _ _ _ (by simp; omega), if_pos (by simp; omega)]
      simp [List.getD, hi]
    · simp [List.getElem?_take, hi]
  have hlz : Hid (wz.length = 32) := by
    show _ = _
    have l2 := hl4.out
    rw [← hwz, length_splice _ _ _ (by simp; omega), l2]
  clear hwz
  go_wp2_with fail
  refine (words_yes _ _ _ wz f k _ hM5 (by simp [inB, hlz.out]; omega)).mono ?_
  rintro e w6 ⟨vb, rfl, ho2, hk6⟩
  simp only [Int.toNat_natCast] at ho2
  rw [hback] at ho2
  have hgb : ∀ k', va.ownBlock = some k' → k' ≠ g := by
    intro k' hk' e
    have := (ho1.lt k' hk').1
    have := hM1.ltg
    omega
  have hna : ∀ a n c, va = .slice (some a) n c → ¬ a.block = g := fun a n c h => by subst h; exact hgb _ rfl
  have s1 := (((Src.of_own ho1).kept hk3 hna).kept hk4 hna).kept hk5 hna
  go_wp2_with fail
  refine (same_any _ _ k k _ _ _ (s1.same hk6) (Src.of_own ho2) (by omega) (by omega)).mono ?_
  rintro e w7 ⟨rfl, hk7⟩
  have hgg : ∀ i, i = g → w.heap.size ≤ i := fun i h => by omega
  have hkk : New w w7 := (((((hk1.trans hk2).new hk3 hgg).new hk4 hgg).new hk5 hgg).trans hk6).trans hk7
  simp only [decide_true]
  go_wp2_with fail
  refine (fixed_any _).mono ?_
  rintro e w8 ⟨rfl, hk8⟩
  go_wp2
  go_ret
  exact ⟨rfl, none_below (hkk.trans hk8)⟩
end Go.Proofs.Ytnfomlgjnckphaa

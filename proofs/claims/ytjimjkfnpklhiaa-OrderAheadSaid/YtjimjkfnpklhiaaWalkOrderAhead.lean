/- The walk of the law OrderAhead. -/
import Derived.Test.YtjimjkfnpklhiaaOrdN
set_option linter.all false
namespace Go.Proofs.Ytjimjkfnpklhiaa
open Go.RowKit Go.Maps

set_option maxRecDepth 100000 in
set_option maxHeartbeats 8000000 in
theorem walkOrderAhead (w : World) (cores : Int) (_ : (Lit.int .i64 cores).wf = true) (v : Value) (rows : List (List Value)) (hs : Src w v rows.length 10 rows.flatten) (hr : ∀ x ∈ rows, Flat2Ok w ksSeen x) (hm : rows.length ≤ maxLen) (kq : Int) (_ : (Lit.int .i64 kq).wf = true) :
    Calls Try.prog 4 #[.int .i64 cores, v, .int .i64 kq] w fun e w' => e = .returned (.bool true) ∧ Below w.heap.size w w' := by
  have hbound := bound_rows w v rows hs hr hm
  have Hbound := Lib.hid hbound
  clear hbound hr hm
  obtain ⟨ao0, c0, rfl, -⟩ := id hs
  clear hs
  obtain ⟨m, hmm, a0, a1⟩ := and_small cores 3 (by decide)
  simp only [Int.reducePow, Int.reduceSub] at hmm a1
  obtain ⟨m, rfl⟩ := Int.eq_ofNat_of_zero_le a0
  obtain ⟨n, hn⟩ : ∃ n : Nat, n = 1 + m := ⟨_, rfl⟩
  have hw1 : IntKind.i64.wrap (1 + (m : Int)) = (n : Int) := by rw [IntKind.wrap_i64]; omega
  have hn1 : 1 ≤ n := by omega
  have hn2 : n ≤ 8 := by omega
  clear hn a0 a1
  obtain ⟨y, hy, y0, y1⟩ := and_small kq 16 (by decide)
  simp only [Int.reducePow, Int.reduceSub] at hy y1
  obtain ⟨y, rfl⟩ := Int.eq_ofNat_of_zero_le y0
  clear y0 y1
  go_enter Try.func4, Try.ntmps4
  go_wp2_with fail
  refine Hbound.out.mono ?_
  rintro e w1 ⟨ao, len, c, M, rfl, hlen, hlc, hl60, hS, hk1⟩
  obtain ⟨l1, hl1⟩ : ∃ l1, l1 = len + 1 := ⟨_, rfl⟩
  have hw2 : IntKind.i64.wrap ((len : Int) + 1) = (l1 : Int) := by rw [IntKind.wrap_i64]; omega
  obtain ⟨q, hq⟩ : ∃ q, q = y % l1 := ⟨_, rfl⟩
  have hqn : q ≤ len := by have := Nat.mod_lt y (show l1 > 0 by omega); omega
  have hrem : Int.tmod (y : Int) (l1 : Int) = (q : Int) := by rw [Int.tmod_eq_emod_of_nonneg (by omega), hq]; rfl
  have hn0 : (l1 : Int) ≠ 0 := by omega
  have hn00 : ¬ l1 = 0 := by omega
  have hqc : q ≤ c := by omega
  obtain ⟨ra, hra⟩ : ∃ ra, (goE n [] 0 M 0).1 = ra := ⟨_, rfl⟩
  obtain ⟨rb, hrb⟩ : ∃ rb, (goE n [] 0 (M.take q) 0).1 = rb := ⟨_, rfl⟩
  obtain ⟨rd, hrd⟩ : ∃ rd, (goE 8 [] 0 M 0).1 = rd := ⟨_, rfl⟩
  have hpre := goE_pre n M q [] 0 0
  have hrange := goE_range n M [] 0 0
  have hcores := goE_cores hn2 M [] 0 0
  rw [hra] at hpre hrange hcores
  rw [hrb] at hpre
  rw [hrd] at hcores
  have hf1 : ∀ W, New w1 W → Calls Try.prog 11 #[.int .i64 n, .slice ao len c] W fun e w' => e = .returned (.int .i64 ra) ∧ New w1 w' := fun W k => (hS.same k).first k n hn1 hn2 ra hra
  have hf2 : ∀ W, New w1 W → Calls Try.prog 11 #[.int .i64 n, .slice ao q c] W fun e w' => e = .returned (.int .i64 rb) ∧ New w1 w' := fun W k => ((hS.same k).take hqn).first k n hn1 hn2 rb hrb
  have hf3 : ∀ W, New w1 W → Calls Try.prog 11 #[.int .i64 8, .slice ao len c] W fun e w' => e = .returned (.int .i64 rd) ∧ New w1 w' := fun W k => (hS.same k).first k 8 (by decide) (by decide) rd hrd
  have Hf1 := Lib.hid hf1
  have Hf2 := Lib.hid hf2
  have Hf3 := Lib.hid hf3
  have hcase : (ra = -1 ∧ rb = -1 ∧ rd = -1) ∨ (0 ≤ ra ∧ ra < (q : Int) ∧ rb = ra ∧ (rd = -1 ∨ ra ≤ rd)) ∨ (0 ≤ ra ∧ (q : Int) ≤ ra ∧ rb = -1 ∧ (rd = -1 ∨ ra ≤ rd)) := by
    simp only [Int.natCast_zero, Int.zero_add] at hpre hrange
    by_cases h : ra < (q : Int)
    · rw [if_pos h] at hpre; omega
    · rw [if_neg h] at hpre; omega
  have Hcase := Lib.hid hcase
  have HK := Lib.hid hk1
  have hd0 : New w1 w1.drew := (Kept.refl _ _).drew
  have hkk : New w1 w1 := Kept.refl _ _
  clear Hbound hlen hS hk1 hl1 hq hra hrb hrd hpre hrange hcores hf1 hf2 hf3 hcase
  go_upto_region 4 with fail
  go_region_held3 (fun W => New w1 W) (with_reducible assumption)
    (first
      | (go_at_call 11; with_reducible refine (Hf1.out _ (by with_reducible assumption)).mono ?_; rintro e w' ⟨rfl, hk⟩)
      | (go_at_call 11; with_reducible refine (Hf2.out _ (by with_reducible assumption)).mono ?_; rintro e w' ⟨rfl, hk⟩))
  go_wp2_with fail
  refine (Hf3.out _ (by with_reducible assumption)).mono ?_
  rintro e w4 ⟨rfl, hk4⟩
  have hfix := Lib.hid (fixed_new hk4)
  rcases Hcase.out with ⟨rfl, rfl, rfl⟩ | ⟨h0, hlt, hbe, h3⟩ | ⟨h0, hge, rfl, h3⟩
  · go_wp2_with fail
    refine hfix.out.mono ?_
    rintro e w5 ⟨rfl, hk5⟩
    go_wp2_with fail
    go_ret
    exact ⟨rfl, none_below (HK.out.trans hk5)⟩
  · subst hbe
    have hneg : ¬ rb < 0 := by omega
    have hnq : ¬ (q : Int) ≤ rb := by omega
    rcases h3 with rfl | h3
    · go_wp2_with fail
      refine hfix.out.mono ?_
      rintro e w5 ⟨rfl, hk5⟩
      go_wp2_with fail
      go_ret
      exact ⟨rfl, none_below (HK.out.trans hk5)⟩
    · have hnd : ¬ rd < 0 := by omega
      go_wp2_with fail
      refine hfix.out.mono ?_
      rintro e w5 ⟨rfl, hk5⟩
      go_wp2_with fail
      go_ret
      exact ⟨rfl, none_below (HK.out.trans hk5)⟩
  · have hneg : ¬ ra < 0 := by omega
    have hnq : ¬ ra < (q : Int) := by omega
    rcases h3 with rfl | h3
    · go_wp2_with fail
      refine hfix.out.mono ?_
      rintro e w5 ⟨rfl, hk5⟩
      go_wp2_with fail
      go_ret
      exact ⟨rfl, none_below (HK.out.trans hk5)⟩
    · have hnd : ¬ rd < 0 := by omega
      go_wp2_with fail
      refine hfix.out.mono ?_
      rintro e w5 ⟨rfl, hk5⟩
      go_wp2_with fail
      go_ret
      exact ⟨rfl, none_below (HK.out.trans hk5)⟩
end Go.Proofs.Ytjimjkfnpklhiaa

/- The walk of the law MemoryParts. -/
import Derived.Test.YtnfomlgjnckphaaLaid
set_option linter.all false
namespace Go.Proofs.Ytnfomlgjnckphaa
open Go.RowKit

set_option maxHeartbeats 2000000 in
theorem walkMemoryParts (w : World) (v : Value) (rows : List (List Value)) (hs : Src w v rows.length 1 rows.flatten) (hr : ∀ x ∈ rows, FlatOk [.int .u64] x) (hm : rows.length ≤ maxLen)
    (cut : Int) (_ : (Lit.int .i64 cut).wf = true) :
    Calls Try.prog 6 #[v, .int .i64 cut] w fun e w' => e = .returned (.bool true) ∧ Below w.heap.size w w' := by
  obtain ⟨zs, hz, _⟩ := ints_of_rows hr
  rw [hz] at hs
  generalize rows.length = n at hs hm
  clear hz hr
  obtain ⟨c, hc, a0, a1⟩ := and_small cut 5 (by decide)
  simp only [Int.reducePow, Int.reduceSub] at hc a1
  obtain ⟨c, rfl⟩ := Int.eq_ofNat_of_zero_le a0
  obtain ⟨i0, hi0, hz0, hz1, hz2⟩ := info_parts info30
  go_enter Try.func6, Try.ntmps6
  go_wp2_with fail
  refine (laid_any _ n zs _ hs (by unfold maxLen at hm; omega)).mono ?_
  rintro e w1 ⟨b, g, cap, ws, rfl, hM1, hw, hb, hg, hk1⟩
  have Hw := Lib.hid hw
  clear hw hs
  go_wp2_with fail
  refine (words_yes _ _ _ ws 0 c _ hM1 (by simp [inB, Hw.out]; omega)).mono ?_
  rintro e w2 ⟨va, rfl, ho1, hk2⟩
  have hM2 := hM1.same hk2
  have HC := Lib.hid hc
  clear hc
  go_wp2_with fail
  refine (words_yes _ _ _ ws c (32 - c) _ hM2 (by simp [inB, Hw.out]; omega)).mono ?_
  rintro e w3 ⟨vb, rfl, ho2, hk3⟩
  have hM3 := hM2.same hk3
  go_wp2_with fail
  refine (words_all _ _ _ ws 32 _ hM3 (by rw [Hw.out]; rfl) (by rw [Hw.out]; decide)).mono ?_
  rintro e w4 ⟨g1, cap1, rfl, hr1, hg1, hk4⟩
  have hM4 := hM3.same hk4
  rw [Hw.out]
  go_wp2_with fail
  refine (words_no _ _ _ ws c (33 - c) _ hM4 (by simp [inB, Hw.out]; omega) (by omega) (by omega)).mono ?_
  rintro e w5 ⟨rfl, rfl⟩
  have s1 : Src w4 va c 1 ((ws.take c).map (Value.int .u64)) := by
    have := ((Src.of_own ho1).same hk3).same hk4
    simpa using this
  have s2 : Src w4 vb (32 - c) 1 ((ws.drop c).map (Value.int .u64)) := by
    have := (Src.of_own ho2).same hk4
    rw [List.take_of_length_le (by simp [Hw.out])] at this
    rwa [show ((32 : Int) - c).toNat = 32 - c by omega, Int.toNat_natCast] at this
  have hk5 : New w w4 := ((hk1.trans hk2).trans hk3).trans hk4
  have hk6 : New w4 (w4.alloc (.cells #[] 30)) := (Kept.refl _ _).alloc _
  clear ho1 ho2
  go_wp2_with (first | (at_builtin; refine wpList_append_src rfl (.tmp 49) (.tmp 50) 29 rfl w4.heap.size 30 i0 (.int .u64 0) 1 8 Try.underlying29 hi0 hz0 hz1 hz2 rfl (by decide) (.slice (some ⟨w4.heap.size, 0, none⟩) 0 0) 0 [] rfl (World.ownsRow_made w4 #[] 0 (Nat.le_refl _) (by unfold maxLen; omega) rfl) va c _ rfl (s1.same hk6) (ints_oneCell _ _) (by unfold maxLen; omega) (by omega) (by simp) ?_; intro v1 w5 hown1 hgr1; simp only [Nat.zero_add, List.nil_append] at hown1; have hk7 : New w4 w5 := hk6.grown hgr1 (by intro k hk; simp [Value.ownBlock] at hk; omega)) | (at_builtin; refine wpList_append_src rfl (.tmp 52) (.tmp 53) 29 rfl w4.heap.size 30 i0 (.int .u64 0) 1 8 Try.underlying29 hi0 hz0 hz1 hz2 rfl (by decide) v1 c _ rfl hown1 vb (32 - c) _ rfl (s2.same hk7) (ints_oneCell _ _) (by unfold maxLen; omega) (by omega) (by have := hk7.size; omega) ?_; intro v2 w6 hown2 hgr2; have hk8 : New w4 w6 := hk7.grown hgr2 (fun k hk => .inl (hown1.lt k hk).1)) | fail)
  have s3 : Src w6 v2 32 1 (ws.map (Value.int .u64)) := by
    have := Src.of_own hown2
    rw [← List.map_append, List.take_append_drop] at this
    rwa [show c + (32 - c) = 32 by omega] at this
  have s4 : Src w6 (.slice (some ⟨g1, 0, none⟩) 32 cap1) 32 1 (ws.map (Value.int .u64)) := by have := (hr1.same hk8).src; simpa [Hw.out] using this
  refine (same_any _ _ 32 32 _ _ _ s3 s4 (by omega) (by omega)).mono ?_
  rintro e w7 ⟨rfl, hk9⟩
  simp only [decide_true]
  go_wp2_with fail
  refine (fixed_any _).mono ?_
  rintro e w8 ⟨rfl, hk10⟩
  go_wp2
  go_ret
  exact ⟨rfl, none_below (((hk5.trans hk8).trans hk9).trans hk10)⟩
end Go.Proofs.Ytnfomlgjnckphaa

/- The walk of the law NotifyTwice. -/
import Derived.Test.YtaaoegfdhpploaaNotE
set_option linter.all false
namespace Go.Proofs.Ytaaoegfdhpploaa
open Go.RowKit

set_option maxRecDepth 100000 in
set_option maxHeartbeats 4000000 in
theorem walkNotifyTwice (w : World) (a : Int) (ha : (Lit.int .u64 a).wf = true) (c : Int) (hc : (Lit.int .u64 c).wf = true) (who : Int) (hwho : (Lit.int .i64 who).wf = true) :
    Calls Try.prog 5 #[.int .u64 a, .int .u64 c, .int .i64 who] w fun e w' => e = .returned (.bool true) ∧ Below w.heap.size w w' := by
  obtain ⟨A, hA⟩ := u64_bv ha
  have h0 : bits .or .u64 0 a = a := by
    rw [hA]
    have := or_u64 0#64 A
    simpa using this
  obtain ⟨ab, hab⟩ : ∃ ab, bits .or .u64 a c = ab := ⟨_, rfl⟩
  clear hA ha hc hwho
  have hbO : ∀ k, w.heap.size ≤ k → w.heap.size ≤ k := fun k hk => hk
  go_enter Try.func5, Try.ntmps5
  go_wp2_with fail
  refine (new_any w).mono ?_
  rintro e w1 ⟨rfl, hN, hk⟩
  obtain ⟨b, hb⟩ : ∃ b, b = w.heap.size := ⟨_, rfl⟩
  have hN1 : Nt (fun k => w.heap.size ≤ k) w1 b 0 false [] := by rw [hb]; exact hN
  rw [← hb]
  clear hb hN
  go_wp2_with fail
  refine (signal_none b 0 false a a w1 hN1 h0).mono ?_
  rintro e w2 ⟨rfl, hN2, hk2⟩
  replace hk := hk.new hk2 hbO
  clear hN1 hk2
  go_wp2_with fail
  refine (signal_none b a true c ab w2 hN2 hab).mono ?_
  rintro e w3 ⟨rfl, hN3, hk3⟩
  replace hk := hk.new hk3 hbO
  clear hN2 hk3
  go_wp2_with fail
  refine (word_any b ab true [] w3 hN3).mono ?_
  rintro e w4 ⟨rfl, hk4⟩
  have hN4 := hN3.same hk4
  replace hk := hk.trans hk4
  clear hN3 hk4
  go_wp2_with fail
  refine (wait_word b ab [] who true w4 hN4 (by decide) (by simp)).mono ?_
  rintro e w5 ⟨rfl, hN5, hk5⟩
  replace hk := hk.new hk5 hbO
  clear hN4 hk5
  go_wp2_with fail
  refine (word_any b 0 false [] w5 hN5).mono ?_
  rintro e w6 ⟨rfl, hk6⟩
  have hN6 := hN5.same hk6
  replace hk := hk.trans hk6
  clear hN5 hk6
  go_wp2_with fail
  refine (waits_any b 0 false [] w6 hN6 (by decide)).mono ?_
  rintro e w7 ⟨v7, rfl, hown7, hk7⟩
  obtain ⟨ao7, c7, rfl, -⟩ := Src.of_own hown7
  replace hk := hk.trans hk7
  clear hN6 hk7 hown7
  go_wp2_with fail
  refine (fixed_any _).mono ?_
  rintro e w8 ⟨rfl, hk8⟩
  go_wp2_with fail
  go_ret
  exact ⟨rfl, none_below (hk.trans hk8)⟩
end Go.Proofs.Ytaaoegfdhpploaa

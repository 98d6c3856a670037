/- The walk of the law IrqNone. -/
import Derived.Test.YtcblncdfppkhcaaLineB
set_option linter.all false
namespace Go.Proofs.Ytcblncdfppkhcaa
open Go.RowKit

set_option maxRecDepth 100000 in
set_option maxHeartbeats 2000000 in
theorem walkIrqNone (w : World) (many : Int) (_ : (Lit.int .i64 many).wf = true) (line : Int) (_ : (Lit.int .i64 line).wf = true) (ack : Bool) :
    Calls Try.prog 7 #[.int .i64 many, .int .i64 line, .bool ack] w fun e w' => e = .returned (.bool true) ∧ Below w.heap.size w w' := by
  obtain ⟨m, hm, a0, a1⟩ := and_small many 6 (by decide)
  obtain ⟨l, hl, b0, b1⟩ := and_small line 16 (by decide)
  simp only [Int.reducePow, Int.reduceSub] at hm a1 hl b1
  obtain ⟨m, rfl⟩ := Int.eq_ofNat_of_zero_le a0
  obtain ⟨l, rfl⟩ := Int.eq_ofNat_of_zero_le b0
  have hw1 : IntKind.i64.wrap (1 + (m : Int)) = ((1 + m : Nat) : Int) := by rw [IntKind.wrap_i64]; omega
  obtain ⟨nl, hnl⟩ : ∃ nl : Nat, nl = 1 + m + l := ⟨_, rfl⟩
  have hw2 : IntKind.i64.wrap (((1 + m : Nat) : Int) + (l : Int)) = (nl : Int) := by rw [IntKind.wrap_i64]; omega
  have hnl1 : 1 + m ≤ nl := by omega
  have hnl2 : nl ≤ 100000 := by omega
  clear hnl
  obtain ⟨k, hk⟩ : ∃ k, k = l % (1 + m) := ⟨_, rfl⟩
  have hkn : k < 1 + m := by rw [hk]; exact Nat.mod_lt _ (by omega)
  have hrem : Int.tmod (l : Int) ((1 + m : Nat) : Int) = (k : Int) := by rw [hk]; rfl
  have hw3 : IntKind.i64.wrap (k : Int) = (k : Int) := by rw [IntKind.wrap_i64]; omega
  have hnz : ¬ ((1 + m : Nat) : Int) = 0 := by omega
  obtain ⟨n, hn⟩ : ∃ n, n = 1 + m := ⟨_, rfl⟩
  rw [← hn] at hw1 hnl1 hw2 hkn hrem hnz
  have hn1 : 1 ≤ n := by omega
  have hn2 : n ≤ 64 := by omega
  clear hn hk
  go_enter Try.func7, Try.ntmps7
  go_wp2_with fail
  refine (new_yes n _ (by omega) (by omega)).mono ?_
  rintro e w1 ⟨rfl, hM1, hk1⟩
  rw [Int.toNat_natCast] at hM1
  have hx : (List.replicate n Ln.no)[k]? = some Ln.no := by simp [hkn]
  go_wp2_with fail
  refine (raise_in _ _ _ _ k _ _ _ _ _ _ hM1 hx rfl).mono ?_
  rintro e w2 ⟨rfl, hM2, hk2⟩
  replace hk2 := hk1.new hk2 (by intro i hi; omega)
  rw [List.set_getElem?_self hx] at hM2
  clear hM1 hk1
  cases ack
  · go_wp2_with fail
    refine (open_in _ _ _ _ k _ _ hM2 hx).mono ?_
    rintro e w3 ⟨rfl, hk3⟩
    simp only [St.isOpen, St.isAgain]
    have hM3 := hM2.same hk3
    replace hk3 := hk2.trans hk3
    clear hM2 hk2
    go_wp2_with fail
    refine (raise_out _ _ _ _ (nl : Int) _ hM3 (.inr (by rw [List.length_replicate]; omega)) (by omega)).mono ?_
    rintro e w4 ⟨rfl, rfl⟩
    go_wp2_with fail
    refine (free_busy _ _ _ _ k _ _ hM3 hx rfl).mono ?_
    rintro e w4 ⟨rfl, rfl⟩
    go_wp2_with fail
    refine (fixed_any _).mono ?_
    rintro e w6 ⟨rfl, hk6⟩
    go_wp2
    go_ret
    exact ⟨rfl, none_below (hk3.trans hk6)⟩
  · go_wp2_with fail
    refine (ack_in _ _ _ _ k _ _ _ _ _ _ hM2 hx rfl).mono ?_
    rintro e w3 ⟨rfl, hM3, hk3⟩
    replace hk3 := hk2.new hk3 (by intro i hi; omega)
    rw [List.set_getElem?_self hx] at hM3
    clear hM2 hk2
    go_wp2_with fail
    refine (open_in _ _ _ _ k _ _ hM3 hx).mono ?_
    rintro e w4 ⟨rfl, hk4⟩
    simp only [St.isOpen, St.isAgain]
    have hM4 := hM3.same hk4
    replace hk4 := hk3.trans hk4
    clear hM3 hk3
    go_wp2_with fail
    refine (raise_out _ _ _ _ (nl : Int) _ hM4 (.inr (by rw [List.length_replicate]; omega)) (by omega)).mono ?_
    rintro e w5 ⟨rfl, rfl⟩
    go_wp2_with fail
    refine (free_busy _ _ _ _ k _ _ hM4 hx rfl).mono ?_
    rintro e w5 ⟨rfl, rfl⟩
    go_wp2_with fail
    refine (fixed_any _).mono ?_
    rintro e w6 ⟨rfl, hk6⟩
    go_wp2
    go_ret
    exact ⟨rfl, none_below (hk4.trans hk6)⟩
end Go.Proofs.Ytcblncdfppkhcaa

/- The walk of the law IrqFrees. -/
import Derived.Test.YtcblncdfppkhcaaLineB
set_option linter.all false
namespace Go.Proofs.Ytcblncdfppkhcaa
open Go.RowKit

set_option maxRecDepth 100000 in
set_option maxHeartbeats 4000000 in
theorem walkIrqFrees (w : World) (times : Int) (_ : (Lit.int .i64 times).wf = true) (note : Int) (_ : (Lit.int .i64 note).wf = true) (badge : Int) (_ : (Lit.int .u64 badge).wf = true) :
    Calls Try.prog 6 #[.int .i64 times, .int .i64 note, .int .u64 badge] w fun e w' => e = .returned (.bool true) ∧ Below w.heap.size w w' := by
  obtain ⟨t, ht, a0, a1⟩ := and_small times 3 (by decide)
  obtain ⟨l, hl, b0, b1⟩ := and_small note 16 (by decide)
  simp only [Int.reducePow, Int.reduceSub] at ht a1 hl b1
  obtain ⟨t, rfl⟩ := Int.eq_ofNat_of_zero_le a0
  obtain ⟨l, rfl⟩ := Int.eq_ofNat_of_zero_le b0
  obtain ⟨l1, hl1⟩ : ∃ l1 : Nat, l1 = l + 1 := ⟨_, rfl⟩
  have hw1 : IntKind.i64.wrap ((l : Int) + 1) = (l1 : Int) := by rw [IntKind.wrap_i64]; omega
  clear hl1
  obtain ⟨bb, hbb⟩ : ∃ bb, IntKind.u64.wrap (badge + 1) = bb := ⟨_, rfl⟩
  go_enter Try.func6, Try.ntmps6
  go_wp2_with fail
  refine (new_yes 1 _ (by decide) (by decide)).mono ?_
  rintro e w1 ⟨rfl, hM1, hk1⟩
  replace hM1 : LI w1 (w.heap.size + 1) w.heap.size 1 [.no] := hM1
  go_wp2_with fail
  refine (bind_in _ _ _ _ 0 _ _ _ _ hM1 rfl rfl (by omega)).mono ?_
  rintro e w2 ⟨rfl, hM2, hk2⟩
  replace hM2 : LI w2 (w.heap.size + 1) w.heap.size 1 [⟨.opn, l, badge⟩] := hM2
  replace hk2 := hk1.new hk2 (by intro i hi; omega)
  clear hM1 hk1
  go_wp2_with fail
  go_loopw [11] (fun i wr => ∃ (k : Nat) (st : St), k ≤ t ∧ i = .int .i64 k ∧ st ≠ .free ∧ LI wr (w.heap.size + 1) w.heap.size 1 [⟨st, l, badge⟩] ∧ New w wr) (fun i _ => t - (intOf i).toNat)
  case atStart => exact ⟨0, .opn, by omega, rfl, by simp, hM2, hk2⟩
  case round =>
    clear hM2 hk2
    obtain ⟨k, st, hkt, rfl, hst, hM, hk⟩ := hrel
    by_cases h1 : k < t
    · obtain ⟨r, hr⟩ : ∃ r, raise1 ⟨st, l, badge⟩ = r := ⟨_, rfl⟩
      have hst' : r.2.2.2 = ⟨r.2.2.2.st, l, badge⟩ ∧ r.2.2.2.st ≠ .free := by subst hr; cases st <;> simp_all [raise1]
      obtain ⟨ra, rv, rt, ry⟩ := r
      go_wp2_with fail
      refine (raise_in _ _ _ _ 0 _ _ _ _ _ _ hM rfl hr).mono ?_
      rintro e w2 ⟨rfl, hM2, hk2⟩
      go_wp2_with fail
      go_roundw
      case rel => exact ⟨k + 1, ry.st, by omega, by go_num, hst'.2, by rw [← hst'.1]; exact hM2, hk.new hk2 (by intro i hi; omega)⟩
      case measure => simp [intOf]; omega
    · go_wp2_with fail
      refine (free_in _ _ _ _ 0 _ _ hM rfl hst).mono ?_
      rintro e w2 ⟨rfl, hM2, hk2⟩
      replace hM2 : LI w2 (w.heap.size + 1) w.heap.size 1 [.no] := hM2
      replace hk2 := hk.new hk2 (by intro i hi; omega)
      clear hM hk
      go_wp2_with fail
      refine (raise_in _ _ _ _ 0 _ _ _ _ _ _ hM2 rfl rfl).mono ?_
      rintro e w3 ⟨rfl, hM3, hk3⟩
      replace hM3 : LI w3 (w.heap.size + 1) w.heap.size 1 [.no] := hM3
      replace hk3 := hk2.new hk3 (by intro i hi; omega)
      clear hM2 hk2
      go_wp2_with fail
      refine (ack_in _ _ _ _ 0 _ _ _ _ _ _ hM3 rfl rfl).mono ?_
      rintro e w2 ⟨rfl, hM2, hk2⟩
      replace hM2 : LI w2 (w.heap.size + 1) w.heap.size 1 [.no] := hM2
      replace hk2 := hk3.new hk2 (by intro i hi; omega)
      clear hM3 hk3
      go_wp2_with fail
      refine (bind_in _ _ _ _ 0 _ _ _ _ hM2 rfl rfl (by omega)).mono ?_
      rintro e w3 ⟨rfl, hM3, hk3⟩
      replace hM3 : LI w3 (w.heap.size + 1) w.heap.size 1 [⟨.opn, (l1 : Int), bb⟩] := hM3
      replace hk3 := hk2.new hk3 (by intro i hi; omega)
      clear hM2 hk2
      go_wp2_with fail
      refine (open_in _ _ _ _ 0 _ _ hM3 rfl).mono ?_
      rintro e w2 ⟨rfl, hk2⟩
      simp only [St.isOpen, St.isAgain]
      have hM2 := hM3.same hk2
      replace hk2 := hk3.trans hk2
      clear hM3 hk3
      go_wp2_with fail
      refine (raise_in _ _ _ _ 0 _ _ _ _ _ _ hM2 rfl rfl).mono ?_
      rintro e w3 ⟨rfl, hM3, hk3⟩
      replace hk3 := hk2.new hk3 (by intro i hi; omega)
      go_wp2_with fail
      refine (fixed_any _).mono ?_
      rintro e w6 ⟨rfl, hk6⟩
      go_wp2
      go_ret
      exact ⟨rfl, none_below (hk3.trans hk6)⟩
end Go.Proofs.Ytcblncdfppkhcaa

/- The walk of the law IrqOnce. -/
import Derived.Test.YtcblncdfppkhcaaLineB
set_option linter.all false
namespace Go.Proofs.Ytcblncdfppkhcaa
open Go.RowKit

def St.sh : St → Bool | .opn => false | _ => true

set_option maxRecDepth 100000 in
set_option maxHeartbeats 4000000 in
theorem walkIrqOnce (w : World) (v : Value) (rows : List (List Value)) (hs : Src w v rows.length 4 rows.flatten) (hr : ∀ x ∈ rows, FlatOk [.int .i64, .int .i64, .int .i64, .int .u64] x) (hm : rows.length ≤ maxLen) :
    Calls Try.prog 4 #[v] w fun e w' => e = .returned (.bool true) ∧ Below w.heap.size w w' := by
  unfold maxLen at hm
  obtain ⟨ao, c, rfl, hc⟩ := hs.rows rfl rfl hr (by decide)
  have Hc := Lib.hid hc
  clear hc hs
  generalize rows.length = n at *
  go_enter Try.func4, Try.ntmps4
  go_wp2_with fail
  refine (new_yes 1 _ (by decide) (by decide)).mono ?_
  rintro e w1 ⟨rfl, hM1, hk1⟩
  replace hM1 : LI w1 (w.heap.size + 1) w.heap.size 1 [.no] := hM1
  go_wp2_with fail
  refine (bind_in _ _ _ _ 0 _ 5 9 _ hM1 rfl rfl (by decide)).mono ?_
  rintro e w2 ⟨rfl, hM2, hk2⟩
  replace hM2 : LI w2 (w.heap.size + 1) w.heap.size 1 [⟨.opn, 5, 9⟩] := hM2
  replace hk2 := hk1.new hk2 (by intro i hi; omega)
  clear hM1 hk1
  go_wp2_with fail
  go_loopw [5, 6, 7] (fun s m i wr => ∃ (k : Nat) (st : St), k ≤ n ∧ k ≤ 80 ∧ s = .bool st.sh ∧ m = .bool st.isAgain ∧ i = .int .i64 k ∧ st ≠ .free ∧ LI wr (w.heap.size + 1) w.heap.size 1 [⟨st, 5, 9⟩] ∧ New w wr) (fun _ _ i _ => 80 - (intOf i).toNat)
  case atStart => exact ⟨0, .opn, by omega, by omega, rfl, rfl, rfl, by simp, hM2, hk2⟩
  case round =>
    clear hM2 hk2
    obtain ⟨k, st, hkn, hk80, rfl, rfl, rfl, hst, hM, hk⟩ := hrel
    by_cases h1 : k < n
    · by_cases h2 : k < 80
      · obtain ⟨B, O, x, rfl, hx, _, hcell⟩ := Hc.out k h1
        obtain ⟨kind, line, note, badge, rfl, _⟩ := op_open hx
        have e0 := hcell 0 (.int .i64 kind) rfl
        clear hcell hx
        simp only [Nat.add_zero] at e0
        have f0 := cell_kept hk e0 (fun h => h)
        clear e0
        by_cases hkind : kind = 3
        · subst hkind
          cases st
          case free => exact (hst rfl).elim
          all_goals
            simp only [St.sh, St.isAgain]
            go_wp2_with fail
            refine (ack_in _ _ _ _ 0 _ _ _ _ _ _ hM rfl rfl).mono ?_
            rintro e w2 ⟨rfl, hM2, hk2⟩
            go_wp2_with fail
            go_roundw
            case rel => exact ⟨k + 1, _, by omega, by omega, rfl, rfl, by go_num, by simp, hM2, hk.new hk2 (by intro i hi; omega)⟩
            case measure => simp [intOf]; omega
        · have hkf : (kind == 3) = false := by simpa using hkind
          cases st
          case free => exact (hst rfl).elim
          all_goals
            simp only [St.sh, St.isAgain]
            go_wp2_with fail
            refine (raise_in _ _ _ _ 0 _ _ _ _ _ _ hM rfl rfl).mono ?_
            rintro e w2 ⟨rfl, hM2, hk2⟩
            go_wp2_with fail
            go_roundw
            case rel => exact ⟨k + 1, _, by omega, by omega, rfl, rfl, by go_num, by simp, hM2, hk.new hk2 (by intro i hi; omega)⟩
            case measure => simp [intOf]; omega
      · go_wp2_with fail
        refine (fixed_any _).mono ?_
        rintro e w6 ⟨rfl, hk6⟩
        go_wp2
        go_ret
        exact ⟨rfl, none_below (hk.trans hk6)⟩
    · go_wp2_with fail
      refine (fixed_any _).mono ?_
      rintro e w6 ⟨rfl, hk6⟩
      go_wp2
      go_ret
      exact ⟨rfl, none_below (hk.trans hk6)⟩
end Go.Proofs.Ytcblncdfppkhcaa

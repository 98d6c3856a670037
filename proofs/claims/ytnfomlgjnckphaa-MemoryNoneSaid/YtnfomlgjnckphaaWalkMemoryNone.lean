/- The walk of the law MemoryNone. -/
import Derived.Test.YtnfomlgjnckphaaLaid
set_option linter.all false
namespace Go.Proofs.Ytnfomlgjnckphaa
open Go.RowKit

theorem quiet_eq {P : Program} {f : FuncId} {args : Array Value} {w : World} {n : Nat} {v : Value}
    (h : Calls P f args (w.drewN n) fun e w' => e = .returned v ∧ w.drewN n = w') : Calls P f args (w.drewN n) fun e w'' => e = .returned v ∧ ∃ m, w'' = w.drewN m :=
  h.mono fun _ _ ⟨he, hm⟩ => ⟨he, n, hm.symm⟩

set_option maxRecDepth 100000 in
set_option maxHeartbeats 4000000 in
theorem walkMemoryNone (w : World) (v : Value) (rows : List (List Value)) (hs : Src w v rows.length 1 rows.flatten) (hr : ∀ x ∈ rows, FlatOk [.int .u64] x) (hm : rows.length ≤ maxLen)
    (cs : List Value) (hf : FlatOk [.int .i64, .int .i64, .int .i64, .int .i64, .int .u64] cs) :
    Calls Try.prog 8 #[v, .agg cs.toArray] w fun e w' => e = .returned (.bool true) ∧ Below w.heap.size w w' := by
  obtain ⟨kind, oat, ofrm, on, ov, rfl, _⟩ := op_open hf
  obtain ⟨zs, hz, _⟩ := ints_of_rows hr
  rw [hz] at hs
  generalize rows.length = n at hs hm
  clear hz hr
  clear hf
  obtain ⟨a, ha, a0, a1⟩ := and_small oat 16 (by decide)
  obtain ⟨nn, hnn, b0, b1⟩ := and_small on 16 (by decide)
  simp only [Int.reducePow, Int.reduceSub] at ha a1 hnn b1
  go_enter Try.func8, Try.ntmps8
  go_wp2_with fail
  refine (laid_any _ n zs _ (hs.alloc _) (by unfold maxLen at hm; omega)).mono ?_
  rintro e w1 ⟨b, g, cap, ws, rfl, hM1, hw, hb, hg, hk1⟩
  simp at hb hg
  have hB : w1.heap[w.heap.size]? = some (.cells #[.int .i64 kind, .int .i64 oat, .int .i64 ofrm, .int .i64 on, .int .u64 ov] 32 (0, 0)) := hk1.heap (heap_alloc_new _ _) (fun h => h)
  have hk1' : New w w1 := ((Kept.refl _ _).alloc _).trans hk1
  have Hw := Lib.hid hw
  clear hw hs hk1
  go_wp2_with fail
  refine (words_all _ _ _ ws 32 _ hM1 (by rw [Hw.out]; rfl) (by rw [Hw.out]; decide)).mono ?_
  rintro e w2 ⟨g1, cap1, rfl, hr1, hg1, hk2⟩
  have hM2 := hM1.same hk2
  rw [Hw.out]
  have hB2 := hk2.heap hB (fun h => h)
  have l1 : w2.cell? ⟨w.heap.size, 1, none⟩ = some (.int .i64 oat) := cell_blk hB2 1
  have l3 : w2.cell? ⟨w.heap.size, 3, none⟩ = some (.int .i64 on) := cell_blk hB2 3
  have l4 : w2.cell? ⟨w.heap.size, 4, none⟩ = some (.int .u64 ov) := cell_blk hB2 4
  go_wp2_with fail
  refine (read_no _ _ _ ws (32 + a) _ hM2 (by have := Hw.out; omega) (by omega)).mono ?_
  rintro e w3 ⟨rfl, rfl⟩
  go_wp2_with fail
  refine (read_no _ _ _ ws (-1 - a) _ hM2 (by have := Hw.out; omega) (by omega)).mono ?_
  rintro e w3 ⟨rfl, rfl⟩
  go_wp2_with fail
  have s1 : IntKind.i64.wrap (-1 - a) = -1 - a := IntWalk.i64_in _ (by omega)
  have s2 : IntKind.i64.wrap (2 + nn) = 2 + nn := IntWalk.i64_in _ (by omega)
  have hMq : ∀ q, Mem 55 (w2.drewN q) b g cap ws := fun q => hM2.same ((Kept.refl _ _).drewN q)
  go_quiet ((go_at_call 14; first | (with_reducible refine quiet_eq (write_no _ _ _ ws (32 + a) _ _ (hMq _) (by have := Hw.out; omega) (by omega))) | (with_reducible refine quiet_eq (write_no _ _ _ ws (-1 - a) _ _ (hMq _) (by have := Hw.out; omega) (by omega)))))
  go_wp2_with fail
  have hM3 := hMq nq
  have hMq3 : ∀ q, Mem 55 ((w2.drewN nq).drewN q) b g cap ws := fun q => hM3.same ((Kept.refl _ _).drewN q)
  have l3' : (w2.drewN nq).cell? ⟨w.heap.size, 3, none⟩ = some (.int .i64 on) := l3
  have l4' : (w2.drewN nq).cell? ⟨w.heap.size, 4, none⟩ = some (.int .u64 ov) := l4
  have hk3 : New w (w2.drewN nq) := (hk1'.trans hk2).drewN nq
  have hr3 := hr1.same ((Kept.refl _ _).drewN nq)
  clear hMq hM1 hM2 hB hB2 l1 l3 l4 hr1
  generalize w2.drewN nq = w3 at hM3 hMq3 l3' l4' hk3 hr3 ⊢
  go_quiet ((first | (go_at_call 19; first | (with_reducible refine quiet_eq (fill_no _ _ _ ws (32 + a) 1 _ _ (hMq3 _) (by simp [inB, Hw.out]; omega) (by omega) (by omega))) | (with_reducible refine quiet_eq (fill_no _ _ _ ws 31 (2 + nn) _ _ (hMq3 _) (by simp [inB, Hw.out]; omega) (by omega) (by omega)))) | (go_at_call 17; with_reducible refine quiet_eq (move_no _ _ _ ws 31 0 (2 + nn) _ (hMq3 _) (by simp [inB, Hw.out]; omega) (by omega) (by omega) (by omega)))))
  have hM4 := hMq3 nq
  have hk4 := hk3.drewN nq
  have hr4 := hr3.same ((Kept.refl _ _).drewN nq)
  clear hMq3 hM3 hk3 hr3 l3' l4'
  generalize w3.drewN nq = w4 at hM4 hk4 hr4 ⊢
  go_wp2_with fail
  refine (words_all _ _ _ ws 32 _ hM4 (by rw [Hw.out]; rfl) (by rw [Hw.out]; decide)).mono ?_
  rintro e w5 ⟨g2, cap2, rfl, hr5, hg2, hk5⟩
  have hr6 := hr4.same hk5
  have hk6 := hk4.trans hk5
  rw [Hw.out]
  have hcap1 := hr6.cap_le
  have hcap2 := hr5.cap_le
  rw [Hw.out] at hcap1 hcap2
  clear s1 s2 ha hnn hM4 hr4 hk4 hk5
  go_wp2_with fail
  go_loopw [21] (fun i wr => ∃ (j : Nat), j ≤ 32 ∧ i = .int .i64 j ∧ (∃ q, wr = w5.drewN q)) (fun i _ => 32 - (intOf i).toNat)
  case atStart => exact ⟨0, by omega, rfl, 0, rfl⟩
  case round =>
    obtain ⟨j, hj, rfl, q, rfl⟩ := hrel
    by_cases hj32 : j < 32
    · have e1 := hr5.cellI (i := j) (by rw [Hw.out]; exact hj32)
      have e2 := hr6.cellI (i := j) (by rw [Hw.out]; exact hj32)
      generalize ws.getD j 0 = u at e1 e2
      go_wp2_with fail
      go_quiet (fail)
      go_wp2_with fail
      go_roundw
      case rel => exact ⟨j + 1, by omega, by go_num, ⟨_, rfl⟩⟩
      case measure => simp [intOf]; omega
    · go_wp2_with fail
      refine (fixed_any _).mono ?_
      rintro e w7 ⟨rfl, hk7⟩
      go_wp2
      go_ret
      exact ⟨rfl, none_below ((hk6.drewN _).trans hk7)⟩
end Go.Proofs.Ytnfomlgjnckphaa

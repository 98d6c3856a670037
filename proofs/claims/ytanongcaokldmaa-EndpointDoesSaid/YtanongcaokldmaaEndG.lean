/- Package endpoint: the calls whose answers the document fixes. -/
import Derived.Test.YtanongcaokldmaaEndF
import Derived.ChangeKeysEq
set_option linter.all false
namespace Go.Proofs.Ytanongcaokldmaa
open Go.RowKit

theorem plain25x : Try.prog.plainKey 25 = true := by kernel_rfl
theorem cells25 : Try.prog.cellsOf 25 = 1 := by kernel_rfl
theorem infos25 : (Try.prog.info? 25).map (fun i => (i.zero, i.size, i.bytes)) = some (some (.int .u64 0), 1, 8) := by kernel_rfl
@[go_sem] theorem eql26 (d : Nat) (a0 a1 a2 a3 b0 b1 b2 b3 : Int) (w : World) : (Op.equalIn (d + 2) 26 (.agg #[.int .u64 a0, .int .u64 a1, .int .u64 a2, .int .u64 a3]) (.agg #[.int .u64 b0, .int .u64 b1, .int .u64 b2, .int .u64 b3])).run Try.prog w = .ok (a0 == b0 && (a1 == b1 && (a2 == b2 && a3 == b3))) w := by
  obtain ⟨i, hi, -⟩ := info_parts infos25
  rw [run_equalIn_array w (d + 1) _ _ Try.underlying26 hi]
  have pa : ∀ x0 x1 x2 x3 : Value, ∀ j v, (#[x0, x1, x2, x3] : Array Value)[j]? = some v → (part 25 #[x0, x1, x2, x3] j).run Try.prog w = .ok v w := fun x0 x1 x2 x3 j v h => run_part_plain w plain25x h
  rw [show List.range 4 = [0, 1, 2, 3] from rfl, cells25]
  have h1 : ∀ (x y : Int), (Op.equalIn (d + 1) 25 (.int .u64 x) (.int .u64 y)).run Try.prog w = .ok (x == y) w := fun x y => run_equalIn_int w d 25 .u64 .u64 x y Try.underlying25
  simp only [Op.eqItems, Sem.run_bind, Nat.mul_one]
  rw [pa _ _ _ _ 0 (.int .u64 a0) rfl, Result.andThen_ok, pa _ _ _ _ 0 (.int .u64 b0) rfl, Result.andThen_ok, h1, Result.andThen_ok]
  cases a0 == b0
  · simp
  simp only [Bool.not_true, Bool.false_eq_true, if_false, Sem.run_bind, Bool.true_and, Nat.one_mul]
  rw [pa _ _ _ _ 1 (.int .u64 a1) rfl, Result.andThen_ok, pa _ _ _ _ 1 (.int .u64 b1) rfl, Result.andThen_ok, h1, Result.andThen_ok]
  cases a1 == b1
  · simp
  simp only [Bool.not_true, Bool.false_eq_true, if_false, Sem.run_bind, Bool.true_and]
  rw [pa _ _ _ _ 2 (.int .u64 a2) rfl, Result.andThen_ok, pa _ _ _ _ 2 (.int .u64 b2) rfl, Result.andThen_ok, h1, Result.andThen_ok]
  cases a2 == b2
  · simp
  simp only [Bool.not_true, Bool.false_eq_true, if_false, Sem.run_bind, Bool.true_and]
  rw [pa _ _ _ _ 3 (.int .u64 a3) rfl, Result.andThen_ok, pa _ _ _ _ 3 (.int .u64 b3) rfl, Result.andThen_ok, h1, Result.andThen_ok]
  cases a3 == b3 <;> simp
theorem own_int {w : World} {base g n c : Nat} {F : List Int} (h : w.ownsRow base 3 1 (.slice (some ⟨g, 0, none⟩) n c) n (vI F)) {j : Nat} {y : Int} (hy : F[j]? = some y) : w.cell? ⟨g, j, none⟩ = some (.int .i64 y) := by
  have h2 := h.cells (g := g) rfl j (.int .i64 y) (by simp [vI, hy])
  rwa [addr_add, Nat.zero_add] at h2
def LQ (v : Value) (L : List Int) : Thing := fun O w => w.ownsRow 0 3 1 v L.length (vI L) ∧ ∀ k, v.ownBlock = some k → O k
theorem LQ.ok (v : Value) (L : List Int) : (LQ v L).Ok :=
  ⟨fun h k hF => ⟨own_kept h.1 k (fun i hi => hF i (h.2 i hi)), h.2⟩, fun h => ⟨h.1, fun k hk => ⟨h.2 k hk, own_size h.1 hk⟩⟩, fun h hO => ⟨h.1, fun k hk => hO k (h.2 k hk)⟩⟩
theorem LQ.fresh {v : Value} {L : List Int} {w : World} {base : Nat} (h : w.ownsRow base 3 1 v L.length (vI L)) : LQ v L (fun k => base ≤ k) w := ⟨own_mono h (Nat.zero_le _), fun k hk => own_block h hk⟩
/-- One of its numbers. -/
theorem LQ.at {ao : Option Addr} {n c : Nat} {L : List Int} {O : Nat → Prop} {w : World} (h : LQ (.slice ao n c) L O w) (hn : n = L.length) {j : Nat} {y : Int} (hy : L[j]? = some y) : ∃ g, ao = some ⟨g, 0, none⟩ ∧ w.cell? ⟨g, j, none⟩ = some (.int .i64 y) := by
  have h1 := h.1
  rw [← hn] at h1
  obtain ⟨g, cap, hv, -, -, -⟩ := Row.of_ownS h1 (by have := lt_of_some hy; omega)
  simp only [Value.slice.injEq] at hv
  obtain ⟨rfl, -, rfl⟩ := hv
  exact ⟨g, rfl, own_int h1 hy⟩

set_option maxRecDepth 100000 in
set_option maxHeartbeats 4000000 in
theorem fixed_any (w : World) : Calls Try.prog 15 #[] w fun e w' => e = .returned (.bool true) ∧ New w w' := by
  go_enter Try.func15, Try.ntmps15
  go_wp2_with fail
  refine (new_any w).mono ?_
  rintro e w1 ⟨rfl, hE, hk⟩
  obtain ⟨b, hb⟩ : ∃ b, b = w.heap.size := ⟨_, rfl⟩
  have Hb := Lib.hid hb
  rw [← hb] at hE ⊢
  clear hb
  have hbO : ∀ k, b ≤ k → w.heap.size ≤ k := fun k hk => by have := Hb.out; omega
  go_wp2_with fail
  have kA : New w1 (w1.alloc (blkM ⟨0, 7, 0, 0, 0, 0, 9, false⟩)) := (Kept.refl _ _).alloc _
  have hS : Sep (EP b false []) (BQ w1.heap.size (blkM ⟨0, 7, 0, 0, 0, 0, 9, false⟩)) (fun k => b ≤ k) (w1.alloc (blkM ⟨0, 7, 0, 0, 0, 0, 9, false⟩)) := (Sep.fresh (EP.ok b false []) hE ⟨heap_alloc_new _ _, Nat.le_refl _⟩ kA (fun k hk7 => by have h8 := hk.size; have h9 := Hb.out; have h10 : w1.heap.size ≤ k := hk7; omega)).swap
  replace hk := hk.trans kA
  obtain ⟨qm, hqm⟩ : ∃ qm, qm = w1.heap.size := ⟨_, rfl⟩
  rw [← hqm] at hS ⊢
  clear hqm hE kA
  obtain ⟨O1, O2, h1, h2, h3, h4⟩ := hS
  have H3 := Lib.hid h3
  have H4 := Lib.hid h4
  have H2 := Lib.hid h2
  have H1 := Lib.hid h1
  have Hk := Lib.hid hk
  clear h1 h2 h3 h4 hk
  go_wp2_with fail
  refine (recv_st b false false true false [] [⟨1, 0, 0, 0, 0, 0, 0, false⟩] ⟨1, 0, 0, 0, 0, 0, 0, false⟩ on0 0 0 0 _ H1.out (by decide) (by decide)).mono ?_
  rintro e w2 ⟨he, hA, hkx⟩
  simp only [metV, on0] at he
  subst he
  obtain ⟨hS, hkx⟩ := Sep.step (P' := EP b false [⟨1, 0, 0, 0, 0, 0, 0, false⟩]) (BQ.ok _ _) H2.out H3.out H4.out hA hkx (fun k hk9 => by have := Hk.out.size; have := Hb.out; omega)
  have hk := Hk.out.new hkx hbO
  clear hA hkx H1 H2 H3 H4 Hk
  obtain ⟨O1, O2, h1, h2, h3, h4⟩ := hS
  have H3 := Lib.hid h3
  have H4 := Lib.hid h4
  have H2 := Lib.hid h2
  have H1 := Lib.hid h1
  have Hk := Lib.hid hk
  clear h1 h2 h3 h4 hk
  go_wp2_with fail
  refine (recv_st b false false true false [⟨1, 0, 0, 0, 0, 0, 0, false⟩] [⟨1, 0, 0, 0, 0, 0, 0, false⟩, ⟨2, 0, 0, 0, 0, 0, 0, false⟩] ⟨2, 0, 0, 0, 0, 0, 0, false⟩ on0 0 0 0 _ H1.out (by decide) (by decide)).mono ?_
  rintro e w3 ⟨he, hA, hkx⟩
  simp only [metV, on0] at he
  subst he
  obtain ⟨hS, hkx⟩ := Sep.step (P' := EP b false [⟨1, 0, 0, 0, 0, 0, 0, false⟩, ⟨2, 0, 0, 0, 0, 0, 0, false⟩]) (BQ.ok _ _) H2.out H3.out H4.out hA hkx (fun k hk9 => by have := Hk.out.size; have := Hb.out; omega)
  have hk := Hk.out.new hkx hbO
  clear hA hkx H1 H2 H3 H4 Hk
  have kA : New w3 (w3.alloc (blkT false 0 0 on0)) := (Kept.refl _ _).alloc _
  replace hS := (Sep.ok (EP.ok _ _ _) (BQ.ok _ _)).kept hS kA (fun _ _ h => h)
  replace hk := hk.trans kA
  clear kA
  obtain ⟨O1, O2, h1, h2, h3, h4⟩ := hS
  have h2c := h2
  obtain ⟨fm, -⟩ := h2c
  obtain ⟨m0, m1, m2, m3, m4, m5, m6⟩ := of7 (x := ⟨0, 7, 0, 0, 0, 0, 9, false⟩) fm
  have H3 := Lib.hid h3
  have H4 := Lib.hid h4
  have H2 := Lib.hid h2
  have H1 := Lib.hid h1
  have Hk := Lib.hid hk
  clear h1 h2 h3 h4 hk
  go_wp2_with fail
  refine (send_st b false false false true [⟨1, 0, 0, 0, 0, 0, 0, false⟩, ⟨2, 0, 0, 0, 0, 0, 0, false⟩] [⟨2, 0, 0, 0, 0, 0, 0, false⟩] ⟨3, 7, 0, 0, 0, 0, 9, false⟩ ⟨3, 7, 0, 0, 0, 0, 9, false⟩ 3 1 0 _ H1.out (by decide) (by decide)).mono ?_
  rintro e w4 ⟨he, hA, hkx⟩
  simp only [metV, on0] at he
  subst he
  clear m0 m1 m2 m3 m4 m5 m6
  clear fm
  obtain ⟨hS, hkx⟩ := Sep.step (P' := EP b false [⟨2, 0, 0, 0, 0, 0, 0, false⟩]) (BQ.ok _ _) H2.out H3.out H4.out hA hkx (fun k hk9 => by have := Hk.out.size; have := Hb.out; omega)
  have hk := Hk.out.new hkx hbO
  clear hA hkx H1 H2 H3 H4 Hk
  have kA : New w4 (w4.alloc (blkT true 3 1 ⟨3, 7, 0, 0, 0, 0, 9, false⟩)) := (Kept.refl _ _).alloc _
  obtain ⟨q4, hq4⟩ : ∃ q4, q4 = w4.heap.size := ⟨_, rfl⟩
  have Hq4 := Lib.hid hq4
  have hS' : Sep (BQ q4 (blkT true 3 1 ⟨3, 7, 0, 0, 0, 0, 9, false⟩)) (Sep (EP b false [⟨2, 0, 0, 0, 0, 0, 0, false⟩]) (BQ qm (blkM ⟨0, 7, 0, 0, 0, 0, 9, false⟩))) (fun k => b ≤ k) (w4.alloc (blkT true 3 1 ⟨3, 7, 0, 0, 0, 0, 9, false⟩)) := Sep.fresh (Sep.ok (EP.ok _ _ _) (BQ.ok _ _)) hS ⟨by rw [hq4]; exact heap_alloc_new _ _, Nat.le_of_eq hq4.symm⟩ kA (fun k hk7 => by have h8 := hk.size; have h9 := Hb.out; have h10 : w4.heap.size ≤ k := hk7; omega)
  replace hS := hS'.turn
  clear hS' hq4
  replace hk := hk.trans kA
  clear kA
  obtain ⟨O1, O2, h1, h2, h3, h4⟩ := hS
  have h2c := h2
  obtain ⟨-, -, ⟨f4, -⟩, ⟨fm, -⟩, -, -⟩ := h2c
  obtain ⟨m0, m1, m2, m3, m4, m5, m6⟩ := of7 (x := ⟨0, 7, 0, 0, 0, 0, 9, false⟩) fm
  have H3 := Lib.hid h3
  have H4 := Lib.hid h4
  have H2 := Lib.hid h2
  have H1 := Lib.hid h1
  have Hk := Lib.hid hk
  clear h1 h2 h3 h4 hk
  go_wp2_with fail
  try rw [← Hq4.out]
  refine (send_st b false false true true [⟨2, 0, 0, 0, 0, 0, 0, false⟩] [] ⟨4, 7, 0, 0, 0, 0, 9, false⟩ ⟨4, 7, 0, 0, 0, 0, 9, false⟩ 4 2 0 _ H1.out (by decide) (by decide)).mono ?_
  rintro e w5 ⟨he, hA, hkx⟩
  simp only [metV, on0] at he
  subst he
  clear m0 m1 m2 m3 m4 m5 m6
  clear f4 fm
  obtain ⟨hS, hkx⟩ := Sep.step (P' := EP b false []) (Sep.ok (BQ.ok _ _) (BQ.ok _ _)) H2.out H3.out H4.out hA hkx (fun k hk9 => by have := Hk.out.size; have := Hb.out; omega)
  have hk := Hk.out.new hkx hbO
  clear hA hkx H1 H2 H3 H4 Hk
  have kA : New w5 (w5.alloc (blkT true 4 2 ⟨4, 7, 0, 0, 0, 0, 9, false⟩)) := (Kept.refl _ _).alloc _
  obtain ⟨q5, hq5⟩ : ∃ q5, q5 = w5.heap.size := ⟨_, rfl⟩
  have Hq5 := Lib.hid hq5
  have hS' : Sep (BQ q5 (blkT true 4 2 ⟨4, 7, 0, 0, 0, 0, 9, false⟩)) (Sep (EP b false []) (Sep (BQ q4 (blkT true 3 1 ⟨3, 7, 0, 0, 0, 0, 9, false⟩)) (BQ qm (blkM ⟨0, 7, 0, 0, 0, 0, 9, false⟩)))) (fun k => b ≤ k) (w5.alloc (blkT true 4 2 ⟨4, 7, 0, 0, 0, 0, 9, false⟩)) := Sep.fresh (Sep.ok (EP.ok _ _ _) (Sep.ok (BQ.ok _ _) (BQ.ok _ _))) hS ⟨by rw [hq5]; exact heap_alloc_new _ _, Nat.le_of_eq hq5.symm⟩ kA (fun k hk7 => by have h8 := hk.size; have h9 := Hb.out; have h10 : w5.heap.size ≤ k := hk7; omega)
  replace hS := hS'.turn
  clear hS' hq5
  replace hk := hk.trans kA
  clear kA
  obtain ⟨O1, O2, h1, h2, h3, h4⟩ := hS
  have h2c := h2
  obtain ⟨-, -, ⟨f5, -⟩, ⟨-, -, ⟨f4, -⟩, ⟨fm, -⟩, -, -⟩, -, -⟩ := h2c
  obtain ⟨m0, m1, m2, m3, m4, m5, m6⟩ := of7 (x := ⟨0, 7, 0, 0, 0, 0, 9, false⟩) fm
  have H3 := Lib.hid h3
  have H4 := Lib.hid h4
  have H2 := Lib.hid h2
  have H1 := Lib.hid h1
  have Hk := Lib.hid hk
  clear h1 h2 h3 h4 hk
  go_wp2_with fail
  try rw [← Hq5.out]
  refine (send_st b false true true false [] [⟨5, 7, 0, 0, 0, 0, 9, false⟩] ⟨5, 7, 0, 0, 0, 0, 9, false⟩ on0 0 0 0 _ H1.out (by decide) (by decide)).mono ?_
  rintro e w6 ⟨he, hA, hkx⟩
  simp only [metV, on0] at he
  subst he
  clear m0 m1 m2 m3 m4 m5 m6
  clear f5 f4 fm
  obtain ⟨hS, hkx⟩ := Sep.step (P' := EP b true [⟨5, 7, 0, 0, 0, 0, 9, false⟩]) (Sep.ok (BQ.ok _ _) (Sep.ok (BQ.ok _ _) (BQ.ok _ _))) H2.out H3.out H4.out hA hkx (fun k hk9 => by have := Hk.out.size; have := Hb.out; omega)
  have hk := Hk.out.new hkx hbO
  clear hA hkx H1 H2 H3 H4 Hk
  have kA : New w6 (w6.alloc (blkT false 0 0 on0)) := (Kept.refl _ _).alloc _
  obtain ⟨q6, hq6⟩ : ∃ q6, q6 = w6.heap.size := ⟨_, rfl⟩
  have Hq6 := Lib.hid hq6
  have hS' : Sep (BQ q6 (blkT false 0 0 on0)) (Sep (EP b true [⟨5, 7, 0, 0, 0, 0, 9, false⟩]) (Sep (BQ q5 (blkT true 4 2 ⟨4, 7, 0, 0, 0, 0, 9, false⟩)) (Sep (BQ q4 (blkT true 3 1 ⟨3, 7, 0, 0, 0, 0, 9, false⟩)) (BQ qm (blkM ⟨0, 7, 0, 0, 0, 0, 9, false⟩))))) (fun k => b ≤ k) (w6.alloc (blkT false 0 0 on0)) := Sep.fresh (Sep.ok (EP.ok _ _ _) (Sep.ok (BQ.ok _ _) (Sep.ok (BQ.ok _ _) (BQ.ok _ _)))) hS ⟨by rw [hq6]; exact heap_alloc_new _ _, Nat.le_of_eq hq6.symm⟩ kA (fun k hk7 => by have h8 := hk.size; have h9 := Hb.out; have h10 : w6.heap.size ≤ k := hk7; omega)
  replace hS := hS'.turn
  clear hS' hq6
  replace hk := hk.trans kA
  clear kA
  obtain ⟨O1, O2, h1, h2, h3, h4⟩ := hS
  have h2c := h2
  obtain ⟨-, -, ⟨f6, -⟩, ⟨-, -, ⟨f5, -⟩, ⟨-, -, ⟨f4, -⟩, ⟨fm, -⟩, -, -⟩, -, -⟩, -, -⟩ := h2c
  obtain ⟨m0, m1, m2, m3, m4, m5, m6⟩ := of7 (x := ⟨0, 7, 0, 0, 0, 0, 9, false⟩) fm
  have H3 := Lib.hid h3
  have H4 := Lib.hid h4
  have H2 := Lib.hid h2
  have H1 := Lib.hid h1
  have Hk := Lib.hid hk
  clear h1 h2 h3 h4 hk
  go_wp2_with fail
  try rw [← Hq6.out]
  refine (send_st b true true true false [⟨5, 7, 0, 0, 0, 0, 9, false⟩] [⟨5, 7, 0, 0, 0, 0, 9, false⟩] ⟨5, 7, 0, 0, 0, 0, 9, false⟩ on0 0 0 110 _ H1.out (by decide) (by decide)).mono ?_
  rintro e w7 ⟨he, hA, hkx⟩
  simp only [metV, on0] at he
  subst he
  clear m0 m1 m2 m3 m4 m5 m6
  clear f6 f5 f4 fm
  obtain ⟨hS, hkx⟩ := Sep.step (P' := EP b true [⟨5, 7, 0, 0, 0, 0, 9, false⟩]) (Sep.ok (BQ.ok _ _) (Sep.ok (BQ.ok _ _) (Sep.ok (BQ.ok _ _) (BQ.ok _ _)))) H2.out H3.out H4.out hA hkx (fun k hk9 => by have := Hk.out.size; have := Hb.out; omega)
  have hk := Hk.out.new hkx hbO
  clear hA hkx H1 H2 H3 H4 Hk
  have kA : New w7 (w7.alloc (blkT false 0 0 on0)) := (Kept.refl _ _).alloc _
  replace hS := (Sep.ok (EP.ok _ _ _) (Sep.ok (BQ.ok _ _) (Sep.ok (BQ.ok _ _) (Sep.ok (BQ.ok _ _) (BQ.ok _ _))))).kept hS kA (fun _ _ h => h)
  replace hk := hk.trans kA
  clear kA
  obtain ⟨O1, h1⟩ := Sep.one hS
  go_wp2_with fail
  refine (waits_any b true true [⟨5, 7, 0, 0, 0, 0, 9, false⟩] _ h1 (by decide) rfl).mono ?_
  rintro e w8 ⟨v, rfl, hown, hkx⟩
  obtain ⟨ao, c, rfl, -⟩ := Src.of_own hown
  have hS' : Sep (LQ (.slice ao 1 c) [5]) (Sep (EP b true [⟨5, 7, 0, 0, 0, 0, 9, false⟩]) (Sep (BQ q6 (blkT false 0 0 on0)) (Sep (BQ q5 (blkT true 4 2 ⟨4, 7, 0, 0, 0, 0, 9, false⟩)) (Sep (BQ q4 (blkT true 3 1 ⟨3, 7, 0, 0, 0, 0, 9, false⟩)) (BQ qm (blkM ⟨0, 7, 0, 0, 0, 0, 9, false⟩)))))) (fun k => b ≤ k) w8 := Sep.fresh (Sep.ok (EP.ok _ _ _) (Sep.ok (BQ.ok _ _) (Sep.ok (BQ.ok _ _) (Sep.ok (BQ.ok _ _) (BQ.ok _ _))))) hS (LQ.fresh hown) hkx (fun k hk7 => Nat.le_trans (by have h8 := hk.size; have h9 := Hb.out; omega) hk7)
  replace hS := hS'.turn
  replace hk := hk.trans hkx
  clear hS' hkx hown h1
  show _
  obtain ⟨O1, O2, h1, h2, h3, h4⟩ := hS
  have H3 := Lib.hid h3
  have H4 := Lib.hid h4
  have H2 := Lib.hid h2
  have H1 := Lib.hid h1
  have Hk := Lib.hid hk
  clear h1 h2 h3 h4 hk
  go_wp2_with fail
  refine (recv_st b true true false true [⟨5, 7, 0, 0, 0, 0, 9, false⟩] [] ⟨6, 0, 0, 0, 0, 0, 0, false⟩ ⟨5, 7, 0, 0, 0, 0, 9, false⟩ 5 6 0 _ H1.out (by decide) (by decide)).mono ?_
  rintro e w9 ⟨he, hA, hkx⟩
  simp only [metV, on0] at he
  subst he
  obtain ⟨hS, hkx⟩ := Sep.step (P' := EP b true []) (Sep.ok (LQ.ok _ _) (Sep.ok (BQ.ok _ _) (Sep.ok (BQ.ok _ _) (Sep.ok (BQ.ok _ _) (BQ.ok _ _))))) H2.out H3.out H4.out hA hkx (fun k hk9 => by have := Hk.out.size; have := Hb.out; omega)
  have hk := Hk.out.new hkx hbO
  clear hA hkx H1 H2 H3 H4 Hk
  have kA : New w9 (w9.alloc (blkT true 5 6 ⟨5, 7, 0, 0, 0, 0, 9, false⟩)) := (Kept.refl _ _).alloc _
  obtain ⟨q9, hq9⟩ : ∃ q9, q9 = w9.heap.size := ⟨_, rfl⟩
  have Hq9 := Lib.hid hq9
  have hS' : Sep (BQ q9 (blkT true 5 6 ⟨5, 7, 0, 0, 0, 0, 9, false⟩)) (Sep (EP b true []) (Sep (LQ (.slice ao 1 c) [5]) (Sep (BQ q6 (blkT false 0 0 on0)) (Sep (BQ q5 (blkT true 4 2 ⟨4, 7, 0, 0, 0, 0, 9, false⟩)) (Sep (BQ q4 (blkT true 3 1 ⟨3, 7, 0, 0, 0, 0, 9, false⟩)) (BQ qm (blkM ⟨0, 7, 0, 0, 0, 0, 9, false⟩))))))) (fun k => b ≤ k) (w9.alloc (blkT true 5 6 ⟨5, 7, 0, 0, 0, 0, 9, false⟩)) := Sep.fresh (Sep.ok (EP.ok _ _ _) (Sep.ok (LQ.ok _ _) (Sep.ok (BQ.ok _ _) (Sep.ok (BQ.ok _ _) (Sep.ok (BQ.ok _ _) (BQ.ok _ _)))))) hS ⟨by rw [hq9]; exact heap_alloc_new _ _, Nat.le_of_eq hq9.symm⟩ kA (fun k hk7 => by have h8 := hk.size; have h9 := Hb.out; have h10 : w9.heap.size ≤ k := hk7; omega)
  replace hS := hS'.turn
  clear hS' hq9
  replace hk := hk.trans kA
  clear kA
  obtain ⟨O1, O2, h1, h2, h3, h4⟩ := hS
  have h2c := h2
  obtain ⟨-, -, ⟨f9, -⟩, ⟨-, -, ⟨fL, -⟩, ⟨-, -, ⟨f6, -⟩, ⟨-, -, ⟨f5, -⟩, ⟨-, -, ⟨f4, -⟩, ⟨fm, -⟩, -, -⟩, -, -⟩, -, -⟩, -, -⟩, -, -⟩ := h2c
  obtain ⟨m0, m1, m2, m3, m4, m5, m6⟩ := of7 (x := ⟨0, 7, 0, 0, 0, 0, 9, false⟩) fm
  obtain ⟨t0, -, t1, -, t2, -, t3, -, t4, -, t5, -, t6, -, t7, -, t8, -, t9, -⟩ := of10 f4
  obtain ⟨s0, -, s1, -, s2, -, s3, -, s4, -, s5, -, s6, -, s7, -, s8, -, s9, -⟩ := of10 f5
  obtain ⟨r0, -, r1, -, r2, -, r3, -, r4, -, r5, -, r6, -, r7, -, r8, -, r9, -⟩ := of10 f6
  have H3 := Lib.hid h3
  have H4 := Lib.hid h4
  have H2 := Lib.hid h2
  have H1 := Lib.hid h1
  have Hk := Lib.hid hk
  clear h1 h2 h3 h4 hk
  simp only [on0] at t0 t1 t2 t3 t4 t5 t6 t7 t8 t9 s0 s1 s2 r0
  clear s3 s4 s5 s6 s7 s8 s9 r1 r2 r3 r4 r5 r6 r7 r8 r9
  have hlit := Src.lit (w9.alloc (blkT true 5 6 ⟨5, 7, 0, 0, 0, 0, 9, false⟩)) #[.int .i64 5] 3 1 1 rfl
  rw [show (w9.alloc (blkT true 5 6 ⟨5, 7, 0, 0, 0, 0, 9, false⟩)).heap.size = w9.heap.size + 1 from Array.size_push ..] at hlit
  have kL : New (w9.alloc (blkT true 5 6 ⟨5, 7, 0, 0, 0, 0, 9, false⟩)) ((w9.alloc (blkT true 5 6 ⟨5, 7, 0, 0, 0, 0, 9, false⟩)).alloc (.cells #[.int .i64 5] 3)) := (Kept.refl _ _).alloc _
  have hnums := nums_any (.slice ao 1 c) _ 1 [5] _ (Src.of_own (own_same fL kL)) hlit (by decide)
  have Hnums := Lib.hid hnums
  have HkL := Lib.hid kL
  have Hf9 := Lib.hid f9
  have Hfm := Lib.hid fm
  clear hnums kL hlit f9 f6 f5 f4 fm fL
  go_wp2_with fail
  refine Hnums.out.mono ?_
  rintro e w10 ⟨rfl, q, rfl⟩
  have hk10 : New (w9.alloc (blkT true 5 6 ⟨5, 7, 0, 0, 0, 0, 9, false⟩)) (((w9.alloc (blkT true 5 6 ⟨5, 7, 0, 0, 0, 0, 9, false⟩)).alloc (.cells #[.int .i64 5] 3)).drewN q) := HkL.out.drewN _
  have hE10 := Ep.same H1.out hk10
  obtain ⟨t0, -, t1, -, t2, -, t3, -, t4, -, t5, -, t6, -, t7, -, t8, -, t9, -⟩ := of10 (hk10.heap Hf9.out (fun h => h))
  obtain ⟨m0, m1, m2, m3, m4, m5, m6⟩ := of7 (x := ⟨0, 7, 0, 0, 0, 0, 9, false⟩) (hk10.heap Hfm.out (fun h => h))
  rw [← Hq9.out]
  have HE10 := Lib.hid hE10
  have Hk10 := Lib.hid hk10
  clear hE10 hk10
  obtain ⟨WW, hWW⟩ : ∃ WW, WW = (((w9.alloc (blkT true 5 6 ⟨5, 7, 0, 0, 0, 0, 9, false⟩)).alloc (.cells #[.int .i64 5] 3)).drewN q) := ⟨_, rfl⟩
  simp only [blkT] at hWW t0 t1 t2 t3 t4 t5 t6 t7 t8 t9 m0 m1 m2 m3 m4 m5 m6
  rw [← hWW] at t0 t1 t2 t3 t4 t5 t6 t7 t8 t9 m0 m1 m2 m3 m4 m5 m6 ⊢
  have HWW := Lib.hid hWW
  clear hWW
  go_wp2_with fail
  have hE10 := HE10.out
  have hk10 := Hk10.out
  simp only [blkT] at hE10 hk10
  rw [← HWW.out] at hE10 hk10
  refine (cancel_any b true [] [] 5 false _ hE10 (by decide) (by decide) (by decide)).mono ?_
  rintro e w11 ⟨rfl, hE11, hk11⟩
  go_wp2_with fail
  go_ret
  exact ⟨rfl, (Hk.out.trans hk10).new hk11 (fun k hk9 => hbO k (H3.out k hk9).1)⟩
end Go.Proofs.Ytanongcaokldmaa

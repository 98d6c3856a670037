/- Package endpoint: Send, Recv, Waits; the calls whose answers the document fixes. -/
import Derived.Test.YtanongcaokldmaaEndC
set_option linter.all false
namespace Go.Proofs.Ytanongcaokldmaa
open Go.RowKit

abbrev msgV (x : On) : Value := .agg #[.int .i64 x.la, .int .u64 x.w0, .int .u64 x.w1, .int .u64 x.w2, .int .u64 x.w3, .int .u64 x.bg, .bool x.ca]
abbrev blkM (x : On) : Obj := .cells #[.int .i64 x.la, .int .u64 x.w0, .int .u64 x.w1, .int .u64 x.w2, .int .u64 x.w3, .int .u64 x.bg, .bool x.ca] 28
abbrev metV (is : Bool) (f t : Int) (x : On) : Value := .agg #[.bool is, .int .i64 f, .int .i64 t, .int .i64 x.la, .int .u64 x.w0, .int .u64 x.w1, .int .u64 x.w2, .int .u64 x.w3, .int .u64 x.bg, .bool x.ca]
abbrev blkT (is : Bool) (f t : Int) (x : On) : Obj := .cells #[.bool is, .int .i64 f, .int .i64 t, .int .i64 x.la, .int .u64 x.w0, .int .u64 x.w1, .int .u64 x.w2, .int .u64 x.w3, .int .u64 x.bg, .bool x.ca] 35
abbrev on0 : On := ⟨0, 0, 0, 0, 0, 0, 0, false⟩
theorem of7 {w : World} {q : Nat} {x : On} (h : w.heap[q]? = some (blkM x)) : w.cell? ⟨q, 0, none⟩ = some (.int .i64 x.la) ∧ w.cell? ⟨q, 1, none⟩ = some (.int .u64 x.w0) ∧ w.cell? ⟨q, 2, none⟩ = some (.int .u64 x.w1) ∧ w.cell? ⟨q, 3, none⟩ = some (.int .u64 x.w2) ∧ w.cell? ⟨q, 4, none⟩ = some (.int .u64 x.w3) ∧ w.cell? ⟨q, 5, none⟩ = some (.int .u64 x.bg) ∧ w.cell? ⟨q, 6, none⟩ = some (.bool x.ca) := ⟨cell_blk h 0, cell_blk h 1, cell_blk h 2, cell_blk h 3, cell_blk h 4, cell_blk h 5, cell_blk h 6⟩
theorem of10 {w : World} {q : Nat} {is : Bool} {f t : Int} {x : On} (h : w.heap[q]? = some (blkT is f t x)) : w.cell? ⟨q, 0, none⟩ = some (.bool is) ∧ w.frozen? ⟨q, 0, none⟩ = false ∧ w.cell? ⟨q, 1, none⟩ = some (.int .i64 f) ∧ w.frozen? ⟨q, 1, none⟩ = false ∧ w.cell? ⟨q, 2, none⟩ = some (.int .i64 t) ∧ w.frozen? ⟨q, 2, none⟩ = false ∧ w.cell? ⟨q, 3, none⟩ = some (.int .i64 x.la) ∧ w.frozen? ⟨q, 3, none⟩ = false ∧ w.cell? ⟨q, 4, none⟩ = some (.int .u64 x.w0) ∧ w.frozen? ⟨q, 4, none⟩ = false ∧ w.cell? ⟨q, 5, none⟩ = some (.int .u64 x.w1) ∧ w.frozen? ⟨q, 5, none⟩ = false ∧ w.cell? ⟨q, 6, none⟩ = some (.int .u64 x.w2) ∧ w.frozen? ⟨q, 6, none⟩ = false ∧ w.cell? ⟨q, 7, none⟩ = some (.int .u64 x.w3) ∧ w.frozen? ⟨q, 7, none⟩ = false ∧ w.cell? ⟨q, 8, none⟩ = some (.int .u64 x.bg) ∧ w.frozen? ⟨q, 8, none⟩ = false ∧ w.cell? ⟨q, 9, none⟩ = some (.bool x.ca) ∧ w.frozen? ⟨q, 9, none⟩ = false := ⟨cell_blk h 0, free_blk h 0, cell_blk h 1, free_blk h 1, cell_blk h 2, free_blk h 2, cell_blk h 3, free_blk h 3, cell_blk h 4, free_blk h 4, cell_blk h 5, free_blk h 5, cell_blk h 6, free_blk h 6, cell_blk h 7, free_blk h 7, cell_blk h 8, free_blk h 8, cell_blk h 9, free_blk h 9⟩
theorem ten_kept (w : World) (q : Nat) (v0 v1 v2 v3 v4 v5 v6 v7 v8 v9 : Value) : Kept (fun k => k = q) w ((((((((((w.setCell ⟨q, 0, none⟩ (v0)).setCell ⟨q, 1, none⟩ (v1)).setCell ⟨q, 2, none⟩ (v2)).setCell ⟨q, 3, none⟩ (v3)).setCell ⟨q, 4, none⟩ (v4)).setCell ⟨q, 5, none⟩ (v5)).setCell ⟨q, 6, none⟩ (v6)).setCell ⟨q, 7, none⟩ (v7)).setCell ⟨q, 8, none⟩ (v8)).setCell ⟨q, 9, none⟩ (v9)) :=
  (Kept.refl (fun k => k = q) w).setCell (.inr rfl) _ |>.setCell (.inr rfl) _ |>.setCell (.inr rfl) _ |>.setCell (.inr rfl) _ |>.setCell (.inr rfl) _ |>.setCell (.inr rfl) _ |>.setCell (.inr rfl) _ |>.setCell (.inr rfl) _ |>.setCell (.inr rfl) _ |>.setCell (.inr rfl) _

set_option maxRecDepth 100000 in
theorem send_there {O : Nat → Prop} (b : Nat) (sd wa : Bool) (L : List On) (x : On) (w : World) (h : Ep O w b sd L) (hL : L.length ≤ 1000) (ht : L.any (fun y => y.who == x.who) = true) :
    Calls Try.prog 12 #[.pointer (some ⟨b, 0, none⟩), .int .i64 x.who, msgV x, .bool wa] w fun e w' => e = .returned (.tuple #[metV false 0 0 on0, .int .i64 110]) ∧ New w w' := by
  have hk0 : New w ((w.alloc (blkM x)).alloc (blkT false 0 0 on0)) := ((Kept.refl _ _).alloc _).alloc _
  obtain ⟨W, hW⟩ : ∃ W, W = ((w.alloc (blkM x)).alloc (blkT false 0 0 on0)) := ⟨_, rfl⟩
  have hqs : w.heap.size + 1 < W.heap.size := by rw [hW]; simp
  have hT0 : W.heap[(w.heap.size + 1)]? = some (blkT false 0 0 on0) := by rw [hW]; have := heap_alloc_new (w.alloc (blkM x)) (blkT false 0 0 on0); simpa using this
  have hM0 : W.heap[w.heap.size]? = some (blkM x) := by rw [hW]; exact ((Kept.refl (fun _ => False) _).alloc _).heap (heap_alloc_new w (blkM x)) (fun h => h)
  rw [← hW] at hk0
  have HW := Lib.hid hW
  clear hW
  have hth := there_any b sd L x.who true W (h.same hk0) hL ht.symm
  have Hth := Lib.hid hth
  clear hth h ht
  go_enter Try.func12, Try.ntmps12
  go_wp2_with fail
  have hW2 := HW.out
  simp only [blkM, blkT, on0] at hW2
  rw [← hW2]
  clear hW2
  refine Hth.out.mono ?_
  rintro e w1 ⟨rfl, hk1⟩
  obtain ⟨t0, u0, t1, u1, t2, u2, t3, u3, t4, u4, t5, u5, t6, u6, t7, u7, t8, u8, t9, u9⟩ := of10 (hk1.heap hT0 (fun h => h))
  go_wp2_with fail
  refine bodyPost_ret (v := .tuple #[metV false 0 0 on0, .int .i64 110]) (by rw [results_cell_tmp rfl]; go_simp) rfl ⟨rfl, ?_⟩
  exact (hk0.trans hk1).trans' (ten_kept w1 _ _ _ _ _ _ _ _ _ _ _) (fun i hi e => by omega)

set_option maxRecDepth 100000 in
set_option maxHeartbeats 1000000 in
theorem send_no {O : Nat → Prop} (b : Nat) (sd wa : Bool) (L : List On) (x : On) (w : World) (h : Ep O w b sd L) (hL : L.length ≤ 1000) (ht : L.any (fun y => y.who == x.who) = false) (hn : L = [] ∨ sd ≠ false) (hwa : wa = false) :
    Calls Try.prog 12 #[.pointer (some ⟨b, 0, none⟩), .int .i64 x.who, msgV x, .bool wa] w fun e w' => e = .returned (.tuple #[metV false 0 0 on0, .int .i64 0]) ∧ New w w' := by
  have hk0 : New w ((w.alloc (blkM x)).alloc (blkT false 0 0 on0)) := ((Kept.refl _ _).alloc _).alloc _
  obtain ⟨W, hW⟩ : ∃ W, W = ((w.alloc (blkM x)).alloc (blkT false 0 0 on0)) := ⟨_, rfl⟩
  have hqs : w.heap.size + 1 < W.heap.size := by rw [hW]; simp
  have hT0 : W.heap[(w.heap.size + 1)]? = some (blkT false 0 0 on0) := by rw [hW]; have := heap_alloc_new (w.alloc (blkM x)) (blkT false 0 0 on0); simpa using this
  have hM0 : W.heap[w.heap.size]? = some (blkM x) := by rw [hW]; exact ((Kept.refl (fun _ => False) _).alloc _).heap (heap_alloc_new w (blkM x)) (fun h => h)
  rw [← hW] at hk0
  have HW := Lib.hid hW
  clear hW
  have hth := there_any b sd L x.who false W (h.same hk0) hL ht.symm
  have Hth := Lib.hid hth
  have Hh := Lib.hid h
  have Hn := Lib.hid hn
  subst hwa
  clear hth h ht hn
  go_enter Try.func12, Try.ntmps12
  go_wp2_with fail
  have hW2 := HW.out
  simp only [blkM, blkT, on0] at hW2
  rw [← hW2]
  clear hW2
  refine Hth.out.mono ?_
  rintro e w1 ⟨rfl, hk1⟩
  have hk01 := hk0.trans hk1
  have hT1 := hk1.heap hT0 (fun h => h)
  have hM1 := hk1.heap hM0 (fun h => h)
  go_wp2_with fail
  refine (first_no b sd false L w1 (Hh.out.same hk01) Hn.out).mono ?_
  rintro e w2 ⟨rfl, hk2⟩
  have hk02 := (hk01.trans hk2).alloc (blkO ⟨0, 0, 0, 0, 0, 0, 0, false⟩)
  have hk2a := hk2.alloc (blkO ⟨0, 0, 0, 0, 0, 0, 0, false⟩)
  have hT2 := hk2a.heap hT1 (fun h => h)
  have hM2 := hk2a.heap hM1 (fun h => h)
  have hE2 := Hh.out.same hk02
  have hsz := hk1.size
  have hsz2 := hk2a.size
  obtain ⟨t0, u0, t1, u1, t2, u2, t3, u3, t4, u4, t5, u5, t6, u6, t7, u7, t8, u8, t9, u9⟩ := of10 hT2
  go_wp2_with fail
  refine bodyPost_ret (v := .tuple #[metV false 0 0 on0, .int .i64 0]) (by rw [results_cell_tmp rfl]; go_simp) rfl ⟨rfl, ?_⟩
  exact hk02.trans' (ten_kept _ _ _ _ _ _ _ _ _ _ _ _) (fun i hi e => by omega)

set_option maxRecDepth 100000 in
set_option maxHeartbeats 1000000 in
theorem send_line {O : Nat → Prop} (b : Nat) (sd wa : Bool) (L : List On) (x : On) (w : World) (h : Ep O w b sd L) (hL : L.length ≤ 1000) (ht : L.any (fun y => y.who == x.who) = false) (hn : L = [] ∨ sd ≠ false) (hwa : wa = true) :
    Calls Try.prog 12 #[.pointer (some ⟨b, 0, none⟩), .int .i64 x.who, msgV x, .bool wa] w fun e w' => e = .returned (.tuple #[metV false 0 0 on0, .int .i64 0]) ∧ Ep (fun k => O k ∨ w.heap.size ≤ k) w' b true (L ++ [x]) ∧ Kept O w w' := by
  have hk0 : New w ((w.alloc (blkM x)).alloc (blkT false 0 0 on0)) := ((Kept.refl _ _).alloc _).alloc _
  obtain ⟨W, hW⟩ : ∃ W, W = ((w.alloc (blkM x)).alloc (blkT false 0 0 on0)) := ⟨_, rfl⟩
  have hqs : w.heap.size + 1 < W.heap.size := by rw [hW]; simp
  have hT0 : W.heap[(w.heap.size + 1)]? = some (blkT false 0 0 on0) := by rw [hW]; have := heap_alloc_new (w.alloc (blkM x)) (blkT false 0 0 on0); simpa using this
  have hM0 : W.heap[w.heap.size]? = some (blkM x) := by rw [hW]; exact ((Kept.refl (fun _ => False) _).alloc _).heap (heap_alloc_new w (blkM x)) (fun h => h)
  rw [← hW] at hk0
  have HW := Lib.hid hW
  clear hW
  have hth := there_any b sd L x.who false W (h.same hk0) hL ht.symm
  have Hth := Lib.hid hth
  have Hh := Lib.hid h
  have Hn := Lib.hid hn
  subst hwa
  clear hth h ht hn
  go_enter Try.func12, Try.ntmps12
  go_wp2_with fail
  have hW2 := HW.out
  simp only [blkM, blkT, on0] at hW2
  rw [← hW2]
  clear hW2
  refine Hth.out.mono ?_
  rintro e w1 ⟨rfl, hk1⟩
  have hk01 := hk0.trans hk1
  have hT1 := hk1.heap hT0 (fun h => h)
  have hM1 := hk1.heap hM0 (fun h => h)
  go_wp2_with fail
  refine (first_no b sd false L w1 (Hh.out.same hk01) Hn.out).mono ?_
  rintro e w2 ⟨rfl, hk2⟩
  have hk02 := (hk01.trans hk2).alloc (blkO ⟨0, 0, 0, 0, 0, 0, 0, false⟩)
  have hk2a := hk2.alloc (blkO ⟨0, 0, 0, 0, 0, 0, 0, false⟩)
  have hT2 := hk2a.heap hT1 (fun h => h)
  have hM2 := hk2a.heap hM1 (fun h => h)
  have hE2 := Hh.out.same hk02
  have hsz := hk1.size
  have hsz2 := hk2a.size
  obtain ⟨m0, m1, m2, m3, m4, m5, m6⟩ := of7 hM2
  have hwt := wait_any b sd true L x (w2.alloc (blkO ⟨0, 0, 0, 0, 0, 0, 0, false⟩)) (Ep.same Hh.out.sized hk02) hL
  have Hwt := Lib.hid hwt
  clear hwt hE2 hM2
  go_wp2_with fail
  refine Hwt.out.mono ?_
  rintro e w3 ⟨rfl, hE3, hk3⟩
  have hT3 : w3.heap[(w.heap.size + 1)]? = some (blkT false 0 0 on0) := hk3.heap hT2 (fun h => by have := h.2; omega)
  have hsz9 : w.heap.size + 1 ≤ (w2.alloc (blkO ⟨0, 0, 0, 0, 0, 0, 0, false⟩)).heap.size := by omega
  obtain ⟨t0, u0, t1, u1, t2, u2, t3, u3, t4, u4, t5, u5, t6, u6, t7, u7, t8, u8, t9, u9⟩ := of10 hT3
  go_wp2_with fail
  refine bodyPost_ret (v := .tuple #[metV false 0 0 on0, .int .i64 0]) (by rw [results_cell_tmp rfl]; go_simp) rfl ⟨rfl, ?_⟩
  have kT := ten_kept w3 (w.heap.size + 1) (.bool false) (.int .i64 0) (.int .i64 0) (.int .i64 on0.la) (.int .u64 on0.w0) (.int .u64 on0.w1) (.int .u64 on0.w2) (.int .u64 on0.w3) (.int .u64 on0.bg) (.bool on0.ca)
  refine ⟨((hE3.kept kT (fun i hi e => ?_)).mono (fun i hi => ?_)), ?_⟩
  · subst e
    rcases hi with h | h
    · have := h.2; omega
    · omega
  · rcases hi with h | h
    · exact .inl h.1
    · exact .inr (by omega)
  · exact ((hk02.mono (fun _ _ h => h.elim)).trans (hk3.mono (fun i _ h => h.1))).trans' kT (fun i hi e => by omega)

set_option maxRecDepth 100000 in
set_option maxHeartbeats 1000000 in
theorem send_meet {O : Nat → Prop} (b : Nat) (wa : Bool) (a : On) (l : List On) (x : On) (w : World) (h : Ep O w b false (a :: l)) (hL : (a :: l).length ≤ 1000) (ht : (a :: l).any (fun y => y.who == x.who) = false) :
    Calls Try.prog 12 #[.pointer (some ⟨b, 0, none⟩), .int .i64 x.who, msgV x, .bool wa] w fun e w' => e = .returned (.tuple #[metV true x.who a.who x, .int .i64 0]) ∧ Ep O w' b false l ∧ Kept O w w' := by
  have hk0 : New w ((w.alloc (blkM x)).alloc (blkT false 0 0 on0)) := ((Kept.refl _ _).alloc _).alloc _
  obtain ⟨W, hW⟩ : ∃ W, W = ((w.alloc (blkM x)).alloc (blkT false 0 0 on0)) := ⟨_, rfl⟩
  have hqs : w.heap.size + 1 < W.heap.size := by rw [hW]; simp
  have hT0 : W.heap[(w.heap.size + 1)]? = some (blkT false 0 0 on0) := by rw [hW]; have := heap_alloc_new (w.alloc (blkM x)) (blkT false 0 0 on0); simpa using this
  have hM0 : W.heap[w.heap.size]? = some (blkM x) := by rw [hW]; exact ((Kept.refl (fun _ => False) _).alloc _).heap (heap_alloc_new w (blkM x)) (fun h => h)
  rw [← hW] at hk0
  have HW := Lib.hid hW
  clear hW
  have hth := there_any b false (a :: l) x.who false W (h.same hk0) hL ht.symm
  have Hth := Lib.hid hth
  have Hh := Lib.hid h.sized
  have hl8 : l.length ≤ 1000 := by simp at hL; omega
  clear hth h ht hL
  go_enter Try.func12, Try.ntmps12
  go_wp2_with fail
  have hW2 := HW.out
  simp only [blkM, blkT, on0] at hW2
  rw [← hW2]
  clear hW2
  refine Hth.out.mono ?_
  rintro e w1 ⟨rfl, hk1⟩
  have hk01 := hk0.trans hk1
  have hT1 := hk1.heap hT0 (fun h => h)
  have hM1 := hk1.heap hM0 (fun h => h)
  go_wp2_with fail
  refine (first_yes b false a l w1 (Hh.out.same hk01) hl8).mono ?_
  rintro e w2 ⟨rfl, hE2, hk2⟩
  have hsz := hk1.size
  have hsz1 := hk2.size
  have kA : New w2 (w2.alloc (blkO a)) := (Kept.refl _ _).alloc _
  have hT2 := kA.heap (hk2.heap hT1 (fun h => by have := h.2; omega)) (fun h => h)
  have hM2 := kA.heap (hk2.heap hM1 (fun h => by have := h.2; omega)) (fun h => h)
  have hE3 := hE2.same kA
  have hB2 := heap_alloc_new w2 (blkO a)
  obtain ⟨t0, u0, t1, u1, t2, u2, t3, u3, t4, u4, t5, u5, t6, u6, t7, u7, t8, u8, t9, u9⟩ := of10 hT2
  obtain ⟨p0, p1, p2, p3, p4, p5, p6, p7⟩ := of8 hB2
  obtain ⟨m0, m1, m2, m3, m4, m5, m6⟩ := of7 hM2
  go_wp2_with fail
  refine bodyPost_ret (v := .tuple #[metV true x.who a.who x, .int .i64 0]) (by rw [results_cell_tmp rfl]; go_simp) rfl ⟨rfl, ?_⟩
  have kT := ten_kept (w2.alloc (blkO a)) (w.heap.size + 1) (.bool true) (.int .i64 x.who) (.int .i64 a.who) (.int .i64 x.la) (.int .u64 x.w0) (.int .u64 x.w1) (.int .u64 x.w2) (.int .u64 x.w3) (.int .u64 x.bg) (.bool x.ca)
  exact ⟨(hE3.kept kT (fun i hi e => by subst e; have := hi.2; omega)).mono (fun i hi => hi.1), (((hk01.mono (fun _ _ h => h.elim)).trans (hk2.mono (fun i _ h => h.1))).trans (kA.mono (fun _ _ h => h.elim))).trans' kT (fun i hi e => by omega)⟩

set_option maxRecDepth 100000 in
theorem recv_there {O : Nat → Prop} (b : Nat) (sd wa : Bool) (L : List On) (x : On) (w : World) (h : Ep O w b sd L) (hL : L.length ≤ 1000) (ht : L.any (fun y => y.who == x.who) = true) :
    Calls Try.prog 13 #[.pointer (some ⟨b, 0, none⟩), .int .i64 x.who, .bool wa] w fun e w' => e = .returned (.tuple #[metV false 0 0 on0, .int .i64 110]) ∧ New w w' := by
  have hk0 : New w (w.alloc (blkT false 0 0 on0)) := (Kept.refl _ _).alloc _
  obtain ⟨W, hW⟩ : ∃ W, W = (w.alloc (blkT false 0 0 on0)) := ⟨_, rfl⟩
  have hqs : w.heap.size < W.heap.size := by rw [hW]; simp
  have hT0 : W.heap[w.heap.size]? = some (blkT false 0 0 on0) := by rw [hW]; exact heap_alloc_new _ _
  rw [← hW] at hk0
  have HW := Lib.hid hW
  clear hW
  have hth := there_any b sd L x.who true W (h.same hk0) hL ht.symm
  have Hth := Lib.hid hth
  clear hth h ht
  go_enter Try.func13, Try.ntmps13
  go_wp2_with fail
  have hW2 := HW.out
  simp only [blkM, blkT, on0] at hW2
  rw [← hW2]
  clear hW2
  refine Hth.out.mono ?_
  rintro e w1 ⟨rfl, hk1⟩
  obtain ⟨t0, u0, t1, u1, t2, u2, t3, u3, t4, u4, t5, u5, t6, u6, t7, u7, t8, u8, t9, u9⟩ := of10 (hk1.heap hT0 (fun h => h))
  go_wp2_with fail
  refine bodyPost_ret (v := .tuple #[metV false 0 0 on0, .int .i64 110]) (by rw [results_cell_tmp rfl]; go_simp) rfl ⟨rfl, ?_⟩
  exact (hk0.trans hk1).trans' (ten_kept w1 _ _ _ _ _ _ _ _ _ _ _) (fun i hi e => by omega)

set_option maxRecDepth 100000 in
set_option maxHeartbeats 1000000 in
theorem recv_no {O : Nat → Prop} (b : Nat) (sd wa : Bool) (L : List On) (x : On) (w : World) (h : Ep O w b sd L) (hL : L.length ≤ 1000) (ht : L.any (fun y => y.who == x.who) = false) (hn : L = [] ∨ sd ≠ true) (hwa : wa = false) :
    Calls Try.prog 13 #[.pointer (some ⟨b, 0, none⟩), .int .i64 x.who, .bool wa] w fun e w' => e = .returned (.tuple #[metV false 0 0 on0, .int .i64 0]) ∧ New w w' := by
  have hk0 : New w (w.alloc (blkT false 0 0 on0)) := (Kept.refl _ _).alloc _
  obtain ⟨W, hW⟩ : ∃ W, W = (w.alloc (blkT false 0 0 on0)) := ⟨_, rfl⟩
  have hqs : w.heap.size < W.heap.size := by rw [hW]; simp
  have hT0 : W.heap[w.heap.size]? = some (blkT false 0 0 on0) := by rw [hW]; exact heap_alloc_new _ _
  rw [← hW] at hk0
  have HW := Lib.hid hW
  clear hW
  have hth := there_any b sd L x.who false W (h.same hk0) hL ht.symm
  have Hth := Lib.hid hth
  have Hh := Lib.hid h
  have Hn := Lib.hid hn
  subst hwa
  clear hth h ht hn
  go_enter Try.func13, Try.ntmps13
  go_wp2_with fail
  have hW2 := HW.out
  simp only [blkM, blkT, on0] at hW2
  rw [← hW2]
  clear hW2
  refine Hth.out.mono ?_
  rintro e w1 ⟨rfl, hk1⟩
  have hk01 := hk0.trans hk1
  have hT1 := hk1.heap hT0 (fun h => h)
  
  go_wp2_with fail
  refine (first_no b sd true L w1 (Hh.out.same hk01) Hn.out).mono ?_
  rintro e w2 ⟨rfl, hk2⟩
  have hk02 := (hk01.trans hk2).alloc (blkO ⟨0, 0, 0, 0, 0, 0, 0, false⟩)
  have hk2a := hk2.alloc (blkO ⟨0, 0, 0, 0, 0, 0, 0, false⟩)
  have hT2 := hk2a.heap hT1 (fun h => h)
  
  have hE2 := Hh.out.same hk02
  have hsz := hk1.size
  have hsz2 := hk2a.size
  obtain ⟨t0, u0, t1, u1, t2, u2, t3, u3, t4, u4, t5, u5, t6, u6, t7, u7, t8, u8, t9, u9⟩ := of10 hT2
  go_wp2_with fail
  refine bodyPost_ret (v := .tuple #[metV false 0 0 on0, .int .i64 0]) (by rw [results_cell_tmp rfl]; go_simp) rfl ⟨rfl, ?_⟩
  exact hk02.trans' (ten_kept _ _ _ _ _ _ _ _ _ _ _ _) (fun i hi e => by omega)

set_option maxRecDepth 100000 in
set_option maxHeartbeats 1000000 in
theorem recv_line {O : Nat → Prop} (b : Nat) (sd wa : Bool) (L : List On) (x : On) (w : World) (h : Ep O w b sd L) (hL : L.length ≤ 1000) (ht : L.any (fun y => y.who == x.who) = false) (hn : L = [] ∨ sd ≠ true) (hwa : wa = true) :
    Calls Try.prog 13 #[.pointer (some ⟨b, 0, none⟩), .int .i64 x.who, .bool wa] w fun e w' => e = .returned (.tuple #[metV false 0 0 on0, .int .i64 0]) ∧ Ep (fun k => O k ∨ w.heap.size ≤ k) w' b false (L ++ [⟨x.who, 0, 0, 0, 0, 0, 0, false⟩]) ∧ Kept O w w' := by
  have hk0 : New w (w.alloc (blkT false 0 0 on0)) := (Kept.refl _ _).alloc _
  obtain ⟨W, hW⟩ : ∃ W, W = (w.alloc (blkT false 0 0 on0)) := ⟨_, rfl⟩
  have hqs : w.heap.size < W.heap.size := by rw [hW]; simp
  have hT0 : W.heap[w.heap.size]? = some (blkT false 0 0 on0) := by rw [hW]; exact heap_alloc_new _ _
  rw [← hW] at hk0
  have HW := Lib.hid hW
  clear hW
  have hth := there_any b sd L x.who false W (h.same hk0) hL ht.symm
  have Hth := Lib.hid hth
  have Hh := Lib.hid h
  have Hn := Lib.hid hn
  subst hwa
  clear hth h ht hn
  go_enter Try.func13, Try.ntmps13
  go_wp2_with fail
  have hW2 := HW.out
  simp only [blkM, blkT, on0] at hW2
  rw [← hW2]
  clear hW2
  refine Hth.out.mono ?_
  rintro e w1 ⟨rfl, hk1⟩
  have hk01 := hk0.trans hk1
  have hT1 := hk1.heap hT0 (fun h => h)
  
  go_wp2_with fail
  refine (first_no b sd true L w1 (Hh.out.same hk01) Hn.out).mono ?_
  rintro e w2 ⟨rfl, hk2⟩
  have hk02 := (hk01.trans hk2).alloc (blkO ⟨0, 0, 0, 0, 0, 0, 0, false⟩)
  have hk2a := hk2.alloc (blkO ⟨0, 0, 0, 0, 0, 0, 0, false⟩)
  have hT2 := hk2a.heap hT1 (fun h => h)
  
  have hE2 := Hh.out.same hk02
  have hsz := hk1.size
  have hsz2 := hk2a.size
  skip
  have hwt := wait_any b sd false L ⟨x.who, 0, 0, 0, 0, 0, 0, false⟩ (w2.alloc (blkO ⟨0, 0, 0, 0, 0, 0, 0, false⟩)) (Ep.same Hh.out.sized hk02) hL
  have Hwt := Lib.hid hwt
  clear hwt hE2 
  go_wp2_with fail
  refine Hwt.out.mono ?_
  rintro e w3 ⟨rfl, hE3, hk3⟩
  have hT3 : w3.heap[w.heap.size]? = some (blkT false 0 0 on0) := hk3.heap hT2 (fun h => by have := h.2; omega)
  have hsz9 : w.heap.size + 1 ≤ (w2.alloc (blkO ⟨0, 0, 0, 0, 0, 0, 0, false⟩)).heap.size := by omega
  obtain ⟨t0, u0, t1, u1, t2, u2, t3, u3, t4, u4, t5, u5, t6, u6, t7, u7, t8, u8, t9, u9⟩ := of10 hT3
  go_wp2_with fail
  refine bodyPost_ret (v := .tuple #[metV false 0 0 on0, .int .i64 0]) (by rw [results_cell_tmp rfl]; go_simp) rfl ⟨rfl, ?_⟩
  have kT := ten_kept w3 w.heap.size (.bool false) (.int .i64 0) (.int .i64 0) (.int .i64 on0.la) (.int .u64 on0.w0) (.int .u64 on0.w1) (.int .u64 on0.w2) (.int .u64 on0.w3) (.int .u64 on0.bg) (.bool on0.ca)
  refine ⟨((hE3.kept kT (fun i hi e => ?_)).mono (fun i hi => ?_)), ?_⟩
  · subst e
    rcases hi with h | h
    · have := h.2; omega
    · omega
  · rcases hi with h | h
    · exact .inl h.1
    · exact .inr (by omega)
  · exact ((hk02.mono (fun _ _ h => h.elim)).trans (hk3.mono (fun i _ h => h.1))).trans' kT (fun i hi e => by omega)

set_option maxRecDepth 100000 in
set_option maxHeartbeats 1000000 in
theorem recv_meet {O : Nat → Prop} (b : Nat) (wa : Bool) (a : On) (l : List On) (x : On) (w : World) (h : Ep O w b true (a :: l)) (hL : (a :: l).length ≤ 1000) (ht : (a :: l).any (fun y => y.who == x.who) = false) :
    Calls Try.prog 13 #[.pointer (some ⟨b, 0, none⟩), .int .i64 x.who, .bool wa] w fun e w' => e = .returned (.tuple #[metV true a.who x.who a, .int .i64 0]) ∧ Ep O w' b true l ∧ Kept O w w' := by
  have hk0 : New w (w.alloc (blkT false 0 0 on0)) := (Kept.refl _ _).alloc _
  obtain ⟨W, hW⟩ : ∃ W, W = (w.alloc (blkT false 0 0 on0)) := ⟨_, rfl⟩
  have hqs : w.heap.size < W.heap.size := by rw [hW]; simp
  have hT0 : W.heap[w.heap.size]? = some (blkT false 0 0 on0) := by rw [hW]; exact heap_alloc_new _ _
  rw [← hW] at hk0
  have HW := Lib.hid hW
  clear hW
  have hth := there_any b true (a :: l) x.who false W (h.same hk0) hL ht.symm
  have Hth := Lib.hid hth
  have Hh := Lib.hid h.sized
  have hl8 : l.length ≤ 1000 := by simp at hL; omega
  clear hth h ht hL
  go_enter Try.func13, Try.ntmps13
  go_wp2_with fail
  have hW2 := HW.out
  simp only [blkM, blkT, on0] at hW2
  rw [← hW2]
  clear hW2
  refine Hth.out.mono ?_
  rintro e w1 ⟨rfl, hk1⟩
  have hk01 := hk0.trans hk1
  have hT1 := hk1.heap hT0 (fun h => h)
  
  go_wp2_with fail
  refine (first_yes b true a l w1 (Hh.out.same hk01) hl8).mono ?_
  rintro e w2 ⟨rfl, hE2, hk2⟩
  have hsz := hk1.size
  have hsz1 := hk2.size
  have kA : New w2 (w2.alloc (blkO a)) := (Kept.refl _ _).alloc _
  have hT2 := kA.heap (hk2.heap hT1 (fun h => by have := h.2; omega)) (fun h => h)
  
  have hE3 := hE2.same kA
  have hB2 := heap_alloc_new w2 (blkO a)
  obtain ⟨t0, u0, t1, u1, t2, u2, t3, u3, t4, u4, t5, u5, t6, u6, t7, u7, t8, u8, t9, u9⟩ := of10 hT2
  obtain ⟨p0, p1, p2, p3, p4, p5, p6, p7⟩ := of8 hB2
  skip
  go_wp2_with fail
  refine bodyPost_ret (v := .tuple #[metV true a.who x.who a, .int .i64 0]) (by rw [results_cell_tmp rfl]; go_simp) rfl ⟨rfl, ?_⟩
  have kT := ten_kept (w2.alloc (blkO a)) w.heap.size (.bool true) (.int .i64 a.who) (.int .i64 x.who) (.int .i64 a.la) (.int .u64 a.w0) (.int .u64 a.w1) (.int .u64 a.w2) (.int .u64 a.w3) (.int .u64 a.bg) (.bool a.ca)
  exact ⟨(hE3.kept kT (fun i hi e => by subst e; have := hi.2; omega)).mono (fun i hi => hi.1), (((hk01.mono (fun _ _ h => h.elim)).trans (hk2.mono (fun i _ h => h.1))).trans (kA.mono (fun _ _ h => h.elim))).trans' kT (fun i hi e => by omega)⟩
end Go.Proofs.Ytanongcaokldmaa

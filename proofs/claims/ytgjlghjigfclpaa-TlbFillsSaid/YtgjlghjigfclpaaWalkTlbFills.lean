/- The walk of the law TlbFills. -/
import Derived.Test.YtgjlghjigfclpaaTlbL
set_option linter.all false
namespace Go.Proofs.Ytgjlghjigfclpaa
open Go.RowKit

/-- What is filled in comes last, and no other line is of its page. -/
theorem fillE_last (room : Nat) (L : List Ln) (x : Ln) : ∃ M, fillE room L x = M ++ [x] ∧ dropP x.sp x.pg M = M := by
  unfold fillE
  split
  · rename_i h
    refine ⟨_, rfl, ?_⟩
    have e : dropP x.sp x.pg L = L := (List.filter_sublist (l := L)).eq_of_length h.1
    cases L with
    | nil => rfl
    | cons a l =>
      refine List.filter_eq_self.2 (fun y hy => List.filter_eq_self.1 e y (by simp at hy; simp [hy]))
  · exact ⟨_, rfl, by unfold dropP; rw [List.filter_filter]; simp⟩
theorem fillE_again (room : Nat) (M : List Ln) (x y : Ln) (h : dropP x.sp x.pg M = M) (hy : y.sp = x.sp ∧ y.pg = x.pg) : fillE room (M ++ [x]) y = M ++ [y] := by
  have e : dropP y.sp y.pg (M ++ [x]) = M := by
    rw [hy.1, hy.2]
    have h1 : dropP x.sp x.pg (M ++ [x]) = dropP x.sp x.pg M ++ dropP x.sp x.pg [x] := by simp [dropP]
    rw [h1, h]; simp [dropP]
  rw [fillE, e, if_neg (by simp)]
theorem lookE_last (M : List Ln) (x : Ln) (h : dropP x.sp x.pg M = M) : lookE x.sp x.pg (M ++ [x]) = (x.fr, x.ri, true) := by
  have h1 : (M ++ [x]).find? (fun y => decide (y.sp = x.sp) && decide (y.pg = x.pg)) = some x := by
    rw [List.find?_append, List.find?_eq_none.2 (fun y hy => by have := List.filter_eq_self.1 h y hy; simpa only [Bool.not_eq_true, Bool.not_eq_true'] using this)]
    simp
  simp [lookE, h1]
theorem ten {w W : World} {q5 q g o : Nat} {fr ri a b c d e0 e1 e2 e3 : Int} (k : New w W) (h1 : w.heap[q5]? = some (.cells #[.int .i64 fr, .int .i64 ri] 32 (0, 0))) (h2 : w.heap[q]? = some (.cells #[.int .i64 a, .int .i64 b, .int .i64 c, .int .i64 d] 34 (0, 0)))
    (r0 : w.cell? ⟨g, o, none⟩ = some (.int .i64 e0)) (r1 : w.cell? ⟨g, o + 1, none⟩ = some (.int .i64 e1)) (r2 : w.cell? ⟨g, o + 2, none⟩ = some (.int .i64 e2)) (r3 : w.cell? ⟨g, o + 3, none⟩ = some (.int .i64 e3)) :
    W.cell? ⟨q5, 0, none⟩ = some (.int .i64 fr) ∧ W.cell? ⟨q5, 1, none⟩ = some (.int .i64 ri) ∧ W.cell? ⟨q, 0, none⟩ = some (.int .i64 a) ∧ W.cell? ⟨q, 1, none⟩ = some (.int .i64 b) ∧ W.cell? ⟨q, 2, none⟩ = some (.int .i64 c) ∧ W.cell? ⟨q, 3, none⟩ = some (.int .i64 d) ∧
      W.cell? ⟨g, o, none⟩ = some (.int .i64 e0) ∧ W.cell? ⟨g, o + 1, none⟩ = some (.int .i64 e1) ∧ W.cell? ⟨g, o + 2, none⟩ = some (.int .i64 e2) ∧ W.cell? ⟨g, o + 3, none⟩ = some (.int .i64 e3) :=
  have k1 := k.heap h1 (fun h => h)
  have k2 := k.heap h2 (fun h => h)
  ⟨cell_blk k1 0, cell_blk k1 1, cell_blk k2 0, cell_blk k2 1, cell_blk k2 2, cell_blk k2 3, cell_kept k r0 (fun h => h), cell_kept k r1 (fun h => h), cell_kept k r2 (fun h => h), cell_kept k r3 (fun h => h)⟩
theorem snoc_get (M : List Ln) (x : Ln) : (M ++ [x])[M.length]? = some x := by simp

set_option maxRecDepth 100000 in
set_option maxHeartbeats 2000000 in
theorem walkTlbFills (w : World) (room : Int) (hwf : (Lit.int .i64 room).wf = true) (v : Value) (rows : List (List Value)) (hs : Src w v rows.length 4 rows.flatten) (hr : ∀ x ∈ rows, FlatOk [.int .i64, .int .i64, .int .i64, .int .i64] x) (hm : rows.length ≤ maxLen) (frame : Int) (hwf2 : (Lit.int .i64 frame).wf = true) :
    Calls Try.prog 5 #[.int .i64 room, v, .int .i64 frame] w fun e w' => e = .returned (.bool true) ∧ Below w.heap.size w w' := by
  obtain ⟨L, hfl, hll⟩ := lines_of_rows hr
  rw [hfl] at hs
  obtain ⟨len, hlen⟩ : ∃ len, len = rows.length := ⟨_, rfl⟩
  rw [← hlen] at hs hm hll
  clear hr hfl hlen
  obtain ⟨m, hmk, a0, a1⟩ := and_small room 4 (by decide)
  simp only [Int.reducePow, Int.reduceSub] at hmk a1
  obtain ⟨m, rfl⟩ := Int.eq_ofNat_of_zero_le a0
  obtain ⟨n, hn⟩ : ∃ n : Nat, n = 1 + m := ⟨_, rfl⟩
  have hw1 : IntKind.i64.wrap (1 + (m : Int)) = (n : Int) := by rw [IntKind.wrap_i64]; omega
  have hn1 : 1 ≤ n := by omega
  have hn8 : n ≤ 16 := by omega
  clear hn hwf hwf2 a0 a1
  have Hs := Lib.hid hs
  obtain ⟨-, ao, c, rfl, hcells⟩ := hs.lines
  have Hll := Lib.hid hll
  have hlenm : len ≤ 9223372036854775807 := by have : maxLen = 9223372036854775807 := rfl; omega
  clear hs hll hcells hm
  by_cases hl0 : len = 0
  · subst hl0
    go_enter Try.func5, Try.ntmps5
    go_wp2_with fail
    refine (new_yes n w hn1 (by omega)).mono ?_
    rintro e w1 ⟨rfl, hA, hk1⟩
    go_wp2_with fail
    refine (fixed_any _).mono ?_
    rintro e w8 ⟨rfl, hk8⟩
    go_wp2_with fail
    go_ret
    exact ⟨rfl, none_below (hk1.trans hk8)⟩
  · have hl0' : ¬ (len : Int) = 0 := by omega
    have hl0b : ((len : Int) == 0) = false := by simpa using hl0
    go_enter Try.func5, Try.ntmps5
    go_wp2_with fail
    refine (new_yes n w hn1 (by omega)).mono ?_
    rintro e w1 ⟨rfl, hA, hk1⟩
    obtain ⟨ba, hba⟩ : ∃ ba, ba = w.heap.size := ⟨_, rfl⟩
    have Hba := Lib.hid hba
    rw [← hba] at hA ⊢
    clear hba
    go_wp2_with fail
    go_loopw [9] (fun i wr => ∃ k : Nat, k ≤ 40 ∧ k ≤ len ∧ i = .int .i64 k ∧ New w wr ∧ TP ba n (fillsE n (L.take k)) (fun k => w.heap.size ≤ k) wr) (fun i _ => 40 - (intOf i).toNat)
    case atStart => exact ⟨0, by omega, by omega, rfl, hk1, Tb.mono hA (fun i hi => by have := Hba.out; omega)⟩
    case round =>
      obtain ⟨k, hk6, hk, rfl, hkr, hS⟩ := hrel
      by_cases h1 : k < len ∧ k < 40
      · obtain ⟨h1, h2⟩ := h1
        have h2' : (k : Int) < 40 := by omega
        obtain ⟨x, hx⟩ : ∃ x, L[k]? = some x := ⟨_, List.getElem?_eq_getElem (by have := Hll.out; omega)⟩
        obtain ⟨ao', c', he, hcl⟩ := (Hs.out.same hkr).lines.2
        cases he
        obtain ⟨B, Of, rfl, c0, c1, c2, c3⟩ := hcl k x hx
        have Hx := Lib.hid hx
        clear hcl hx
        have hla := fillsE_length n hn1 (L.take k)
        go_wp2_with fail
        refine (fill_any ba n _ (fillsE n (L.take (k + 1))) x wr hS hla hn1 (by omega) (fillsE_take Hx.out).symm).mono ?_
        rintro e w3 ⟨rfl, hA3, hk3⟩
        have hkr3 := hkr.new hk3 (fun i hi => hi)
        clear c0 c1 c2 c3
        go_wp2_with fail
        go_roundw
        case rel => exact ⟨k + 1, by omega, by omega, by go_num, hkr3, Tb.mono hA3 (fun i hi => by have := hkr.size; omega)⟩
        case measure => simp [intOf]; omega
      · obtain ⟨j, hj⟩ : ∃ j, k = j + 1 := ⟨k - 1, by omega⟩
        subst hj
        obtain ⟨x, hx⟩ : ∃ x, L[j]? = some x := ⟨_, List.getElem?_eq_getElem (by have := Hll.out; omega)⟩
        obtain ⟨ao', c', he, hcl⟩ := (Hs.out.same hkr).lines.2
        cases he
        obtain ⟨B, Of, rfl, c0, c1, c2, c3⟩ := hcl j x hx
        obtain ⟨M, hM, hMx⟩ := fillE_last n (fillsE n (L.take j)) x
        have hlm := fillsE_length n hn1 (L.take (j + 1))
        rw [fillsE_take hx, hM] at hS hlm
        have hMl : M.length < n := by rw [List.length_append] at hlm; exact hlm
        have Hx := Lib.hid hx
        have HM := Lib.hid hMx
        clear hcl hx hlm hM hMx
        have j0 : (0 : Int) ≤ j := by omega
        have j1 : (j : Int) < len := by omega
        obtain ⟨nl, hnl⟩ : ∃ nl, nl = M.length := ⟨_, rfl⟩
        obtain ⟨n1, hn1e⟩ : ∃ n1, n1 = (M ++ [x]).length := ⟨_, rfl⟩
        have hn1n : n1 = nl + 1 := by rw [hn1e, hnl]; simp
        have p0 : IntKind.i64.wrap ((n1 : Int) - 1) = (nl : Int) := by rw [IntKind.wrap_i64]; omega
        have p1 : (0 : Int) ≤ nl := by omega
        have p2 : (nl : Int) < n1 := by omega
        have p3 : (0 : Int) < n1 := by omega
        have p4 : 0 < n1 := by omega
        have Hnl := Lib.hid hnl
        have Hn1 := Lib.hid hn1e
        have hS1 := Tb.sized hS
        clear hnl hn1e hn1n hS
        by_cases h3 : j + 1 < len
        · obtain rfl : j = 39 := by omega
          have h4 : ¬ (len : Int) < 40 := by omega
          have h5 : ¬ (len : Int) ≤ 40 := by omega
          go_wp2_with fail
          refine (lines_any ba n (M ++ [x]) _ (Tb.alloc hS1 _) (by rw [List.length_append]; simp; omega)).mono ?_
          rintro e w2 ⟨v2, rfl, hown2, hk2⟩
          obtain ⟨ao2, cc2, hv2, -⟩ := Src.of_own hown2
          rw [← Hn1.out] at hv2
          have hbx := hk2.heap (heap_alloc_new wr (blkL x)) (fun h => h)
          have hkr2 := (hkr.alloc _).trans hk2
          have hS2 := Tb.same (Tb.alloc hS1 (blkL x)) hk2
          have hsz2 : wr.heap.size < w2.heap.size := lt_of_heap hbx
          obtain ⟨q, hq⟩ : ∃ q, q = wr.heap.size := ⟨_, rfl⟩
          have Hq := Lib.hid hq
          rw [← hq] at hbx ⊢
          have b0 := cell_blk hbx 0
          have b1 := cell_blk hbx 1
          have b2 := cell_blk hbx 2
          have b3 := cell_blk hbx 3
          have b4 := free_blk hbx 2
          have hby : (w2.setCell ⟨q, 2, none⟩ (.int .i64 frame)).heap[q]? = some (blkL (Ln.mk x.sp x.pg frame x.ri)) := heap_setCell_same w2 q 2 _ _ _ hbx
          have hk3 : Kept (fun k => k = q) w2 (w2.setCell ⟨q, 2, none⟩ (.int .i64 frame)) := (Kept.refl (fun k => k = q) w2).setCell (.inr rfl) _
          have hS3 := Tb.kept hS2 hk3 (fun i hi h => by have := hi.2; have := Hq.out; omega)
          have hqw : w.heap.size ≤ q := by have := hkr.size; have := Hq.out; omega
          have hkr3 := hkr2.new hk3 (fun i hi => by rw [hi]; exact hqw)
          subst hv2
          clear hown2 hk2 hk3 hS2 hq hkr hkr2 c0 c1 c2 c3 hbx
          go_wp2_with fail
          have hfill := fill_any ba n (M ++ [x]) (M ++ [(Ln.mk x.sp x.pg frame x.ri)]) (Ln.mk x.sp x.pg frame x.ri) _ hS3 (by rw [List.length_append]; simp; omega) hn1 (by omega) (fillE_again n M x (Ln.mk x.sp x.pg frame x.ri) HM.out ⟨rfl, rfl⟩)
          refine hfill.mono ?_
          rintro e w4 ⟨rfl, hS4, hk4⟩
          have hb4 := hk4.heap hby (fun h => by have := h.2; have := Hq.out; omega)
          have hkr4 := hkr3.new hk4 (fun i hi => hi.1)
          have d0 := cell_blk hb4 0
          have d1 := cell_blk hb4 1
          clear hfill hS3 hk4 hby b0 b1 b2 b3 b4 hkr3
          go_wp2_with fail
          refine (look_any ba n (M ++ [(Ln.mk x.sp x.pg frame x.ri)]) x.sp x.pg frame x.ri true w4 hS4 (by rw [List.length_append]; simp; omega) (lookE_last M (Ln.mk x.sp x.pg frame x.ri) HM.out)).mono ?_
          rintro e w5 ⟨rfl, hk5⟩
          have hb5 := hk5.heap hb4 (fun h => h)
          have hS5 := hS4.same hk5
          have hkr5 := hkr4.trans hk5
          clear hS4 hkr4 hk5 d0 d1 hb4
          go_wp2_with fail
          refine (lines_any ba n (M ++ [(Ln.mk x.sp x.pg frame x.ri)]) _ (Tb.alloc hS5 _) (by rw [List.length_append]; simp; omega)).mono ?_
          rintro e w6 ⟨v6, rfl, hown6, hk6⟩
          obtain ⟨g6, c6, hv6, -, hrow6, -⟩ := Row.of_ownS hown6 (by rw [List.length_append]; simp)
          have hn1y : (M ++ [(Ln.mk x.sp x.pg frame x.ri)]).length = n1 := by have := Hn1.out; simp at this ⊢; omega
          rw [hn1y] at hv6
          obtain ⟨r0, r1, r2, r3⟩ := hrow6.line (snoc_get M (Ln.mk x.sp x.pg frame x.ri))
          rw [← Hnl.out] at r0 r1 r2 r3
          have hb6 := hk6.heap (((Kept.refl (fun _ => False) w5).alloc _).heap hb5 (fun h => h)) (fun h => h)
          have hb6' := hk6.heap (heap_alloc_new w5 (.cells #[.int .i64 frame, .int .i64 x.ri] 32)) (fun h => h)
          have hkr6 := (hkr5.alloc (.cells #[.int .i64 frame, .int .i64 x.ri] 32)).trans hk6
          have hten := fun (W : World) (k : New w6 W) => ten k hb6' hb6 r0 r1 r2 r3
          have hk6d : New w6 w6.drew := (Kept.refl _ _).drew
          subst hv6
          clear hown6 hrow6 hn1y hS5 hkr5 hk6 r0 r1 r2 r3 hb6 hb6' hb5 hS1
          go_wp2_with fail
          go_region_held3 (fun W => W.cell? ⟨w5.heap.size, 0, none⟩ = some (.int .i64 frame) ∧ W.cell? ⟨w5.heap.size, 1, none⟩ = some (.int .i64 x.ri) ∧ W.cell? ⟨q, 0, none⟩ = some (.int .i64 x.sp) ∧ W.cell? ⟨q, 1, none⟩ = some (.int .i64 x.pg) ∧ W.cell? ⟨q, 2, none⟩ = some (.int .i64 frame) ∧ W.cell? ⟨q, 3, none⟩ = some (.int .i64 x.ri) ∧
              W.cell? ⟨g6, nl * 4, none⟩ = some (.int .i64 x.sp) ∧ W.cell? ⟨g6, nl * 4 + 1, none⟩ = some (.int .i64 x.pg) ∧ W.cell? ⟨g6, nl * 4 + 2, none⟩ = some (.int .i64 frame) ∧ W.cell? ⟨g6, nl * 4 + 3, none⟩ = some (.int .i64 x.ri))
            (first | exact hten _ hk6d | exact hten _ hk7)
            (first | (go_at_call 10; refine (fixed_any _).mono ?_; rintro e w7 ⟨rfl, hk7'⟩; have hk7 := hk6d.trans hk7'))
          go_wp2_with fail
          go_ret
          exact ⟨rfl, none_below (hkr6.trans hk7)⟩
        · obtain rfl : len = j + 1 := by omega
          have h4 : ¬ ((j : Int) + 1 < (j : Int) + 1) := by omega
          have h5 : (j : Int) + 1 ≤ 40 := by omega
          go_wp2_with fail
          refine (lines_any ba n (M ++ [x]) _ (Tb.alloc hS1 _) (by rw [List.length_append]; simp; omega)).mono ?_
          rintro e w2 ⟨v2, rfl, hown2, hk2⟩
          obtain ⟨ao2, cc2, hv2, -⟩ := Src.of_own hown2
          rw [← Hn1.out] at hv2
          have hbx := hk2.heap (heap_alloc_new wr (blkL x)) (fun h => h)
          have hkr2 := (hkr.alloc _).trans hk2
          have hS2 := Tb.same (Tb.alloc hS1 (blkL x)) hk2
          have hsz2 : wr.heap.size < w2.heap.size := lt_of_heap hbx
          obtain ⟨q, hq⟩ : ∃ q, q = wr.heap.size := ⟨_, rfl⟩
          have Hq := Lib.hid hq
          rw [← hq] at hbx ⊢
          have b0 := cell_blk hbx 0
          have b1 := cell_blk hbx 1
          have b2 := cell_blk hbx 2
          have b3 := cell_blk hbx 3
          have b4 := free_blk hbx 2
          have hby : (w2.setCell ⟨q, 2, none⟩ (.int .i64 frame)).heap[q]? = some (blkL (Ln.mk x.sp x.pg frame x.ri)) := heap_setCell_same w2 q 2 _ _ _ hbx
          have hk3 : Kept (fun k => k = q) w2 (w2.setCell ⟨q, 2, none⟩ (.int .i64 frame)) := (Kept.refl (fun k => k = q) w2).setCell (.inr rfl) _
          have hS3 := Tb.kept hS2 hk3 (fun i hi h => by have := hi.2; have := Hq.out; omega)
          have hqw : w.heap.size ≤ q := by have := hkr.size; have := Hq.out; omega
          have hkr3 := hkr2.new hk3 (fun i hi => by rw [hi]; exact hqw)
          subst hv2
          clear hown2 hk2 hk3 hS2 hq hkr hkr2 c0 c1 c2 c3 hbx
          go_wp2_with fail
          have hfill := fill_any ba n (M ++ [x]) (M ++ [(Ln.mk x.sp x.pg frame x.ri)]) (Ln.mk x.sp x.pg frame x.ri) _ hS3 (by rw [List.length_append]; simp; omega) hn1 (by omega) (fillE_again n M x (Ln.mk x.sp x.pg frame x.ri) HM.out ⟨rfl, rfl⟩)
          refine hfill.mono ?_
          rintro e w4 ⟨rfl, hS4, hk4⟩
          have hb4 := hk4.heap hby (fun h => by have := h.2; have := Hq.out; omega)
          have hkr4 := hkr3.new hk4 (fun i hi => hi.1)
          have d0 := cell_blk hb4 0
          have d1 := cell_blk hb4 1
          clear hfill hS3 hk4 hby b0 b1 b2 b3 b4 hkr3
          go_wp2_with fail
          refine (look_any ba n (M ++ [(Ln.mk x.sp x.pg frame x.ri)]) x.sp x.pg frame x.ri true w4 hS4 (by rw [List.length_append]; simp; omega) (lookE_last M (Ln.mk x.sp x.pg frame x.ri) HM.out)).mono ?_
          rintro e w5 ⟨rfl, hk5⟩
          have hb5 := hk5.heap hb4 (fun h => h)
          have hS5 := hS4.same hk5
          have hkr5 := hkr4.trans hk5
          clear hS4 hkr4 hk5 d0 d1 hb4
          go_wp2_with fail
          refine (lines_any ba n (M ++ [(Ln.mk x.sp x.pg frame x.ri)]) _ (Tb.alloc hS5 _) (by rw [List.length_append]; simp; omega)).mono ?_
          rintro e w6 ⟨v6, rfl, hown6, hk6⟩
          obtain ⟨g6, c6, hv6, -, hrow6, -⟩ := Row.of_ownS hown6 (by rw [List.length_append]; simp)
          have hn1y : (M ++ [(Ln.mk x.sp x.pg frame x.ri)]).length = n1 := by have := Hn1.out; simp at this ⊢; omega
          rw [hn1y] at hv6
          obtain ⟨r0, r1, r2, r3⟩ := hrow6.line (snoc_get M (Ln.mk x.sp x.pg frame x.ri))
          rw [← Hnl.out] at r0 r1 r2 r3
          have hb6 := hk6.heap (((Kept.refl (fun _ => False) w5).alloc _).heap hb5 (fun h => h)) (fun h => h)
          have hb6' := hk6.heap (heap_alloc_new w5 (.cells #[.int .i64 frame, .int .i64 x.ri] 32)) (fun h => h)
          have hkr6 := (hkr5.alloc (.cells #[.int .i64 frame, .int .i64 x.ri] 32)).trans hk6
          have hten := fun (W : World) (k : New w6 W) => ten k hb6' hb6 r0 r1 r2 r3
          have hk6d : New w6 w6.drew := (Kept.refl _ _).drew
          subst hv6
          clear hown6 hrow6 hn1y hS5 hkr5 hk6 r0 r1 r2 r3 hb6 hb6' hb5 hS1
          go_wp2_with fail
          go_region_held3 (fun W => W.cell? ⟨w5.heap.size, 0, none⟩ = some (.int .i64 frame) ∧ W.cell? ⟨w5.heap.size, 1, none⟩ = some (.int .i64 x.ri) ∧ W.cell? ⟨q, 0, none⟩ = some (.int .i64 x.sp) ∧ W.cell? ⟨q, 1, none⟩ = some (.int .i64 x.pg) ∧ W.cell? ⟨q, 2, none⟩ = some (.int .i64 frame) ∧ W.cell? ⟨q, 3, none⟩ = some (.int .i64 x.ri) ∧
              W.cell? ⟨g6, nl * 4, none⟩ = some (.int .i64 x.sp) ∧ W.cell? ⟨g6, nl * 4 + 1, none⟩ = some (.int .i64 x.pg) ∧ W.cell? ⟨g6, nl * 4 + 2, none⟩ = some (.int .i64 frame) ∧ W.cell? ⟨g6, nl * 4 + 3, none⟩ = some (.int .i64 x.ri))
            (first | exact hten _ hk6d | exact hten _ hk7)
            (first | (go_at_call 10; refine (fixed_any _).mono ?_; rintro e w7 ⟨rfl, hk7'⟩; have hk7 := hk6d.trans hk7'))
          go_wp2_with fail
          go_ret
          exact ⟨rfl, none_below (hkr6.trans hk7)⟩
end Go.Proofs.Ytgjlghjigfclpaa

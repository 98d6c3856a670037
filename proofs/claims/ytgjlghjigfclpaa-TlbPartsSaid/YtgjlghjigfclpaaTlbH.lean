/- Package tlb: Fill where the oldest line goes. -/
import Derived.Test.YtgjlghjigfclpaaTlbG
set_option linter.all false
namespace Go.Proofs.Ytgjlghjigfclpaa
open Go.RowKit

set_option maxRecDepth 100000 in
set_option maxHeartbeats 2000000 in
theorem fill_b {O : Nat → Prop} (b room : Nat) (L : List Ln) (a : Ln) (l : List Ln) (x : Ln) (w : World) (h : Tb O w b room L) (hal : L = a :: l) (hL : L.length ≤ 1000) (hM : dropP x.sp x.pg L = L) (hr : room ≤ L.length) :
    Calls Try.prog 12 #[.pointer (some ⟨b, 0, none⟩), aggL x] w fun e w' => e = .returned (.tuple #[]) ∧ Tb (fun k => O k ∨ w.heap.size ≤ k) w' b room (l ++ [x]) ∧ Kept O w w' := by
  have Hh := Lib.hid h
  have Hno := Lib.hid (dropP_none hM)
  obtain ⟨ao, c, hb, hown, hOb, hOv, hvb⟩ := h.cells
  have hc0 : w.cell? ⟨b, 0, none⟩ = some (.slice ao L.length c) := cell_blk hb 0
  have hc1 : w.cell? ⟨b, 1, none⟩ = some (.int .i64 room) := cell_blk hb 1
  have Hb := Lib.hid hb
  have Hown := Lib.hid hown
  have HOv := Lib.hid hOv
  have Hvb := Lib.hid hvb
  have hbl := lt_of_heap hb
  obtain ⟨len, hlen⟩ : ∃ len, len = L.length := ⟨_, rfl⟩
  have Hlen := Lib.hid hlen
  rw [← hlen] at hL hc0 hr
  clear h hM hb hown hOv hvb hlen
  have hk0 : New w (w.alloc (blkL x)).drew := ((Kept.refl _ _).alloc _).drew
  have hB0 : (w.alloc (blkL x)).drew.heap[w.heap.size]? = some (blkL x) := heap_alloc_new w (blkL x)
  obtain ⟨i34, hi, hz0, hz1, hz2⟩ := info_parts info34
  go_enter Try.func12, Try.ntmps12
  go_wp2_with fail
  have hnr : (room : Int) ≤ len := by omega
  go_region_held3 (fun W => W.cell? ⟨w.heap.size, 0, none⟩ = some (.int .i64 x.sp) ∧ W.cell? ⟨w.heap.size, 1, none⟩ = some (.int .i64 x.pg) ∧ W.cell? ⟨b, 0, none⟩ = some (.slice ao len c) ∧ W.cell? ⟨b, 1, none⟩ = some (.int .i64 room))
    (first | exact six hB0 hk0 hc0 hc1 | exact six hB1 hk01 hc0 hc1 | exact six hB2 hk02 hc0 hc1 | exact six (((Kept.refl (fun _ => False) _).alloc _).heap hB2 (fun h => h)) (hk02.alloc _) hc0 hc1 | exact six hB3 hk03 hc0 hc1)
    (first
    | (go_at_call 27; refine (of_any x.sp _).mono ?_; rintro e w1 ⟨f1, rfl, hf1, hk1⟩; obtain ⟨q1, rfl, hq1⟩ := hf1; have hB1 := hk1.heap hB0 (fun h => h); have hk01 := hk0.trans hk1)
    | (go_at_call 28; refine (at_any x.pg _).mono ?_; rintro e w2 ⟨f2, rfl, hf2, hk2⟩; obtain ⟨q2, rfl, hq2⟩ := hf2; have hB2 := hk2.heap hB1 (fun h => h); have hk02 := hk01.trans hk2; have hq1' := hk2.heap hq1 (fun h => h))
    | (go_at_call 26; refine (drop_none b room L _ [.sp x.sp, .pg x.pg] _ ((Hh.out.same hk02).alloc _) (asks2 ⟨q1, rfl, hq1'⟩ ⟨q2, rfl, hq2⟩) (by have := Hlen.out; omega) Hno.out).mono ?_; rintro e w3 ⟨rfl, hk3⟩; have hB3 := hk3.heap (((Kept.refl (fun _ => False) _).alloc _).heap hB2 (fun h => h)) (fun h => h); have hk03 := (hk02.alloc _).trans hk3))
  have hbW1 := hk03.heap Hb.out (fun h => h)
  have HownW1 := own_same Hown.out hk03
  rw [← Hlen.out] at hbW1 HownW1 Hvb HOv
  obtain ⟨e0, e1, e2, e3⟩ := six hB3 hk03 hc0 hc1
  obtain ⟨ll, hll⟩ : ∃ ll, ll = l.length := ⟨_, rfl⟩
  have Hll := Lib.hid hll
  have hlen2 : len = ll + 1 := by rw [Hlen.out, hal, hll]; rfl
  have hdf := delete_first (.slice ao len c) a l w3 (by have := HownW1; rw [hlen2, hll, hal] at this; rw [hlen2, hll]; exact this) (by rw [← hll]; omega)
  have Hdf := Lib.hid hdf
  have eszw := hk03.size
  have hfb := free_blk hbW1 0
  have Hal := Lib.hid hal
  have hllb : ll ≤ 1000 := by omega
  clear hlen2
  clear hB0 hB1 hB2 hq1 hq2 hq1' hll HownW1 hdf hal
  go_wp2_with fail
  refine Hdf.out.mono ?_
  rintro e w4 ⟨v4, rfl, hown4, hob4, hk4⟩
  have hb4 := hk4.heap hbW1 Hvb.out
  obtain ⟨ao4, c4, hv4, -⟩ := Src.of_own hown4
  rw [← Hll.out] at hv4 hown4
  have d4 := cell_blk hb4 0
  have f4 := free_blk hb4 0
  have Hob4 := Lib.hid hob4
  have Hown4 := Lib.hid hown4
  clear hob4 hown4
  rw [hv4]
  go_wp2_with fail
  obtain ⟨w6, hw6⟩ : ∃ w6, w6 = w4.setCell ⟨b, 0, none⟩ (.slice ao4 ll c4) := ⟨_, rfl⟩
  rw [← hw6]
  have hbW : w6.heap[b]? = some (.cells #[.slice ao4 ll c4, .int .i64 room] 54 (0, 0)) := by rw [hw6]; exact heap_setCell_same w4 b 0 _ _ _ hb4
  have hk46 : Kept (fun k => k = b) w4 w6 := by rw [hw6]; exact (Kept.refl (fun k => k = b) w4).setCell (.inr rfl) _
  have hob4' : ∀ k, (Value.slice ao4 ll c4).ownBlock = some k → (Value.slice ao len c).ownBlock = some k := fun k hk => by rw [← Hob4.out, hv4]; exact hk
  have hvb4 : (Value.slice ao4 ll c4).ownBlock ≠ some b := fun e => Hvb.out (hob4' b e)
  have HownW := Lib.hid (own_kept (by have := Hown4.out; rw [hv4] at this; exact this) hk46 (fun i hi hF => hvb4 (by rw [hi, hF])))
  have hb3q : ∀ q, (Value.slice ao len c).ownBlock = some q → q ≠ w.heap.size := fun q hq e => by
    obtain ⟨cc, hcc⟩ := own_type Hown.out (by rw [← Hlen.out]; exact hq)
    have := lt_of_heap hcc
    omega
  have hB4 := hk46.heap (hk4.heap hB3 (fun hq => hb3q _ hq rfl)) (fun e => by omega)
  have esz6 : w.heap.size ≤ w6.heap.size := Nat.le_trans eszw (Nat.le_trans hk4.size hk46.size)
  have HOv4 := Lib.hid (fun k hk => HOv.out k (hob4' k hk))
  have Hvb4 := Lib.hid hvb4
  have kept6 : Kept O w w6 := ((hk03.mono (fun _ _ h => h.elim)).trans (hk4.mono (fun i _ hi => HOv.out i hi))).trans (hk46.mono (fun i _ hi => by rw [hi]; exact hOb))
  clear hw6 hob4' hvb4 hB3 hb4 d4 f4 hv4 e0 e1 e2 e3 hb3q
  obtain ⟨b0, b1, b2, b3⟩ := of4 hB4
  have hlit := Src.lit w6.drew #[.int .i64 x.sp, .int .i64 x.pg, .int .i64 x.fr, .int .i64 x.ri] 34 1 4 rfl
  have hb6 : (w6.drew.alloc (blkL x)).heap[b]? = some (.cells #[.slice ao4 ll c4, .int .i64 room] 54 (0, 0)) := ((Kept.refl (fun _ => False) w6).drew.alloc _).heap hbW (fun h => h)
  have hc6 := cell_blk (((Kept.refl (fun _ => False) w6).alloc (blkL x)).heap hbW (fun h => h)) 0
  have hc7 := cell_blk hbW 0
  go_wp2_with fail
  go_region_law ((refine step_append_lies _ (by rfl) _ _ _ (by rfl) 0 34 i34 (aggL ⟨0, 0, 0, 0⟩) 4 32 Try.underlying27 hi hz0 hz1 hz2 rfl (by decide) _ ll (l.flatMap encL) (by rfl) (own_same HownW.out ((Kept.refl _ _).drew.alloc _)) ⟨w6.heap.size, 0, none⟩ 1 1 (encL x) (by rfl) rfl (World.news_of_block (heap_alloc_new w6 (blkL x))) (encL_one1 x) (by decide) (by simp [maxLen]; omega) (by omega) (by simp) (w6.heap.size + 1) (by simp) ?_; intro g5 cap5 w5 hown' hgr hat hlt5; have hb5 := (Kept.of_grown hgr).heap hb6 Hvb4.out; have hc5 := cell_blk hb5 0; have hf5 := free_blk hb5 0))
  all_goals refine bodyPost_end (results_none rfl _ _ _) rfl ?_
  all_goals have hfin := Tb.appended (x := x) (M := l) hbW hOb HOv4.out Hvb4.out ((Kept.refl _ w6).drew.alloc _) hgr (lies hat) (by rw [← Hll.out, encL_snoc]; exact hown') esz6
  all_goals exact ⟨rfl, hfin.1, kept6.trans hfin.2⟩
end Go.Proofs.Ytgjlghjigfclpaa

/- The reference's Fill. -/
import Derived.Test.YtgjlghjigfclpaaTlbR
set_option linter.all false
namespace Go.Proofs.Ytgjlghjigfclpaa
open Go.RowKit

theorem Rb.appended {O : Nat → Prop} {W Wd w5 : World} {b room base : Nat} {M : List Ln} {x : Ln} {vo v' : Value} (hb : W.heap[b]? = some (.cells #[vo, .int .i64 room] 50 (0, 0))) (hOb : O b) (hOv : ∀ k, vo.ownBlock = some k → O k) (hvb : vo.ownBlock ≠ some b)
    (hWd : New W Wd) (hgr : Wd.grownBy w5 vo.ownBlock) (hid : ∀ k, v'.ownBlock = some k → vo.ownBlock = some k ∨ Wd.heap.size ≤ k) (hown' : w5.ownsRow 0 34 4 v' (M.length + 1) ((M ++ [x]).flatMap encL)) (hbase : base ≤ W.heap.size) :
    Rb (fun k => O k ∨ base ≤ k) (w5.setCell ⟨b, 0, none⟩ v') b room (M ++ [x]) ∧ Kept O W (w5.setCell ⟨b, 0, none⟩ v') := by
  have hkg := Kept.of_grown hgr
  have hb5 := hkg.heap (hWd.heap hb (fun h => h)) hvb
  have hbl := lt_of_heap hb
  have hvb' : v'.ownBlock ≠ some b := by
    intro e
    rcases hid b e with h | h
    · exact hvb h
    · have := hWd.size; omega
  refine ⟨⟨v', heap_setCell_same w5 b 0 _ _ v' hb5, ?_, .inl hOb, fun k hk => ?_⟩, ?_⟩
  · rw [List.length_append]
    exact own_kept hown' ((Kept.refl (fun k => k = b) w5).setCell (.inr rfl) _) (fun i hi hF => hvb' (by rw [hi, hF]))
  · rcases hid k hk with h | h
    · exact .inl (hOv k h)
    · have := hWd.size
      exact .inr (by omega)
  · exact ((hWd.mono (fun _ _ h => h.elim)).trans (hkg.mono (fun i _ hi => hOv i hi))).setCell (.inr hOb) _

set_option maxRecDepth 100000 in
set_option maxHeartbeats 2000000 in
theorem rfill_a {O : Nat → Prop} (b room : Nat) (L M : List Ln)  (x : Ln) (w : World) (h : Rb O w b room L) (hOw : ∀ k, O k → k < w.heap.size) (hL : L.length ≤ 1000) (hM : dropP x.sp x.pg L = M) (hlt : M.length < L.length) :
    Calls Try.prog 16 #[.pointer (some ⟨b, 0, none⟩), aggL x] w fun e w' => e = .returned (.tuple #[]) ∧ Rb (fun k => O k ∨ w.heap.size ≤ k) w' b room (M ++ [x]) ∧ Kept O w w' := by
  have hrd := rdrop_any b room L M x.sp x.pg (w.alloc (blkL x)) (h.alloc _) hL hM true (by rw [decide_eq_true hlt])
  have Hrd := Lib.hid hrd
  have HO := Lib.hid hOw
  have HM := Lib.hid hM
  have hB0 : (w.alloc (blkL x)).heap[w.heap.size]? = some (blkL x) := heap_alloc_new w (blkL x)
  have hk0 : New w (w.alloc (blkL x)) := (Kept.refl _ _).alloc _
  obtain ⟨i34, hi, hz0, hz1, hz2⟩ := info_parts info34
  clear hrd hM h hOw
  go_enter Try.func16, Try.ntmps16
  go_wp2_with fail
  refine Hrd.out.mono ?_
  rintro e w1 ⟨rfl, hR1, hk1⟩
  have hB1 := hk1.heap hB0 (fun hq => by have := HO.out _ hq; omega)
  have hk01 := (hk0.mono (fun _ _ h => h.elim)).trans hk1
  obtain ⟨ao, c, hb1, hown1, hOb, hOv, hvb⟩ := hR1.cells
  obtain ⟨m, hm⟩ : ∃ m, m = List.length M := ⟨_, rfl⟩
  have Hm := Lib.hid hm
  rw [← hm] at hb1 hown1 hOv hvb
  have hc0 := cell_blk hb1 0
  have hc1 := cell_blk hb1 1
  have Hown1 := Lib.hid hown1
  have HOv := Lib.hid hOv
  have Hvb := Lib.hid hvb
  have hbl := lt_of_heap hb1
  have esz := hk1.size
  have esz1 : w.heap.size ≤ w1.heap.size := hk01.size
  clear hown1 hOv hvb hm hB0 hR1
  have hm1 : m ≤ 1000 := by have := Hm.out; omega
  go_wp2_with fail
  go_quiet (fail)
  go_wp2_with fail
  obtain ⟨W, hW⟩ : ∃ W, W = w1.drewN nq := ⟨_, rfl⟩
  rw [← hW]
  have hbW : W.heap[b]? = some (.cells #[.slice ao m c, .int .i64 room] 50 (0, 0)) := by rw [hW]; exact hb1
  have hB3 : W.heap[w.heap.size]? = some (blkL x) := by rw [hW]; exact hB1
  have HownW := Lib.hid (show W.ownsRow 0 34 4 (.slice ao m c) m (M.flatMap encL) by rw [hW]; exact own_same Hown1.out ((Kept.refl _ _).drewN _))
  have hk02 : Kept O w W := by rw [hW]; exact hk01.drewN _
  have esz2 : w.heap.size ≤ W.heap.size := by rw [hW]; exact esz1
  clear hW hb1 hB1 hc0 hc1 hk1 Hown1 esz esz1
  obtain ⟨b0, b1, b2, b3⟩ := of4 hB3
  have hlit := Src.lit W.drew #[.int .i64 x.sp, .int .i64 x.pg, .int .i64 x.fr, .int .i64 x.ri] 34 1 4 rfl
  have hb6 : (W.drew.alloc (blkL x)).heap[b]? = some (.cells #[.slice ao m c, .int .i64 room] 50 (0, 0)) := ((Kept.refl (fun _ => False) W).drew.alloc _).heap hbW (fun h => h)
  have hc6 := cell_blk (((Kept.refl (fun _ => False) W).alloc (blkL x)).heap hbW (fun h => h)) 0
  have hc7 := cell_blk hbW 0
  go_wp2_with fail
  go_region_law ((refine step_append_lies _ (by rfl) _ _ _ (by rfl) 0 34 i34 (aggL ⟨0, 0, 0, 0⟩) 4 32 Try.underlying27 hi hz0 hz1 hz2 rfl (by decide) _ m (M.flatMap encL) (by rfl) (own_same HownW.out ((Kept.refl _ _).drew.alloc _)) ⟨W.heap.size, 0, none⟩ 1 1 (encL x) (by rfl) rfl (World.news_of_block (heap_alloc_new W (blkL x))) (encL_one1 x) (by decide) (by simp [maxLen]; omega) (by omega) (by simp) (W.heap.size + 1) (by simp) ?_; intro g5 cap5 w5 hown' hgr hat hlt5; have hb5 := (Kept.of_grown hgr).heap hb6 Hvb.out; have hc5 := cell_blk hb5 0; have hf5 := free_blk hb5 0))
  all_goals refine bodyPost_end (results_none rfl _ _ _) rfl ?_
  all_goals have hfin := Rb.appended (x := x) (M := M) (base := w.heap.size) hbW hOb HOv.out Hvb.out ((Kept.refl _ W).drew.alloc _) hgr (lies hat) (by rw [← Hm.out, encL_snoc]; exact hown') esz2
  all_goals exact ⟨rfl, hfin.1.mono (fun k hk => by rcases hk with (h | h) | h <;> first | exact .inl h | exact .inr h | (right; simp at h; omega)), hk02.trans' hfin.2 (fun i hi h => by rcases h with h | h <;> first | exact h | (simp at h; omega))⟩

set_option maxRecDepth 100000 in
set_option maxHeartbeats 2000000 in
theorem rfill_c {O : Nat → Prop} (b room : Nat) (L M : List Ln)  (x : Ln) (w : World) (h : Rb O w b room L) (hOw : ∀ k, O k → k < w.heap.size) (hL : L.length ≤ 1000) (hM : dropP x.sp x.pg L = L) (hlt : L.length ≠ room) :
    Calls Try.prog 16 #[.pointer (some ⟨b, 0, none⟩), aggL x] w fun e w' => e = .returned (.tuple #[]) ∧ Rb (fun k => O k ∨ w.heap.size ≤ k) w' b room (L ++ [x]) ∧ Kept O w w' := by
  have hrd := rdrop_any b room L L x.sp x.pg (w.alloc (blkL x)) (h.alloc _) hL hM false (by simp)
  have Hrd := Lib.hid hrd
  have HO := Lib.hid hOw
  have HM := Lib.hid hM
  have hB0 : (w.alloc (blkL x)).heap[w.heap.size]? = some (blkL x) := heap_alloc_new w (blkL x)
  have hk0 : New w (w.alloc (blkL x)) := (Kept.refl _ _).alloc _
  obtain ⟨i34, hi, hz0, hz1, hz2⟩ := info_parts info34
  clear hrd hM h hOw
  go_enter Try.func16, Try.ntmps16
  go_wp2_with fail
  refine Hrd.out.mono ?_
  rintro e w1 ⟨rfl, hR1, hk1⟩
  have hB1 := hk1.heap hB0 (fun hq => by have := HO.out _ hq; omega)
  have hk01 := (hk0.mono (fun _ _ h => h.elim)).trans hk1
  obtain ⟨ao, c, hb1, hown1, hOb, hOv, hvb⟩ := hR1.cells
  obtain ⟨m, hm⟩ : ∃ m, m = List.length L := ⟨_, rfl⟩
  have Hm := Lib.hid hm
  rw [← hm] at hb1 hown1 hOv hvb
  have hc0 := cell_blk hb1 0
  have hc1 := cell_blk hb1 1
  have Hown1 := Lib.hid hown1
  have HOv := Lib.hid hOv
  have Hvb := Lib.hid hvb
  have hbl := lt_of_heap hb1
  have esz := hk1.size
  have esz1 : w.heap.size ≤ w1.heap.size := hk01.size
  clear hown1 hOv hvb hm hB0 hR1
  have hm1 : m ≤ 1000 := by have := Hm.out; omega
  have hne : ((m : Int) == (room : Int)) = false := by simp; have := Hm.out; omega
  go_wp2_with fail
  go_quiet (fail)
  go_wp2_with fail
  obtain ⟨W, hW⟩ : ∃ W, W = w1.drewN nq := ⟨_, rfl⟩
  rw [← hW]
  have hbW : W.heap[b]? = some (.cells #[.slice ao m c, .int .i64 room] 50 (0, 0)) := by rw [hW]; exact hb1
  have hB3 : W.heap[w.heap.size]? = some (blkL x) := by rw [hW]; exact hB1
  have HownW := Lib.hid (show W.ownsRow 0 34 4 (.slice ao m c) m (L.flatMap encL) by rw [hW]; exact own_same Hown1.out ((Kept.refl _ _).drewN _))
  have hk02 : Kept O w W := by rw [hW]; exact hk01.drewN _
  have esz2 : w.heap.size ≤ W.heap.size := by rw [hW]; exact esz1
  clear hW hb1 hB1 hc0 hc1 hk1 Hown1 esz esz1
  obtain ⟨b0, b1, b2, b3⟩ := of4 hB3
  have hlit := Src.lit W.drew #[.int .i64 x.sp, .int .i64 x.pg, .int .i64 x.fr, .int .i64 x.ri] 34 1 4 rfl
  have hb6 : (W.drew.alloc (blkL x)).heap[b]? = some (.cells #[.slice ao m c, .int .i64 room] 50 (0, 0)) := ((Kept.refl (fun _ => False) W).drew.alloc _).heap hbW (fun h => h)
  have hc6 := cell_blk (((Kept.refl (fun _ => False) W).alloc (blkL x)).heap hbW (fun h => h)) 0
  have hc7 := cell_blk hbW 0
  go_wp2_with fail
  go_region_law ((refine step_append_lies _ (by rfl) _ _ _ (by rfl) 0 34 i34 (aggL ⟨0, 0, 0, 0⟩) 4 32 Try.underlying27 hi hz0 hz1 hz2 rfl (by decide) _ m (L.flatMap encL) (by rfl) (own_same HownW.out ((Kept.refl _ _).drew.alloc _)) ⟨W.heap.size, 0, none⟩ 1 1 (encL x) (by rfl) rfl (World.news_of_block (heap_alloc_new W (blkL x))) (encL_one1 x) (by decide) (by simp [maxLen]; omega) (by omega) (by simp) (W.heap.size + 1) (by simp) ?_; intro g5 cap5 w5 hown' hgr hat hlt5; have hb5 := (Kept.of_grown hgr).heap hb6 Hvb.out; have hc5 := cell_blk hb5 0; have hf5 := free_blk hb5 0))
  all_goals refine bodyPost_end (results_none rfl _ _ _) rfl ?_
  all_goals have hfin := Rb.appended (x := x) (M := L) (base := w.heap.size) hbW hOb HOv.out Hvb.out ((Kept.refl _ W).drew.alloc _) hgr (lies hat) (by rw [← Hm.out, encL_snoc]; exact hown') esz2
  all_goals exact ⟨rfl, hfin.1.mono (fun k hk => by rcases hk with (h | h) | h <;> first | exact .inl h | exact .inr h | (right; simp at h; omega)), hk02.trans' hfin.2 (fun i hi h => by rcases h with h | h <;> first | exact h | (simp at h; omega))⟩

set_option maxRecDepth 100000 in
set_option maxHeartbeats 2000000 in
theorem rfill_b {O : Nat → Prop} (b room : Nat) (L M : List Ln) (a : Ln) (l : List Ln) (x : Ln) (w : World) (h : Rb O w b room L) (hOw : ∀ k, O k → k < w.heap.size) (hL : L.length ≤ 1000) (hal : L = a :: l) (hM : dropP x.sp x.pg L = L) (hlt : L.length = room) :
    Calls Try.prog 16 #[.pointer (some ⟨b, 0, none⟩), aggL x] w fun e w' => e = .returned (.tuple #[]) ∧ Rb (fun k => O k ∨ w.heap.size ≤ k) w' b room (l ++ [x]) ∧ Kept O w w' := by
  subst hal
  have hOb0 : O b := by obtain ⟨_, _, _, h3, _⟩ := h; exact h3
  have hrd := rdrop_any b room (a :: l) (a :: l) x.sp x.pg (w.alloc (blkL x)) (h.alloc _) hL hM false (by simp)
  have Hrd := Lib.hid hrd
  have HO := Lib.hid hOw
  have HM := Lib.hid hM
  have hB0 : (w.alloc (blkL x)).heap[w.heap.size]? = some (blkL x) := heap_alloc_new w (blkL x)
  have hk0 : New w (w.alloc (blkL x)) := (Kept.refl _ _).alloc _
  obtain ⟨i34, hi, hz0, hz1, hz2⟩ := info_parts info34
  clear hrd hM h hOw
  go_enter Try.func16, Try.ntmps16
  go_wp2_with fail
  refine Hrd.out.mono ?_
  rintro e w1 ⟨rfl, hR1, hk1⟩
  have hB1 := hk1.heap hB0 (fun hq => by have := HO.out _ hq; omega)
  have hk01 := (hk0.mono (fun _ _ h => h.elim)).trans hk1
  obtain ⟨ao, c, hb1, hown1, hOb, hOv, hvb⟩ := hR1.cells
  obtain ⟨m, hm⟩ : ∃ m, m = List.length (a :: l) := ⟨_, rfl⟩
  have Hm := Lib.hid hm
  rw [← hm] at hb1 hown1 hOv hvb
  have hc0 := cell_blk hb1 0
  have hc1 := cell_blk hb1 1
  have Hown1 := Lib.hid hown1
  have HOv := Lib.hid hOv
  have Hvb := Lib.hid hvb
  have hbl := lt_of_heap hb1
  have esz := hk1.size
  have esz1 : w.heap.size ≤ w1.heap.size := hk01.size
  clear hown1 hOv hvb hm hB0 hR1
  have hm1 : m ≤ 1000 := by have := Hm.out; omega
  obtain ⟨ml, hml⟩ : ∃ ml, ml = l.length := ⟨_, rfl⟩
  have Hml := Lib.hid hml
  have hmm : m = ml + 1 := by rw [Hm.out, hml]; rfl
  have hmr : (m : Int) = (room : Int) := by have := Hm.out; omega
  have hmr2 : ((m : Int) == (room : Int)) = true := by simpa using hmr
  obtain ⟨g, cap, hv, -, hrow, hcap⟩ := Row.of_ownS Hown1.out (by omega)
  simp only [Value.slice.injEq] at hv
  obtain ⟨rfl, -, rfl⟩ := hv
  have hcl : ∀ j u, (l.flatMap encL)[j]? = some u → w1.cell? ⟨g, 4 + j, none⟩ = some u := by
    intro j u hj
    have := Hown1.out.cells (g := g) rfl (4 + j) u (by
      rw [List.flatMap_cons, List.getElem?_append_right (by rw [encL_len]; omega), encL_len, Nat.add_sub_cancel_left]; exact hj)
    rw [addr_add, Nat.zero_add] at this
    exact this
  have Hcl := Lib.hid hcl
  have Hmm := Lib.hid hmm
  have q1 : (1 : Int) ≤ m := by omega
  have hlr : m = room := by omega
  have Hlr := Lib.hid hlr
  clear hml hmm hrow hcl hmr hlr
  go_wp2_with fail
  go_quiet (fail)
  obtain ⟨W, hW⟩ : ∃ W, W = w1.drewN nq := ⟨_, rfl⟩
  rw [← hW]
  have hbW1 : W.heap[b]? = some (.cells #[.slice (some ⟨g, 0, none⟩) m c, .int .i64 room] 50 (0, 0)) := by rw [hW]; exact hb1
  have hBW1 : W.heap[w.heap.size]? = some (blkL x) := by rw [hW]; exact hB1
  have hkW1 : Kept O w W := by rw [hW]; exact hk01.drewN _
  have eszW1 : w.heap.size ≤ W.heap.size := by rw [hW]; exact esz1
  have HclW := Lib.hid (show ∀ j u, (l.flatMap encL)[j]? = some u → W.cell? ⟨g, 4 + j, none⟩ = some u by rw [hW]; exact Hcl.out)
  clear hW hb1 hB1 hc0 hc1 hk1 Hown1 esz esz1
  obtain ⟨ad, had, hadv⟩ : ∃ ad : Addr, (if c = 1 then some (⟨g, 0, none⟩ : Addr) else some ⟨g, 4, none⟩) = some ad ∧ (0 < ml → ad = ⟨g, 4, none⟩) := by
    by_cases h : c = 1
    · exact ⟨_, by rw [if_pos h], fun h0 => by have := Hmm.out; omega⟩
    · exact ⟨_, by rw [if_neg h], fun _ => rfl⟩
  have hd0 := cell_blk hbW1 0
  have hbA : (W.alloc (.cells #[] 34)).heap[b]? = some (.cells #[.slice (some ⟨g, 0, none⟩) m c, .int .i64 room] 50 (0, 0)) := ((Kept.refl (fun _ => False) W).alloc _).heap hbW1 (fun h => h)
  have hsrcA : Src (W.alloc (.cells #[] 34)) (.slice (some ad) ml (c - 1)) ml 4 (l.flatMap encL) := by
    refine ⟨_, _, rfl, by simp, by rw [lines_len, Hml.out], fun j u hj => ⟨ad, rfl, ?_⟩⟩
    have h0 : 0 < ml := by have := lt_of_some hj; rw [lines_len] at this; have := Hml.out; omega
    rw [hadv h0, addr_add]
    exact cell_kept ((Kept.refl (fun _ => False) W).alloc _) (HclW.out j u hj) (fun h => h)
  have HsrcA := Lib.hid hsrcA
  have Had := Lib.hid had
  have hmsub : m - 1 = ml := by have := Hmm.out; omega
  have hmlb : ml ≤ 1000 := by omega
  have hbWl := lt_of_heap hbW1
  clear had hadv hsrcA
  by_cases hc1 : c = 1
  · have Had1 := Had.out
    rw [if_pos hc1] at Had1
    cases Had1
    subst hc1
    go_wp2_with (at_builtin; refine wpList_append_src2 rfl _ _ 27 rfl W.heap.size 34 i34 (aggL ⟨0, 0, 0, 0⟩) 4 32 Try.underlying27 hi hz0 hz1 hz2 rfl (by decide) _ 0 [] rfl (World.ownsRow_made W #[] 0 (Nat.le_refl _) (by unfold maxLen; omega) rfl) _ ml _ rfl HsrcA.out (encL_one l) (by simp [maxLen]; omega) (by omega) (by simp) ?_; intro v' w5 hown' hgr hid; have hkg := Kept.of_grown hgr; have hb5 := hkg.heap hbA (fun e => by have h9 : W.heap.size = b := Option.some.inj e; omega); have hc5 := cell_blk hb5 0; have hf5 := free_blk hb5 0; obtain ⟨ao5, c5, hv5, _⟩ := Src.of_own hown'; rw [hv5])
    rw [Nat.zero_add] at hv5 hown'
    have hown2 := hown'
    rw [hv5] at hown2
    have hblk := fun k (hk : (Value.slice ao5 ml c5).ownBlock = some k) => own_block hown2 hk
    obtain ⟨W6, hW6⟩ : ∃ W6, W6 = w5.setCell ⟨b, 0, none⟩ (.slice ao5 ml c5) := ⟨_, rfl⟩
    have hbW : W6.heap[b]? = some (.cells #[.slice ao5 ml c5, .int .i64 room] 50 (0, 0)) := by rw [hW6]; exact heap_setCell_same w5 b 0 _ _ _ hb5
    have kk : Kept (fun k => k = b) w5 W6 := by rw [hW6]; exact (Kept.refl (fun k => k = b) w5).setCell (.inr rfl) _
    have hWl := lt_of_heap hBW1
    have hvb2 : (Value.slice ao5 ml c5).ownBlock ≠ some b := fun e => by have := hblk b e; omega
    have HownW := Lib.hid (show W6.ownsRow 0 34 4 (.slice ao5 ml c5) ml (l.flatMap encL) by
      have h9 := own_mono (own_kept hown2 kk (fun i hi hF => hvb2 (by rw [hi, hF]))) (Nat.zero_le _)
      simpa using h9)
    have HOv2 := Lib.hid (fun k hk => (show O k ∨ (w.alloc (blkL x)).heap.size ≤ k from .inr (by have := hblk k hk; simp; omega)))
    have Hvb2 := Lib.hid hvb2
    have hB5 := hkg.heap (((Kept.refl (fun _ => False) W).alloc (.cells #[] 34)).heap hBW1 (fun h => h)) (fun e => by have h9 : W.heap.size = w.heap.size := Option.some.inj e; omega)
    have hB3 : W6.heap[w.heap.size]? = some (blkL x) := kk.heap hB5 (fun e => heap_ne hbW1 hBW1 (by decide) e.symm)
    have hk02 : Kept O w W6 := by
      rw [hW6]
      exact ((hkW1.alloc (.cells #[] 34)).trans' hkg (fun i hi e => by have h9 : W.heap.size = i := Option.some.inj e; omega)).setCell (.inr hOb0) _
    have esz2 : w.heap.size ≤ W6.heap.size := hk02.size
    rw [← hW6]
    clear hW6 hown' hown2 hblk kk hvb2 hB5 hb5 hc5 hf5 hbA hkg hgr hid hv5 hbW1 hBW1 HclW Had HsrcA hd0
    obtain ⟨b0, b1, b2, b3⟩ := of4 hB3
    have hlit := Src.lit W6.drew #[.int .i64 x.sp, .int .i64 x.pg, .int .i64 x.fr, .int .i64 x.ri] 34 1 4 rfl
    have hb6 : (W6.drew.alloc (blkL x)).heap[b]? = some (.cells #[.slice ao5 ml c5, .int .i64 room] 50 (0, 0)) := ((Kept.refl (fun _ => False) W6).drew.alloc _).heap hbW (fun h => h)
    have hc6 := cell_blk (((Kept.refl (fun _ => False) W6).alloc (blkL x)).heap hbW (fun h => h)) 0
    have hc7 := cell_blk hbW 0
    go_wp2_with fail
    go_region_law ((refine step_append_lies _ (by rfl) _ _ _ (by rfl) 0 34 i34 (aggL ⟨0, 0, 0, 0⟩) 4 32 Try.underlying27 hi hz0 hz1 hz2 rfl (by decide) _ ml (l.flatMap encL) (by rfl) (own_same HownW.out ((Kept.refl _ _).drew.alloc _)) ⟨W6.heap.size, 0, none⟩ 1 1 (encL x) (by rfl) rfl (World.news_of_block (heap_alloc_new W6 (blkL x))) (encL_one1 x) (by decide) (by simp [maxLen]; omega) (by omega) (by simp) (W6.heap.size + 1) (by simp) ?_; intro g5 cap5 w5 hown' hgr hat hlt5; have hb5 := (Kept.of_grown hgr).heap hb6 Hvb2.out; have hc5 := cell_blk hb5 0; have hf5 := free_blk hb5 0))
    all_goals refine bodyPost_end (results_none rfl _ _ _) rfl ?_
    all_goals have hfin := Rb.appended (x := x) (M := l) (base := w.heap.size) hbW hOb HOv2.out Hvb2.out ((Kept.refl _ W6).drew.alloc _) hgr (lies hat) (by rw [← Hml.out, encL_snoc]; exact hown') esz2
    all_goals exact ⟨rfl, hfin.1.mono (fun k hk => by rcases hk with (h | h) | h <;> first | exact .inl h | exact .inr h | (right; simp at h; omega)), hk02.trans' hfin.2 (fun i hi h => by rcases h with h | h <;> first | exact h | (simp at h; omega))⟩
  · have Had1 := Had.out
    rw [if_neg hc1] at Had1
    cases Had1
    go_wp2_with (at_builtin; refine wpList_append_src2 rfl _ _ 27 rfl W.heap.size 34 i34 (aggL ⟨0, 0, 0, 0⟩) 4 32 Try.underlying27 hi hz0 hz1 hz2 rfl (by decide) _ 0 [] rfl (World.ownsRow_made W #[] 0 (Nat.le_refl _) (by unfold maxLen; omega) rfl) _ ml _ rfl HsrcA.out (encL_one l) (by simp [maxLen]; omega) (by omega) (by simp) ?_; intro v' w5 hown' hgr hid; have hkg := Kept.of_grown hgr; have hb5 := hkg.heap hbA (fun e => by have h9 : W.heap.size = b := Option.some.inj e; omega); have hc5 := cell_blk hb5 0; have hf5 := free_blk hb5 0; obtain ⟨ao5, c5, hv5, _⟩ := Src.of_own hown'; rw [hv5])
    rw [Nat.zero_add] at hv5 hown'
    have hown2 := hown'
    rw [hv5] at hown2
    have hblk := fun k (hk : (Value.slice ao5 ml c5).ownBlock = some k) => own_block hown2 hk
    obtain ⟨W6, hW6⟩ : ∃ W6, W6 = w5.setCell ⟨b, 0, none⟩ (.slice ao5 ml c5) := ⟨_, rfl⟩
    have hbW : W6.heap[b]? = some (.cells #[.slice ao5 ml c5, .int .i64 room] 50 (0, 0)) := by rw [hW6]; exact heap_setCell_same w5 b 0 _ _ _ hb5
    have kk : Kept (fun k => k = b) w5 W6 := by rw [hW6]; exact (Kept.refl (fun k => k = b) w5).setCell (.inr rfl) _
    have hWl := lt_of_heap hBW1
    have hvb2 : (Value.slice ao5 ml c5).ownBlock ≠ some b := fun e => by have := hblk b e; omega
    have HownW := Lib.hid (show W6.ownsRow 0 34 4 (.slice ao5 ml c5) ml (l.flatMap encL) by
      have h9 := own_mono (own_kept hown2 kk (fun i hi hF => hvb2 (by rw [hi, hF]))) (Nat.zero_le _)
      simpa using h9)
    have HOv2 := Lib.hid (fun k hk => (show O k ∨ (w.alloc (blkL x)).heap.size ≤ k from .inr (by have := hblk k hk; simp; omega)))
    have Hvb2 := Lib.hid hvb2
    have hB5 := hkg.heap (((Kept.refl (fun _ => False) W).alloc (.cells #[] 34)).heap hBW1 (fun h => h)) (fun e => by have h9 : W.heap.size = w.heap.size := Option.some.inj e; omega)
    have hB3 : W6.heap[w.heap.size]? = some (blkL x) := kk.heap hB5 (fun e => heap_ne hbW1 hBW1 (by decide) e.symm)
    have hk02 : Kept O w W6 := by
      rw [hW6]
      exact ((hkW1.alloc (.cells #[] 34)).trans' hkg (fun i hi e => by have h9 : W.heap.size = i := Option.some.inj e; omega)).setCell (.inr hOb0) _
    have esz2 : w.heap.size ≤ W6.heap.size := hk02.size
    rw [← hW6]
    clear hW6 hown' hown2 hblk kk hvb2 hB5 hb5 hc5 hf5 hbA hkg hgr hid hv5 hbW1 hBW1 HclW Had HsrcA hd0
    obtain ⟨b0, b1, b2, b3⟩ := of4 hB3
    have hlit := Src.lit W6.drew #[.int .i64 x.sp, .int .i64 x.pg, .int .i64 x.fr, .int .i64 x.ri] 34 1 4 rfl
    have hb6 : (W6.drew.alloc (blkL x)).heap[b]? = some (.cells #[.slice ao5 ml c5, .int .i64 room] 50 (0, 0)) := ((Kept.refl (fun _ => False) W6).drew.alloc _).heap hbW (fun h => h)
    have hc6 := cell_blk (((Kept.refl (fun _ => False) W6).alloc (blkL x)).heap hbW (fun h => h)) 0
    have hc7 := cell_blk hbW 0
    go_wp2_with fail
    go_region_law ((refine step_append_lies _ (by rfl) _ _ _ (by rfl) 0 34 i34 (aggL ⟨0, 0, 0, 0⟩) 4 32 Try.underlying27 hi hz0 hz1 hz2 rfl (by decide) _ ml (l.flatMap encL) (by rfl) (own_same HownW.out ((Kept.refl _ _).drew.alloc _)) ⟨W6.heap.size, 0, none⟩ 1 1 (encL x) (by rfl) rfl (World.news_of_block (heap_alloc_new W6 (blkL x))) (encL_one1 x) (by decide) (by simp [maxLen]; omega) (by omega) (by simp) (W6.heap.size + 1) (by simp) ?_; intro g5 cap5 w5 hown' hgr hat hlt5; have hb5 := (Kept.of_grown hgr).heap hb6 Hvb2.out; have hc5 := cell_blk hb5 0; have hf5 := free_blk hb5 0))
    all_goals refine bodyPost_end (results_none rfl _ _ _) rfl ?_
    all_goals have hfin := Rb.appended (x := x) (M := l) (base := w.heap.size) hbW hOb HOv2.out Hvb2.out ((Kept.refl _ W6).drew.alloc _) hgr (lies hat) (by rw [← Hml.out, encL_snoc]; exact hown') esz2
    all_goals exact ⟨rfl, hfin.1.mono (fun k hk => by rcases hk with (h | h) | h <;> first | exact .inl h | exact .inr h | (right; simp at h; omega)), hk02.trans' hfin.2 (fun i hi h => by rcases h with h | h <;> first | exact h | (simp at h; omega))⟩
end Go.Proofs.Ytgjlghjigfclpaa

/- Package tlb: Fill where a line of the same page is dropped. -/
import Derived.Test.YtgjlghjigfclpaaTlbG
set_option linter.all false
namespace Go.Proofs.Ytgjlghjigfclpaa
open Go.RowKit

theorem wpAnyH_skip {P : Program} {md : Region.Mode} {ops : Array Oper} {Q : Exit → Act → World → Prop} {S : World → Prop} {i : Nat} {oi : Oper} {fuel : Nat} {listed : Array Bool} {a : Act} {w : World} (hi : ops[i]? = some oi)
    (hs : Region.noSelect ops = true) (hf : Region.free md ops listed i = true) (hr : (Region.ready md ops listed).contains i = true)
    (hQ : ∀ c a w, Q (.panic c) (a.put oi.dst undef) w → Q (.panic c) a w) (hw : Region.wanted oi (yielded ops a.tmps) = false) (hp : a.put oi.dst undef = a) (hS : S w)
    (h : wpAnyH P md ops Q S fuel (listed.setIfInBounds i true) a w) : wpAnyH P md ops Q S (fuel + 1) listed a w :=
  wpAnyH_take hi hs hf hr hQ (Or.inr ⟨hw, rfl⟩) hS (by rw [hp]; exact h)

set_option maxRecDepth 100000 in
set_option maxHeartbeats 2000000 in
theorem fill_a {O : Nat → Prop} (b room : Nat) (L M : List Ln) (x : Ln) (d : Nat) (w : World) (h : Tb O w b room L) (hOw : ∀ k, O k → k < w.heap.size) (hL : L.length ≤ 1000) (hM : dropP x.sp x.pg L = M) (hd : M.length + d = L.length) (hd0 : d ≠ 0) :
    Calls Try.prog 12 #[.pointer (some ⟨b, 0, none⟩), aggL x] w fun e w' => e = .returned (.tuple #[]) ∧ Tb (fun k => O k ∨ w.heap.size ≤ k) w' b room (M ++ [x]) ∧ Kept O w w' := by
  obtain ⟨n, rfl⟩ : ∃ n, d = n + 1 := ⟨d - 1, by omega⟩
  have Hh := Lib.hid h
  have HM := Lib.hid hM
  have Hd := Lib.hid hd
  have HO := Lib.hid hOw
  clear h hM hd hOw hd0
  have hne : ((n : Int) + 1 == 0) = false := by simp; omega
  have hk0 : New w (w.alloc (blkL x)).drew := ((Kept.refl _ _).alloc _).drew
  have hB0 : (w.alloc (blkL x)).drew.heap[w.heap.size]? = some (blkL x) := heap_alloc_new w (blkL x)
  obtain ⟨i34, hi, hz0, hz1, hz2⟩ := info_parts info34
  go_enter Try.func12, Try.ntmps12
  go_wp2_with fail
  refine wp_region_held_drew (S := fun W => W.cell? ⟨w.heap.size, 0, none⟩ = some (.int .i64 x.sp) ∧ W.cell? ⟨w.heap.size, 1, none⟩ = some (.int .i64 x.pg) ∧ W.cell? ⟨w.heap.size, 2, none⟩ = some (.int .i64 x.fr) ∧ W.cell? ⟨w.heap.size, 3, none⟩ = some (.int .i64 x.ri)) (by kernel_rfl) (of4 hB0) (fun hHeld => ?_)
  refine wpAnyH_take (i := 0) (v := .pointer (some ⟨b, 0, none⟩)) rfl (by kernel_rfl) (by kernel_rfl) (by kernel_rfl) (fun _ _ _ h => h) (Or.inl ⟨by rfl, ?_⟩) (by assumption) ?_
  · intro W hSW; (try dsimp only at hSW); obtain ⟨s0, s1, s2, s3⟩ := hSW; go_simp
  try simp only [Act.put, List.setIfInBounds_toArray, List.set_cons_zero, List.set_cons_succ]
  refine wpAnyH_take (i := 1) (v := .pointer (some ⟨w.heap.size, 0, none⟩)) rfl (by kernel_rfl) (by kernel_rfl) (by kernel_rfl) (fun _ _ _ h => h) (Or.inl ⟨by rfl, ?_⟩) (by assumption) ?_
  · intro W hSW; (try dsimp only at hSW); obtain ⟨s0, s1, s2, s3⟩ := hSW; go_simp
  try simp only [Act.put, List.setIfInBounds_toArray, List.set_cons_zero, List.set_cons_succ]
  refine wpAnyH_take (i := 2) (v := .int .i64 x.sp) rfl (by kernel_rfl) (by kernel_rfl) (by kernel_rfl) (fun _ _ _ h => h) (Or.inl ⟨by rfl, ?_⟩) (by assumption) ?_
  · intro W hSW; (try dsimp only at hSW); obtain ⟨s0, s1, s2, s3⟩ := hSW; go_simp
  try simp only [Act.put, List.setIfInBounds_toArray, List.set_cons_zero, List.set_cons_succ]
  refine wpAnyH_take (i := 4) (v := .pointer (some ⟨w.heap.size, 1, none⟩)) rfl (by kernel_rfl) (by kernel_rfl) (by kernel_rfl) (fun _ _ _ h => h) (Or.inl ⟨by rfl, ?_⟩) (by assumption) ?_
  · intro W hSW; (try dsimp only at hSW); obtain ⟨s0, s1, s2, s3⟩ := hSW; go_simp
  try simp only [Act.put, List.setIfInBounds_toArray, List.set_cons_zero, List.set_cons_succ]
  refine wpAnyH_take (i := 5) (v := .int .i64 x.pg) rfl (by kernel_rfl) (by kernel_rfl) (by kernel_rfl) (fun _ _ _ h => h) (Or.inl ⟨by rfl, ?_⟩) (by assumption) ?_
  · intro W hSW; (try dsimp only at hSW); obtain ⟨s0, s1, s2, s3⟩ := hSW; go_simp
  try simp only [Act.put, List.setIfInBounds_toArray, List.set_cons_zero, List.set_cons_succ]
  refine wpAnyH_ready (rs := [3]) (by kernel_rfl) (by simp) ?_
  refine AllReadyH.cons rfl (fun K hK => ?_) AllReadyH.nil
  go_simp
  refine (of_any x.sp _).mono ?_
  rintro e w1 ⟨f1, rfl, hf1, hk1⟩
  obtain ⟨q1, rfl, hq1⟩ := hf1
  have hB1 := hk1.heap hB0 (fun h => h)
  have hk01 := hk0.trans hk1
  refine hK.out _ _ (of4 hB1) (fun hHeld => ?_)
  clear hK K
  try simp only [Act.put, List.setIfInBounds_toArray, List.set_cons_zero, List.set_cons_succ]
  refine wpAnyH_ready (rs := [6]) (by kernel_rfl) (by simp) ?_
  refine AllReadyH.cons rfl (fun K hK => ?_) AllReadyH.nil
  go_simp
  refine (at_any x.pg _).mono ?_
  rintro e w2 ⟨f2, rfl, hf2, hk2⟩
  obtain ⟨q2, rfl, hq2⟩ := hf2
  have hB2 := hk2.heap hB1 (fun h => h)
  have hk02 := hk01.trans hk2
  have hq1' := hk2.heap hq1 (fun h => h)
  refine hK.out _ _ (of4 hB2) (fun hHeld => ?_)
  clear hK K
  try simp only [Act.put, List.setIfInBounds_toArray, List.set_cons_zero, List.set_cons_succ]
  refine wpAnyH_ready (rs := [7]) (by kernel_rfl) (by simp) ?_
  refine AllReadyH.cons rfl (fun K hK => ?_) AllReadyH.nil
  go_simp
  refine hK.out _ _ (of4 (((Kept.refl (fun _ => False) _).alloc _).heap hB2 (fun h => h))) (fun hHeld => ?_)
  clear hK K
  try simp only [Act.put, List.setIfInBounds_toArray, List.set_cons_zero, List.set_cons_succ]
  refine wpAnyH_ready (rs := [8]) (by kernel_rfl) (by simp) ?_
  refine AllReadyH.cons rfl (fun K hK => ?_) AllReadyH.nil
  go_simp
  refine (drop2so_any b room L M _ x.sp x.pg (n + 1) _ ((Hh.out.same hk02).alloc _) (asks2 ⟨q1, rfl, hq1'⟩ ⟨q2, rfl, hq2⟩) hL HM.out Hd.out).mono ?_
  rintro e w3 ⟨rfl, hT, hk3⟩
  have hB3 := hk3.heap (((Kept.refl (fun _ => False) _).alloc _).heap hB2 (fun h => h)) (fun h => by have := HO.out _ h; omega)
  have hk03 := ((hk02.alloc _).mono (fun _ _ h => h.elim)).trans hk3
  refine hK.out _ _ (of4 hB3) (fun hHeld => ?_)
  clear hK K
  try simp only [Act.put, List.setIfInBounds_toArray, List.set_cons_zero, List.set_cons_succ]
  refine wpAnyH_take (i := 9) (v := .bool false) rfl (by kernel_rfl) (by kernel_rfl) (by kernel_rfl) (fun _ _ _ h => h) (Or.inl ⟨by rfl, ?_⟩) (by assumption) ?_
  · intro W hSW; (try dsimp only at hSW); obtain ⟨s0, s1, s2, s3⟩ := hSW; go_simp
  try simp only [Act.put, List.setIfInBounds_toArray, List.set_cons_zero, List.set_cons_succ]
  refine wpAnyH_take (i := 10) (v := .bool false) rfl (by kernel_rfl) (by kernel_rfl) (by kernel_rfl) (fun _ _ _ h => h) (Or.inl ⟨by rfl, ?_⟩) (by assumption) ?_
  · intro W hSW; (try dsimp only at hSW); obtain ⟨s0, s1, s2, s3⟩ := hSW; go_simp
  try simp only [Act.put, List.setIfInBounds_toArray, List.set_cons_zero, List.set_cons_succ]
  refine wpAnyH_skip (i := 11) rfl (by kernel_rfl) (by kernel_rfl) (by kernel_rfl) (fun _ _ _ h => h) (by rfl) (by rfl) (by assumption) ?_
  refine wpAnyH_skip (i := 12) rfl (by kernel_rfl) (by kernel_rfl) (by kernel_rfl) (fun _ _ _ h => h) (by rfl) (by rfl) (by assumption) ?_
  refine wpAnyH_skip (i := 13) rfl (by kernel_rfl) (by kernel_rfl) (by kernel_rfl) (fun _ _ _ h => h) (by rfl) (by rfl) (by assumption) ?_
  refine wpAnyH_skip (i := 14) rfl (by kernel_rfl) (by kernel_rfl) (by kernel_rfl) (fun _ _ _ h => h) (by rfl) (by rfl) (by assumption) ?_
  refine wpAnyH_skip (i := 15) rfl (by kernel_rfl) (by kernel_rfl) (by kernel_rfl) (fun _ _ _ h => h) (by rfl) (by rfl) (by assumption) ?_
  refine wpAnyH_skip (i := 16) rfl (by kernel_rfl) (by kernel_rfl) (by kernel_rfl) (fun _ _ _ h => h) (by rfl) (by rfl) (by assumption) ?_
  refine wpAnyH_skip (i := 17) rfl (by kernel_rfl) (by kernel_rfl) (by kernel_rfl) (fun _ _ _ h => h) (by rfl) (by rfl) (by assumption) ?_
  refine wpAnyH_skip (i := 18) rfl (by kernel_rfl) (by kernel_rfl) (by kernel_rfl) (fun _ _ _ h => h) (by rfl) (by rfl) (by assumption) ?_
  refine wpAnyH_skip (i := 19) rfl (by kernel_rfl) (by kernel_rfl) (by kernel_rfl) (fun _ _ _ h => h) (by rfl) (by rfl) (by assumption) ?_
  refine wpAnyH_skip (i := 20) rfl (by kernel_rfl) (by kernel_rfl) (by kernel_rfl) (fun _ _ _ h => h) (by rfl) (by rfl) (by assumption) ?_
  refine wpAnyH_take (i := 21) (v := .bool false) rfl (by kernel_rfl) (by kernel_rfl) (by kernel_rfl) (fun _ _ _ h => h) (Or.inl ⟨by rfl, ?_⟩) (by assumption) ?_
  · intro W hSW; (try dsimp only at hSW); obtain ⟨s0, s1, s2, s3⟩ := hSW; go_simp
  try simp only [Act.put, List.setIfInBounds_toArray, List.set_cons_zero, List.set_cons_succ]
  refine wpAnyH_done (by kernel_rfl) ?_ _
  obtain ⟨ao, c, hbW, hown, hOb, hOv, hvb⟩ := hT.cells
  obtain ⟨len, hlen⟩ : ∃ len, len = M.length := ⟨_, rfl⟩
  have Hlen := Lib.hid hlen
  have hml : len ≤ 1000 := by have := Hd.out; omega
  rw [← hlen] at hbW hown hOv hvb
  have HownW := Lib.hid hown
  have HOv := Lib.hid hOv
  have Hvb := Lib.hid hvb
  have eszw := hk03.size
  clear hB0 hB1 hB2 hq1 hq2 hq1' hown hOv hvb hlen hT hHeld
  obtain ⟨b0, b1, b2, b3⟩ := of4 hB3
  have hlit := Src.lit w3.drew #[.int .i64 x.sp, .int .i64 x.pg, .int .i64 x.fr, .int .i64 x.ri] 34 1 4 rfl
  have hb6 : (w3.drew.alloc (blkL x)).heap[b]? = some (.cells #[.slice ao len c, .int .i64 room] 54 (0, 0)) := ((Kept.refl (fun _ => False) w3).drew.alloc _).heap hbW (fun h => h)
  have hc6 := cell_blk (((Kept.refl (fun _ => False) w3).alloc (blkL x)).heap hbW (fun h => h)) 0
  have hc7 := cell_blk hbW 0
  go_wp2_with fail
  go_region_law ((refine step_append_lies _ (by rfl) _ _ _ (by rfl) 0 34 i34 (aggL ⟨0, 0, 0, 0⟩) 4 32 Try.underlying27 hi hz0 hz1 hz2 rfl (by decide) _ len (M.flatMap encL) (by rfl) (own_same HownW.out ((Kept.refl _ _).drew.alloc _)) ⟨w3.heap.size, 0, none⟩ 1 1 (encL x) (by rfl) rfl (World.news_of_block (heap_alloc_new w3 (blkL x))) (encL_one1 x) (by decide) (by simp [maxLen]; omega) (by omega) (by simp) (w3.heap.size + 1) (by simp) ?_; intro g5 cap5 w5 hown' hgr hat hlt5; have hb5 := (Kept.of_grown hgr).heap hb6 Hvb.out; have hc5 := cell_blk hb5 0; have hf5 := free_blk hb5 0))
  all_goals refine bodyPost_end (results_none rfl _ _ _) rfl ?_
  all_goals have hfin := Tb.appended (x := x) (M := M) hbW hOb HOv.out Hvb.out ((Kept.refl _ w3).drew.alloc _) hgr (lies hat) (by rw [← Hlen.out, encL_snoc]; exact hown') eszw
  all_goals exact ⟨rfl, hfin.1, hk03.trans hfin.2⟩
end Go.Proofs.Ytgjlghjigfclpaa

/- Package endpoint: the line of those that wait, and which way they wait: there, first, wait. -/
import Derived.Test.YtanongcaokldmaaEndB
import Derived.Laws.ResultCell
import Derived.Deep.AppendLies
import Derived.Deep.RegionLaw
set_option linter.all false
namespace Go.Proofs.Ytanongcaokldmaa
open Go.RowKit

def Ep (O : Nat → Prop) (w : World) (b : Nat) (sd : Bool) (L : List On) : Prop :=
  ∃ v, w.heap[b]? = some (.cells #[v, .bool sd] 55 (0, 0)) ∧ w.ownsRow 0 57 8 v L.length (L.flatMap encO) ∧ O b ∧ ∀ k, v.ownBlock = some k → O k
section
variable {O O' F : Nat → Prop} {w w' : World} {b : Nat} {sd : Bool} {L : List On}
theorem Ep.mono (h : Ep O w b sd L) (hO : ∀ k, O k → O' k) : Ep O' w b sd L := let ⟨v, h1, h2, h3, h4⟩ := h; ⟨v, h1, h2, hO _ h3, fun k hk => hO k (h4 k hk)⟩
theorem Ep.kept (h : Ep O w b sd L) (k : Kept F w w') (hF : ∀ i, O i → ¬ F i) : Ep O w' b sd L :=
  let ⟨v, h1, h2, h3, h4⟩ := h; ⟨v, k.heap h1 (hF _ h3), own_kept h2 k (fun i hi => hF i (h4 i hi)), h3, h4⟩
theorem Ep.same (h : Ep O w b sd L) (k : New w w') : Ep O w' b sd L := h.kept k (fun _ _ h => h)
theorem Ep.alloc (h : Ep O w b sd L) (o : Obj) : Ep O (w.alloc o) b sd L := h.same ((Kept.refl _ _).alloc o)
theorem Ep.sized (h : Ep O w b sd L) : Ep (fun k => O k ∧ k < w.heap.size) w b sd L :=
  let ⟨v, h1, h2, h3, h4⟩ := h; ⟨v, h1, h2, ⟨h3, lt_of_heap h1⟩, fun k hk => ⟨h4 k hk, own_size h2 hk⟩⟩
theorem Ep.cells (h : Ep O w b sd L) : ∃ ao c, w.heap[b]? = some (.cells #[.slice ao L.length c, .bool sd] 55 (0, 0)) ∧ w.ownsRow 0 57 8 (.slice ao L.length c) L.length (L.flatMap encO) ∧ O b ∧ (∀ k, (Value.slice ao L.length c).ownBlock = some k → O k) ∧ (Value.slice ao L.length c).ownBlock ≠ some b := by
  obtain ⟨v, hb, hown, hOb, hOv⟩ := h
  have hvb : v.ownBlock ≠ some b := by
    intro e
    obtain ⟨cc, hcc⟩ := own_type hown e
    exact heap_ne hb hcc (by decide) rfl
  obtain ⟨ao, c, rfl, -⟩ := Src.of_own hown
  exact ⟨ao, c, hb, hown, hOb, hOv, hvb⟩
end

theorem new_any (w : World) : Calls Try.prog 10 #[] w fun e w' => e = .returned (.pointer (some ⟨w.heap.size, 0, none⟩)) ∧ Ep (fun k => w.heap.size ≤ k) w' w.heap.size false [] ∧ New w w' := by
  go_enter Try.func10, Try.ntmps10
  go_wp2
  go_ret
  exact ⟨rfl, ⟨_, heap_alloc_new _ _, ⟨by simp, .inl ⟨rfl, rfl⟩⟩, Nat.le_refl _, fun k hk => by cases hk⟩, (Kept.refl _ _).alloc _⟩

theorem there_any {O : Nat → Prop} (b : Nat) (sd : Bool) (L : List On) (who : Int) (r : Bool) (w : World) (h : Ep O w b sd L) (hL : L.length ≤ 1000) (hr : r = L.any (fun x => x.who == who)) :
    Calls Try.prog 25 #[.pointer (some ⟨b, 0, none⟩), .int .i64 who] w fun e w' => e = .returned (.bool r) ∧ New w w' := by
  obtain ⟨v, hb, hown, -⟩ := h
  have hk1 : New w (w.alloc (.cells #[.int .i64 who] 3)) := (Kept.refl _ _).alloc _
  have hc := contains_any v who w.heap.size L r (w.alloc (.cells #[.int .i64 who] 3)) (heap_alloc_new _ _) (own_same hown hk1) (by omega) hr
  have Hc := Lib.hid hc
  have c0 := cell_blk hb 0
  have c0' := cell_blk (hk1.heap hb (fun h => h)) 0
  have hbl := lt_of_heap hb
  clear hown hc hr
  go_enter Try.func25, Try.ntmps25
  go_wp2_with fail
  refine Hc.out.mono ?_
  rintro e w1 ⟨rfl, hk⟩
  go_wp2_with fail
  go_ret
  exact ⟨rfl, hk1.trans hk⟩

theorem first_no {O : Nat → Prop} (b : Nat) (sd wt : Bool) (L : List On) (w : World) (h : Ep O w b sd L) (hn : L = [] ∨ sd ≠ wt) :
    Calls Try.prog 26 #[.pointer (some ⟨b, 0, none⟩), .bool wt] w fun e w' => e = .returned (.tuple #[aggO ⟨0, 0, 0, 0, 0, 0, 0, false⟩, .bool false]) ∧ New w w' := by
  obtain ⟨ao, c, hb, hown, -, -, -⟩ := h.cells
  have hbl := lt_of_heap hb
  obtain ⟨len, hlen⟩ : ∃ len, len = L.length := ⟨_, rfl⟩
  have Hlen := Lib.hid hlen
  rw [← hlen] at hb
  have c0 := cell_blk hb 0
  have c1 := cell_blk hb 1
  clear hown hlen h
  by_cases h0 : len = 0
  · subst h0
    go_enter Try.func26, Try.ntmps26
    go_wp2_with fail
    refine bodyPost_ret (v := .tuple #[aggO ⟨0, 0, 0, 0, 0, 0, 0, false⟩, .bool false]) (by rw [results_cell_tmp rfl]; go_simp) rfl ⟨rfl, ?_⟩
    exact (Kept.refl (fun _ => False) w).alloc (blkO ⟨0, 0, 0, 0, 0, 0, 0, false⟩)
  · have hsd : (sd != wt) = true := by
      have : sd ≠ wt := hn.resolve_left (fun e => h0 (by rw [Hlen.out, e]; rfl))
      simpa using this
    have h0b : ((len : Int) == 0) = false := by simpa using h0
    have h0c : ¬ (len : Int) = 0 := by omega
    clear hn
    cases sd <;> cases wt <;> first | (exact absurd hsd (by decide)) | skip
    all_goals clear hsd
    all_goals go_enter Try.func26, Try.ntmps26
    all_goals go_wp2_with fail
    all_goals refine bodyPost_ret (v := .tuple #[aggO ⟨0, 0, 0, 0, 0, 0, 0, false⟩, .bool false]) (by rw [results_cell_tmp rfl]; go_simp) rfl ⟨rfl, ?_⟩
    all_goals exact (Kept.refl (fun _ => False) w).alloc (blkO ⟨0, 0, 0, 0, 0, 0, 0, false⟩)

set_option maxHeartbeats 1000000 in
theorem first_yes {O : Nat → Prop} (b : Nat) (sd : Bool) (a : On) (l : List On) (w : World) (h : Ep O w b sd (a :: l)) (hL : l.length ≤ 1000) :
    Calls Try.prog 26 #[.pointer (some ⟨b, 0, none⟩), .bool sd] w fun e w' => e = .returned (.tuple #[aggO a, .bool true]) ∧ Ep O w' b sd l ∧ Kept O w w' := by
  obtain ⟨ao, c, hb, hown, hOb, hOv, hvb⟩ := h.cells
  obtain ⟨g, cap, hv, -, -, -⟩ := Row.of_ownS hown (by simp)
  simp only [Value.slice.injEq] at hv
  obtain ⟨rfl, -, rfl⟩ := hv
  have hca := own_one (own_same hown ((Kept.refl _ w).alloc (blkO ⟨0, 0, 0, 0, 0, 0, 0, false⟩))) (k := 0) rfl
  simp only [Nat.zero_mul, Nat.zero_add] at hca
  obtain ⟨a0, a1, a2, a3, a4, a5, a6, a7⟩ := hca
  obtain ⟨len, hlen⟩ : ∃ len, len = l.length := ⟨_, rfl⟩
  have Hlen := Lib.hid hlen
  have hll : (a :: l).length = len + 1 := by rw [hlen]; rfl
  -- the worlds: the result's cell, the box of the first one
  have hkz : New w (w.alloc (blkO ⟨0, 0, 0, 0, 0, 0, 0, false⟩)) := (Kept.refl _ _).alloc _
  have hka : New w ((w.alloc (blkO ⟨0, 0, 0, 0, 0, 0, 0, false⟩)).alloc (blkO a)) := hkz.alloc _
  have hdf := delete_first (.slice (some ⟨g, 0, none⟩) (a :: l).length c) a l ((w.alloc (blkO ⟨0, 0, 0, 0, 0, 0, 0, false⟩)).alloc (blkO a)) (own_same hown hka) (by omega)
  rw [hll] at hb hdf hvb hOv
  rw [← hlen] at hdf
  have hb1 := hka.heap hb (fun h => h)
  have hz1 := ((Kept.refl (fun _ => False) (w.alloc (blkO ⟨0, 0, 0, 0, 0, 0, 0, false⟩))).alloc (blkO a)).heap (heap_alloc_new w (blkO ⟨0, 0, 0, 0, 0, 0, 0, false⟩)) (fun h => h)
  have ha1 := heap_alloc_new (w.alloc (blkO ⟨0, 0, 0, 0, 0, 0, 0, false⟩)) (blkO a)
  have hsz : (w.alloc (blkO ⟨0, 0, 0, 0, 0, 0, 0, false⟩)).heap.size = w.heap.size + 1 := by simp
  have c0 := cell_blk hb 0
  have c1 := cell_blk hb 1
  have hvlt : ∀ k, (Value.slice (some ⟨g, 0, none⟩) (len + 1) c).ownBlock = some k → k < w.heap.size := fun k hk => own_size hown (by rw [hll]; exact hk)
  have Hvb := Lib.hid hvb
  have HOv := Lib.hid hOv
  have Hdf := Lib.hid hdf
  have Hvlt := Lib.hid hvlt
  have hbl := lt_of_heap hb
  clear hown hlen hll hdf hvb hOv hvlt h
  cases sd
  all_goals go_enter Try.func26, Try.ntmps26
  all_goals go_wp2_with fail
  all_goals refine Hdf.out.mono ?_
  all_goals rintro e w2 ⟨v', rfl, hown', hob, hk2⟩
  all_goals have hb2 := hk2.heap hb1 Hvb.out
  all_goals have hz2 := hk2.heap hz1 (fun e => by have := Hvlt.out _ e; omega)
  all_goals have ha2 := hk2.heap ha1 (fun e => by have := Hvlt.out _ e; omega)
  all_goals rw [hsz] at ha2
  all_goals have d0 := cell_blk hb2 0
  all_goals have f0 := free_blk hb2 0
  all_goals obtain ⟨ao', c', hv', -⟩ := Src.of_own hown'
  all_goals have Hown' := Lib.hid hown'
  all_goals have Hob := Lib.hid hob
  all_goals have Hv' := Lib.hid hv'
  all_goals clear hown' hob
  all_goals rw [hv']
  all_goals obtain ⟨w3, hw3⟩ : ∃ w3, w3 = w2.setCell ⟨b, 0, none⟩ (.slice ao' len c') := ⟨_, rfl⟩
  all_goals have kb : Kept (fun k => k = b) w2 w3 := by rw [hw3]; exact (Kept.refl (fun k => k = b) w2).setCell (.inr rfl) _
  all_goals have ha3 := kb.heap ha2 (fun e => by omega)
  all_goals have hz3 := kb.heap hz2 (fun e => by omega)
  all_goals rw [hw3] at ha3 hz3
  all_goals obtain ⟨e0, e1, e2, e3, e4, e5, e6, e7⟩ := of8 ha3
  all_goals obtain ⟨z0, z1, z2, z3, z4, z5, z6, z7⟩ := of8 hz3
  all_goals have y0 := free_blk hz3 0
  all_goals have y1 := free_blk hz3 1
  all_goals have y2 := free_blk hz3 2
  all_goals have y3 := free_blk hz3 3
  all_goals have y4 := free_blk hz3 4
  all_goals have y5 := free_blk hz3 5
  all_goals have y6 := free_blk hz3 6
  all_goals have y7 := free_blk hz3 7
  all_goals clear hv' ha2 hz2
  all_goals go_wp2_with fail
  all_goals refine bodyPost_ret (v := .tuple #[aggO a, .bool true]) (by rw [results_cell_tmp rfl]; go_simp) rfl ⟨rfl, ?_⟩
  all_goals have hst := heap_setCell_same w2 b 0 _ _ (.slice ao' len c') hb2
  all_goals rw [← hw3] at hst ⊢
  all_goals have kz : Kept (fun k => k = w.heap.size) w3 ((((((((w3.setCell ⟨w.heap.size, 0, none⟩ (.int .i64 a.who)).setCell ⟨w.heap.size, 1, none⟩ (.int .i64 a.la)).setCell ⟨w.heap.size, 2, none⟩ (.int .u64 a.w0)).setCell ⟨w.heap.size, 3, none⟩ (.int .u64 a.w1)).setCell ⟨w.heap.size, 4, none⟩ (.int .u64 a.w2)).setCell ⟨w.heap.size, 5, none⟩ (.int .u64 a.w3)).setCell ⟨w.heap.size, 6, none⟩ (.int .u64 a.bg)).setCell ⟨w.heap.size, 7, none⟩ (.bool a.ca)) := (Kept.refl (fun k => k = w.heap.size) w3).setCell (.inr rfl) _ |>.setCell (.inr rfl) _ |>.setCell (.inr rfl) _ |>.setCell (.inr rfl) _ |>.setCell (.inr rfl) _ |>.setCell (.inr rfl) _ |>.setCell (.inr rfl) _ |>.setCell (.inr rfl) _
  all_goals have hvb' : v'.ownBlock ≠ some b := fun e => Hvb.out (by rw [← Hob.out]; exact e)
  all_goals have hvz : v'.ownBlock ≠ some w.heap.size := fun e => by have := Hvlt.out _ (by rw [← Hob.out]; exact e); omega
  all_goals refine ⟨⟨v', kz.heap (by rw [hst, Hv'.out]; rfl) (fun e => by omega), ?_, hOb, fun k hk => HOv.out k (by rw [← Hob.out]; exact hk)⟩, ?_⟩
  all_goals first
    | (rw [← Hlen.out]; exact own_kept (own_kept Hown'.out kb (fun i hi hF => hvb' (by rw [hi, hF]))) kz (fun i hi hF => hvz (by rw [hi, hF])))
    | exact ((((hka.mono (fun _ _ h => h.elim)).trans' hk2 (fun i hi hvi => HOv.out i hvi)).trans' kb (fun i hi e => by rw [e]; exact hOb))).trans' kz (fun i hi e => by omega)

theorem lies {w : World} {v : Value} {o : Obj} {g n cap : Nat} (h : v.ownBlock = some g ∨ g = w.heap.size + 1) : ∀ k, (Value.slice (some ⟨g, 0, none⟩) n cap).ownBlock = some k → v.ownBlock = some k ∨ (w.drew.alloc o).heap.size ≤ k := by
  intro k hk
  obtain rfl : g = k := Option.some.inj hk
  rcases h with h | h
  · exact .inl h
  · right
    show (w.heap.push o).size ≤ g
    rw [Array.size_push]; omega

set_option maxRecDepth 100000 in
set_option maxHeartbeats 2000000 in
theorem wait_any {O : Nat → Prop} (b : Nat) (sd ns : Bool) (L : List On) (x : On) (w : World) (h : Ep O w b sd L) (hL : L.length ≤ 1000) :
    Calls Try.prog 27 #[.pointer (some ⟨b, 0, none⟩), aggO x, .bool ns] w fun e w' => e = .returned (.tuple #[]) ∧ Ep (fun k => O k ∨ w.heap.size ≤ k) w' b ns (L ++ [x]) ∧ Kept O w w' := by
  obtain ⟨ao, c, hb, hown, hOb, hOv, hvb⟩ := h.cells
  obtain ⟨len, hlen⟩ : ∃ len, len = L.length := ⟨_, rfl⟩
  have Hlen := Lib.hid hlen
  rw [← hlen] at hb hown hOv hvb hL
  have hbl := lt_of_heap hb
  obtain ⟨W, hW⟩ : ∃ W, W = w.alloc (blkO x) := ⟨_, rfl⟩
  have hkW : New w W := by rw [hW]; exact (Kept.refl _ _).alloc _
  have hB : W.heap[w.heap.size]? = some (blkO x) := by rw [hW]; exact heap_alloc_new _ _
  have hbW := hkW.heap hb (fun h => h)
  have HownW := Lib.hid (own_same hown hkW)
  have HOv := Lib.hid hOv
  have Hvb := Lib.hid hvb
  obtain ⟨i57, hi, hz0, hz1, hz2⟩ := info_parts info57
  obtain ⟨b0, b1, b2, b3, b4, b5, b6, b7⟩ := of8 hB
  have hb6 : (W.drew.alloc (blkO x)).heap[b]? = some (.cells #[.slice ao len c, .bool sd] 55 (0, 0)) := ((Kept.refl (fun _ => False) W).drew.alloc _).heap hbW (fun h => h)
  have hc6 := cell_blk (((Kept.refl (fun _ => False) W).alloc (blkO x)).heap hbW (fun h => h)) 0
  have hc7 := cell_blk hbW 0
  have hcL := lt_of_heap hbW
  have HW := Lib.hid hW
  clear hown hOv hvb hlen h hW
  go_enter Try.func27, Try.ntmps27
  go_wp2_with fail
  have hW2 := HW.out
  simp only [blkO] at hW2
  rw [← hW2]
  clear hW2
  go_region_law ((refine step_append_lies _ (by rfl) _ _ _ (by rfl) 0 57 i57 (aggO ⟨0, 0, 0, 0, 0, 0, 0, false⟩) 8 64 Try.underlying53 hi hz0 hz1 hz2 rfl (by decide) _ len (L.flatMap encO) (by rfl) (own_same HownW.out ((Kept.refl _ _).drew.alloc _)) ⟨W.heap.size, 0, none⟩ 1 1 (encO x) (by rfl) rfl (World.news_of_block (heap_alloc_new W (blkO x))) (encO_one1 x) (by decide) (by simp [maxLen]; omega) (by omega) (by simp) (W.heap.size + 1) (by simp) ?_; intro g5 cap5 w5 hown' hgr hat hlt5; have hb5 := (Kept.of_grown hgr).heap hb6 Hvb.out; have hc5 := cell_blk hb5 0; have hf5 := free_blk hb5 0; have hc51 := cell_blk hb5 1; have hf51 := free_blk hb5 1))
  all_goals refine bodyPost_end (results_none rfl _ _ _) rfl ?_
  all_goals have hid := lies (o := blkO x) (n := len + 1) (cap := cap5) hat
  all_goals have hkg := Kept.of_grown hgr
  all_goals have kb : Kept (fun k => k = b) w5 ((w5.setCell ⟨b, 0, none⟩ (.slice (some ⟨g5, 0, none⟩) (len + 1) cap5)).setCell ⟨b, 1, none⟩ (.bool ns)) := (Kept.refl (fun k => k = b) w5).setCell (.inr rfl) _ |>.setCell (.inr rfl) _
  all_goals have hkD : New w (W.drew.alloc (blkO x)) := (hkW.drew).alloc _
  all_goals have hvb' : (Value.slice (some ⟨g5, 0, none⟩) (len + 1) cap5).ownBlock ≠ some b := fun e => (hid b e).elim (fun h => Hvb.out h) (fun h => by have := hkD.size; omega)
  all_goals refine ⟨rfl, ⟨_, heap_setCell_same _ _ 1 _ _ _ (heap_setCell_same _ _ 0 _ _ _ hb5), ?_, .inl hOb, fun k hk => ?_⟩, (((hkD.mono (fun _ _ h => h.elim)).trans' hkg (fun i hi e => HOv.out i e))).trans' kb (fun i hi e => by rw [e]; exact hOb)⟩
  all_goals first
    | (rw [List.length_append, ← Hlen.out, encO_snoc]; exact own_kept hown' kb (fun i hi hF => hvb' (by rw [hi, hF])))
    | exact (hid k hk).imp (fun h => HOv.out k h) (fun h => by have := hkD.size; omega)

theorem cancel_any {O : Nat → Prop} (b : Nat) (sd : Bool) (L M : List On) (who : Int) (r : Bool) (w : World) (h : Ep O w b sd L) (hL : L.length ≤ 1000) (hM : L.filter (fun x => !(x.who == who)) = M) (hr : r = decide (M.length < L.length)) :
    Calls Try.prog 18 #[.pointer (some ⟨b, 0, none⟩), .int .i64 who] w fun e w' => e = .returned (.bool r) ∧ Ep O w' b sd M ∧ Kept O w w' := by
  obtain ⟨ao, c, hb, hown, hOb, hOv, hvb⟩ := h.cells
  have hbl := lt_of_heap hb
  have hk1 : New w (w.alloc (.cells #[.int .i64 who] 3)) := (Kept.refl _ _).alloc _
  have hdel := delete_any (.slice ao L.length c) who w.heap.size L (w.alloc (.cells #[.int .i64 who] 3)) (heap_alloc_new _ _) (own_same hown hk1) (by omega) M hM
  obtain ⟨len, hlen⟩ : ∃ len, len = L.length := ⟨_, rfl⟩
  obtain ⟨ml, hml⟩ : ∃ ml, ml = M.length := ⟨_, rfl⟩
  have Hml := Lib.hid hml
  rw [← hlen] at hb hdel hOv hvb hL
  rw [← hml, ← hlen] at hr
  have hb1 := hk1.heap hb (fun h => h)
  have c0 := cell_blk hb 0
  have Hdel := Lib.hid hdel
  have HOv := Lib.hid hOv
  have Hvb := Lib.hid hvb
  subst hr
  clear hown hOv hvb h hM hlen hml hdel
  go_enter Try.func18, Try.ntmps18
  go_wp2_with fail
  refine Hdel.out.mono ?_
  rintro e w2 ⟨v', rfl, hown', hid, hk2⟩
  have hb2 := hk2.heap hb1 Hvb.out
  have d0 := cell_blk hb2 0
  have f0 := free_blk hb2 0
  obtain ⟨ao', c', hv', -⟩ := Src.of_own hown'
  rw [← Hml.out] at hv'
  have Hown' := Lib.hid hown'
  have Hid' := Lib.hid hid
  have Hv' := Lib.hid hv'
  clear hown' hid
  rw [hv']
  clear hv'
  go_wp2_with fail
  go_ret
  rw [← Hv'.out]
  have hst := heap_setCell_same w2 b 0 _ _ v' hb2
  have hvb' : v'.ownBlock ≠ some b := fun e => Hvb.out (Hid'.out b e)
  refine ⟨ret_bool (by simp), ⟨v', hst, ?_, hOb, fun k hk => HOv.out k (Hid'.out k hk)⟩, ?_⟩
  · exact own_kept Hown'.out ((Kept.refl (fun k => k = b) w2).setCell (.inr rfl) _) (fun i hi hF => hvb' (by rw [hi, hF]))
  · exact ((hk1.mono (fun _ _ h => h.elim)).trans' hk2 (fun i hi hvi => HOv.out i hvi)).setCell (.inr hOb) _
end Go.Proofs.Ytanongcaokldmaa

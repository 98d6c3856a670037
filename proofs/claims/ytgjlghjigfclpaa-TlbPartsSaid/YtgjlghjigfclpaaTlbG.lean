/- Package tlb: Fill. -/
import Derived.Test.YtgjlghjigfclpaaTlbF
import Derived.Deep.AppendLies
import Derived.Deep.RegionLaw
set_option linter.all false
namespace Go.Proofs.Ytgjlghjigfclpaa
open Go.RowKit

def fillE (room : Nat) (L : List Ln) (x : Ln) : List Ln :=
  if (dropP x.sp x.pg L).length = L.length ∧ room ≤ L.length then L.tail ++ [x] else dropP x.sp x.pg L ++ [x]

theorem drop2so_any {O : Nat → Prop} (b room : Nat) (L M : List Ln) (so : Value) (s p : Int) (d : Nat) (w : World) (h : Tb O w b room L) (hs : Asks w so [.sp s, .pg p]) (hL : L.length ≤ 1000)
    (hM : dropP s p L = M) (hd : M.length + d = L.length) :
    Calls Try.prog 26 #[.pointer (some ⟨b, 0, none⟩), so] w fun e w' => e = .returned (.int .i64 d) ∧ Tb O w' b room M ∧ Kept O w w' :=
  drop_any b room L M so _ d w h hs hL (by rw [filter2]; exact hM) hd

/-- What the first lines of a TLB's own value are. -/
theorem Tb.cells {O : Nat → Prop} {w : World} {b room : Nat} {L : List Ln} (h : Tb O w b room L) : ∃ ao c, w.heap[b]? = some (.cells #[.slice ao L.length c, .int .i64 room] 54 (0, 0)) ∧ w.ownsRow 0 34 4 (.slice ao L.length c) L.length (L.flatMap encL) ∧ O b ∧ (∀ k, (Value.slice ao L.length c).ownBlock = some k → O k) ∧ (Value.slice ao L.length c).ownBlock ≠ some b := by
  obtain ⟨v, hb, hown, hOb, hOv⟩ := h
  have hvb : v.ownBlock ≠ some b := by
    intro e
    obtain ⟨cc, hcc⟩ := own_type hown e
    exact heap_ne hb hcc (by decide) rfl
  obtain ⟨ao, c, rfl, -⟩ := Src.of_own hown
  exact ⟨ao, c, hb, hown, hOb, hOv, hvb⟩

/-- Nothing goes: all is as it was. -/
theorem delete_none (so v : Value) (ps : List Ask) (bb : Nat) (L : List Ln) (w : World) (hs : Asks w so ps) (hb : w.heap[bb]? = some (.cells #[so] 62 (0, 0))) (hown : w.ownsRow 0 34 4 v L.length (L.flatMap encL)) (hL : L.length ≤ 1000000)
    (hn : ∀ x ∈ L, ps.all (fun p => p.ok x) = false) :
    Calls Try.prog 32 #[v, .func (.func 33) #[] #[.pointer (some ⟨bb, 0, none⟩)]] w fun e w' => e = .returned v ∧ New w w' := by
  have hidx := index39_any so v ps bb L w hs hb hown hL
  clear hown
  have Hn := Lib.hid hn
  clear hn
  go_enter Try.func32, Try.ntmps32
  go_wp2_with fail
  refine hidx.mono ?_
  rintro e w1 ⟨r, rfl, hk1, ⟨rfl, h1⟩ | ⟨k, x, rfl, h1, h2, h3⟩⟩
  · clear h1
    go_wp2
    go_ret
    exact ⟨rfl, hk1⟩
  · have := Hn.out x (List.mem_of_getElem? h1)
    rw [this] at h2; cases h2

theorem setCell_heap {w : World} {b : Nat} {c : Array Value} {T : TypeId} {i : Nat} {v : Value} (h : w.heap[b]? = some (.cells c T (0, 0))) (hv : c[i]? = some v) : New w (w.setCell ⟨b, i, none⟩ v) := by
  have k : Kept (fun k => k = b) w (w.setCell ⟨b, i, none⟩ v) := (Kept.refl (fun k => k = b) w).setCell (.inr rfl) _
  refine ⟨k.os, k.tape, k.output, k.size, fun q hq _ => ?_⟩
  by_cases hb : q = b
  · subst hb
    rw [heap_setCell_same w q i c T v h, h]
    have hi := (Array.getElem?_eq_some_iff.1 hv)
    obtain ⟨hi, rfl⟩ := hi
    have e : c.setIfInBounds i c[i] = c := by
      apply Array.ext_getElem?
      intro j
      rw [Array.getElem?_setIfInBounds]
      split
      · rename_i hj; subst hj; simp [hi]
      · rfl
    rw [e]
  · exact k.block q hq hb

theorem drop_none {O : Nat → Prop} (b room : Nat) (L : List Ln) (so : Value) (ps : List Ask) (w : World) (h : Tb O w b room L) (hs : Asks w so ps) (hL : L.length ≤ 1000)
    (hn : ∀ x ∈ L, ps.all (fun p => p.ok x) = false) :
    Calls Try.prog 26 #[.pointer (some ⟨b, 0, none⟩), so] w fun e w' => e = .returned (.int .i64 0) ∧ New w w' := by
  obtain ⟨v, hb, hown, hOb, hOv⟩ := h
  have hbl := lt_of_heap hb
  obtain ⟨ao, c, rfl, -⟩ := Src.of_own hown
  have hdel := delete_none so _ ps w.heap.size L (w.alloc (.cells #[so] 62)) (hs.same ((Kept.refl _ _).alloc _)) (heap_alloc_new _ _) (own_same hown ((Kept.refl _ _).alloc _)) (by omega) hn
  have hb1 : (w.alloc (.cells #[so] 62)).heap[b]? = some (.cells #[.slice ao L.length c, .int .i64 room] 54 (0, 0)) := ((Kept.refl (fun _ => False) w).alloc _).heap hb (fun h => h)
  have hc0 : w.cell? ⟨b, 0, none⟩ = some (.slice ao L.length c) := cell_blk hb 0
  obtain ⟨g9, c9, hso, -⟩ := hs
  obtain ⟨len, hlen⟩ : ∃ len, len = L.length := ⟨_, rfl⟩
  have Hdel := Lib.hid hdel
  rw [← hlen] at hL hc0 Hdel hb1
  clear hown hlen hdel hn hOv hb
  subst hso
  go_enter Try.func26, Try.ntmps26
  go_wp2_with fail
  refine Hdel.out.mono ?_
  rintro e w2 ⟨rfl, hk2⟩
  have hb2 := hk2.heap hb1 (fun h => h)
  have hc2 : w2.cell? ⟨b, 0, none⟩ = some (.slice ao len c) := cell_blk hb2 0
  have hf2 := free_blk hb2 0
  go_wp2_with fail
  go_ret
  exact ⟨rfl, (((Kept.refl _ w).alloc _).trans hk2).trans (setCell_heap hb2 rfl)⟩

theorem dropP_none {s p : Int} {L : List Ln} (h : dropP s p L = L) : ∀ x ∈ L, [Ask.sp s, .pg p].all (fun q => q.ok x) = false := by
  intro x hx
  have := List.filter_eq_self.1 h x hx
  rw [all2]
  simpa only [Bool.not_eq_true'] using this

theorem Tb.appended {O : Nat → Prop} {W Wd w5 : World} {b room base : Nat} {M : List Ln} {x : Ln} {vo v' : Value} (hb : W.heap[b]? = some (.cells #[vo, .int .i64 room] 54 (0, 0))) (hOb : O b) (hOv : ∀ k, vo.ownBlock = some k → O k) (hvb : vo.ownBlock ≠ some b)
    (hWd : New W Wd) (hgr : Wd.grownBy w5 vo.ownBlock) (hid : ∀ k, v'.ownBlock = some k → vo.ownBlock = some k ∨ Wd.heap.size ≤ k) (hown' : w5.ownsRow 0 34 4 v' (M.length + 1) ((M ++ [x]).flatMap encL)) (hbase : base ≤ W.heap.size) :
    Tb (fun k => O k ∨ base ≤ k) (w5.setCell ⟨b, 0, none⟩ v') b room (M ++ [x]) ∧ Kept O W (w5.setCell ⟨b, 0, none⟩ v') := by
  have hkg := Kept.of_grown hgr
  have hb5 := hkg.heap (hWd.heap hb (fun h => h)) hvb
  have hbl := lt_of_heap hb
  have hvb' : v'.ownBlock ≠ some b := by
    intro e
    rcases hid b e with h | h
    · exact hvb h
    · have := hWd.size; omega
  refine ⟨⟨v', heap_setCell_same w5 b 0 _ _ v' hb5, ?_, .inl hOb, fun k hk => ?_⟩, ?_⟩
  · rw [List.length_append]
    exact own_kept hown' ((Kept.refl (fun k => k = b) w5).setCell (.inr rfl) _) (fun i hi hF => hvb' (by rw [hi, hF]))
  · rcases hid k hk with h | h
    · exact .inl (hOv k h)
    · have := hWd.size
      exact .inr (by omega)
  · exact ((hWd.mono (fun _ _ h => h.elim)).trans (hkg.mono (fun i _ hi => hOv i hi))).setCell (.inr hOb) _

theorem lies {w : World} {v : Value} {o : Obj} {g n cap : Nat} (h : v.ownBlock = some g ∨ g = w.heap.size + 1) : ∀ k, (Value.slice (some ⟨g, 0, none⟩) n cap).ownBlock = some k → v.ownBlock = some k ∨ (w.drew.alloc o).heap.size ≤ k := by
  intro k hk
  obtain rfl : g = k := Option.some.inj hk
  rcases h with h | h
  · exact .inl h
  · right
    show (w.heap.push o).size ≤ g
    rw [Array.size_push]; omega
theorem encL_snoc (L : List Ln) (x : Ln) : (L ++ [x]).flatMap encL = L.flatMap encL ++ encL x := by simp
theorem encL_one1 (x : Ln) : ∀ u ∈ encL x, u.oneCell' = true := by
  intro u hu
  simp [encL] at hu
  rcases hu with rfl | rfl | rfl | rfl <;> rfl
theorem six {w W : World} {q b room len c : Nat} {x : Ln} {ao : Option Addr} (h : W.heap[q]? = some (blkL x)) (k : New w W) (h0 : w.cell? ⟨b, 0, none⟩ = some (.slice ao len c)) (h1 : w.cell? ⟨b, 1, none⟩ = some (.int .i64 room)) :
    W.cell? ⟨q, 0, none⟩ = some (.int .i64 x.sp) ∧ W.cell? ⟨q, 1, none⟩ = some (.int .i64 x.pg) ∧ W.cell? ⟨b, 0, none⟩ = some (.slice ao len c) ∧ W.cell? ⟨b, 1, none⟩ = some (.int .i64 room) :=
  ⟨cell_blk h 0, cell_blk h 1, cell_kept k h0 (fun h => h), cell_kept k h1 (fun h => h)⟩

set_option maxRecDepth 100000 in
theorem fill_c {O : Nat → Prop} (b room : Nat) (L : List Ln) (x : Ln) (w : World) (h : Tb O w b room L) (hL : L.length ≤ 1000) (hM : dropP x.sp x.pg L = L) (hr : L.length < room) :
    Calls Try.prog 12 #[.pointer (some ⟨b, 0, none⟩), aggL x] w fun e w' => e = .returned (.tuple #[]) ∧ Tb (fun k => O k ∨ w.heap.size ≤ k) w' b room (L ++ [x]) ∧ Kept O w w' := by
  have Hh := Lib.hid h
  have Hno := Lib.hid (dropP_none hM)
  obtain ⟨ao, c, hb, hown, hOb, hOv, hvb⟩ := h.cells
  have hc0 : w.cell? ⟨b, 0, none⟩ = some (.slice ao L.length c) := cell_blk hb 0
  have hc1 : w.cell? ⟨b, 1, none⟩ = some (.int .i64 room) := cell_blk hb 1
  have Hb := Lib.hid hb
  have Hown := Lib.hid hown
  have HOv := Lib.hid hOv
  have Hvb := Lib.hid hvb
  have hbl := lt_of_heap hb
  obtain ⟨len, hlen⟩ : ∃ len, len = L.length := ⟨_, rfl⟩
  have Hlen := Lib.hid hlen
  rw [← hlen] at hL hc0 hr
  clear h hM hb hown hOv hvb hlen
  have hk0 : New w (w.alloc (blkL x)).drew := ((Kept.refl _ _).alloc _).drew
  have hB0 : (w.alloc (blkL x)).drew.heap[w.heap.size]? = some (blkL x) := heap_alloc_new w (blkL x)
  obtain ⟨i34, hi, hz0, hz1, hz2⟩ := info_parts info34
  go_enter Try.func12, Try.ntmps12
  go_wp2_with fail
  have hnr : ¬ ((room : Int) ≤ len) := by omega
  go_region_held3 (fun W => W.cell? ⟨w.heap.size, 0, none⟩ = some (.int .i64 x.sp) ∧ W.cell? ⟨w.heap.size, 1, none⟩ = some (.int .i64 x.pg) ∧ W.cell? ⟨b, 0, none⟩ = some (.slice ao len c) ∧ W.cell? ⟨b, 1, none⟩ = some (.int .i64 room))
    (first | exact six hB0 hk0 hc0 hc1 | exact six hB1 hk01 hc0 hc1 | exact six hB2 hk02 hc0 hc1 | exact six (((Kept.refl (fun _ => False) _).alloc _).heap hB2 (fun h => h)) (hk02.alloc _) hc0 hc1 | exact six hB3 hk03 hc0 hc1)
    (first
    | (go_at_call 27; refine (of_any x.sp _).mono ?_; rintro e w1 ⟨f1, rfl, hf1, hk1⟩; obtain ⟨q1, rfl, hq1⟩ := hf1; have hB1 := hk1.heap hB0 (fun h => h); have hk01 := hk0.trans hk1)
    | (go_at_call 28; refine (at_any x.pg _).mono ?_; rintro e w2 ⟨f2, rfl, hf2, hk2⟩; obtain ⟨q2, rfl, hq2⟩ := hf2; have hB2 := hk2.heap hB1 (fun h => h); have hk02 := hk01.trans hk2; have hq1' := hk2.heap hq1 (fun h => h))
    | (go_at_call 26; refine (drop_none b room L _ [.sp x.sp, .pg x.pg] _ ((Hh.out.same hk02).alloc _) (asks2 ⟨q1, rfl, hq1'⟩ ⟨q2, rfl, hq2⟩) (by have := Hlen.out; omega) Hno.out).mono ?_; rintro e w3 ⟨rfl, hk3⟩; have hB3 := hk3.heap (((Kept.refl (fun _ => False) _).alloc _).heap hB2 (fun h => h)) (fun h => h); have hk03 := (hk02.alloc _).trans hk3))
  have hbW := hk03.heap Hb.out (fun h => h)
  have HownW := Lib.hid (own_same Hown.out hk03)
  rw [← Hlen.out] at hbW HownW Hvb HOv
  obtain ⟨e0, e1, e2, e3⟩ := six hB3 hk03 hc0 hc1
  have eszw := hk03.size
  clear hB0 hB1 hB2 hq1 hq2 hq1'
  obtain ⟨b0, b1, b2, b3⟩ := of4 hB3
  have hlit := Src.lit w3.drew #[.int .i64 x.sp, .int .i64 x.pg, .int .i64 x.fr, .int .i64 x.ri] 34 1 4 rfl
  have hb6 : (w3.drew.alloc (blkL x)).heap[b]? = some (.cells #[.slice ao len c, .int .i64 room] 54 (0, 0)) := ((Kept.refl (fun _ => False) w3).drew.alloc _).heap hbW (fun h => h)
  have hc6 := cell_blk (((Kept.refl (fun _ => False) w3).alloc (blkL x)).heap hbW (fun h => h)) 0
  have hc7 := cell_blk hbW 0
  go_wp2_with fail
  go_region_law ((refine step_append_lies _ (by rfl) _ _ _ (by rfl) 0 34 i34 (aggL ⟨0, 0, 0, 0⟩) 4 32 Try.underlying27 hi hz0 hz1 hz2 rfl (by decide) _ len (L.flatMap encL) (by rfl) (own_same HownW.out ((Kept.refl _ _).drew.alloc _)) ⟨w3.heap.size, 0, none⟩ 1 1 (encL x) (by rfl) rfl (World.news_of_block (heap_alloc_new w3 (blkL x))) (encL_one1 x) (by decide) (by simp [maxLen]; omega) (by omega) (by simp) (w3.heap.size + 1) (by simp) ?_; intro g5 cap5 w5 hown' hgr hat hlt5; have hb5 := (Kept.of_grown hgr).heap hb6 Hvb.out; have hc5 := cell_blk hb5 0; have hf5 := free_blk hb5 0))
  all_goals refine bodyPost_end (results_none rfl _ _ _) rfl ?_
  all_goals have hfin := Tb.appended (x := x) (M := L) hbW hOb HOv.out Hvb.out ((Kept.refl _ w3).drew.alloc _) hgr (lies hat) (by rw [← Hlen.out, encL_snoc]; exact hown') eszw
  all_goals exact ⟨rfl, hfin.1, (hk03.mono (fun _ _ h => h.elim)).trans hfin.2⟩

end Go.Proofs.Ytgjlghjigfclpaa

/- Package notify: Wait, Cancel; the calls whose answers the document fixes. -/
import Derived.Test.YtaaoegfdhpploaaNotC
set_option linter.all false
namespace Go.Proofs.Ytaaoegfdhpploaa
open Go.RowKit

theorem wait_there {O : Nat → Prop} (b : Nat) (wd : Int) (is : Bool) (L : List Int) (who : Int) (wa : Bool) (w : World) (h : Nt O w b wd is L) (hL : L.length ≤ 1000) (hw : who ∈ L) :
    Calls Try.prog 11 #[.pointer (some ⟨b, 0, none⟩), .int .i64 who, .bool wa] w fun e w' => e = .returned (.tuple #[.int .u64 0, .bool false, .int .i64 120]) ∧ w = w' := by
  obtain ⟨v, hb, hown, hOb, hOv⟩ := h
  have c2 := cell_blk hb 2
  have hc := contains_any v who L true w (Src.of_own hown) (by omega) (by simp [hw])
  have Hc := Lib.hid hc
  clear hown hc hw
  go_enter Try.func11, Try.ntmps11
  go_wp2_with fail
  refine Hc.out.mono ?_
  rintro e w1 ⟨rfl, rfl⟩
  go_wp2_with fail
  refine bodyPost_ret (results_tmp3 rfl _ _ _) rfl ?_
  exact ⟨rfl, rfl⟩

theorem wait_word {O : Nat → Prop} (b : Nat) (wd : Int) (L : List Int) (who : Int) (wa : Bool) (w : World) (h : Nt O w b wd true L) (hL : L.length ≤ 1000) (hw : who ∉ L) :
    Calls Try.prog 11 #[.pointer (some ⟨b, 0, none⟩), .int .i64 who, .bool wa] w fun e w' => e = .returned (.tuple #[.int .u64 wd, .bool true, .int .i64 0]) ∧ Nt O w' b 0 false L ∧ Kept O w w' := by
  obtain ⟨ao, c, hb, hown, hOb, hOv, hvb⟩ := h.cells
  have c0 := cell_blk hb 0
  have c1 := cell_blk hb 1
  have c2 := cell_blk hb 2
  have f0 := free_blk hb 0
  have f1 := free_blk hb 1
  have Hown := Lib.hid hown
  have HOv := Lib.hid hOv
  have Hvb := Lib.hid hvb
  have hc := contains_any _ who L false w (Src.of_own hown) (by omega) (by simp [hw])
  have Hc := Lib.hid hc
  clear hown hOv hvb h hc hw
  go_enter Try.func11, Try.ntmps11
  go_wp2_with fail
  refine Hc.out.mono ?_
  rintro e w1 ⟨rfl, rfl⟩
  go_wp2_with fail
  refine bodyPost_ret (results_tmp3 rfl _ _ _) rfl ?_
  have hk : Kept (fun k => k = b) w ((w.setCell ⟨b, 0, none⟩ (.int .u64 0)).setCell ⟨b, 1, none⟩ (.bool false)) := (Kept.refl (fun k => k = b) w).setCell (.inr rfl) _ |>.setCell (.inr rfl) _
  exact ⟨rfl, ⟨_, heap_setCell_same _ _ 1 _ _ _ (heap_setCell_same _ _ 0 _ _ _ hb), own_kept Hown.out hk (fun i hi hF => Hvb.out (by rw [hi, hF])), hOb, HOv.out⟩, hk.mono (fun i _ hi => by rw [hi]; exact hOb)⟩

theorem wait_no {O : Nat → Prop} (b : Nat) (wd : Int) (L : List Int) (who : Int) (w : World) (h : Nt O w b wd false L) (hL : L.length ≤ 1000) (hw : who ∉ L) :
    Calls Try.prog 11 #[.pointer (some ⟨b, 0, none⟩), .int .i64 who, .bool false] w fun e w' => e = .returned (.tuple #[.int .u64 0, .bool false, .int .i64 0]) ∧ w = w' := by
  obtain ⟨v, hb, hown, hOb, hOv⟩ := h
  have c1 := cell_blk hb 1
  have c2 := cell_blk hb 2
  have hc := contains_any v who L false w (Src.of_own hown) (by omega) (by simp [hw])
  have Hc := Lib.hid hc
  clear hown hc hw
  go_enter Try.func11, Try.ntmps11
  go_wp2_with fail
  refine Hc.out.mono ?_
  rintro e w1 ⟨rfl, rfl⟩
  go_wp2_with fail
  refine bodyPost_ret (results_tmp3 rfl _ _ _) rfl ?_
  exact ⟨rfl, rfl⟩

theorem wait_line {O : Nat → Prop} (b : Nat) (wd : Int) (L : List Int) (who : Int) (w : World) (h : Nt O w b wd false L) (hL : L.length ≤ 1000) (hw : who ∉ L) :
    Calls Try.prog 11 #[.pointer (some ⟨b, 0, none⟩), .int .i64 who, .bool true] w fun e w' => e = .returned (.tuple #[.int .u64 0, .bool false, .int .i64 0]) ∧ Nt (fun k => O k ∨ w.heap.size ≤ k) w' b wd false (L ++ [who]) ∧ Kept O w w' := by
  obtain ⟨ao, c, hb, hown, hOb, hOv, hvb⟩ := h.cells
  have hc := contains_any _ who L false w (Src.of_own hown) (by omega) (by simp [hw])
  obtain ⟨len, hlen⟩ : ∃ len, len = L.length := ⟨_, rfl⟩
  have Hlen := Lib.hid hlen
  rw [← hlen] at hb hown hOv hvb hc hL
  have c1 := cell_blk hb 1
  have c2 := cell_blk hb 2
  have hbl := lt_of_heap hb
  have HOv := Lib.hid hOv
  have Hvb := Lib.hid hvb
  have Hc := Lib.hid hc
  obtain ⟨i3, hi, hz0, hz1, hz2⟩ := info_parts info3
  have hb2 : (w.alloc (.cells #[.int .i64 who] 3)).heap[b]? = some (.cells #[.int .u64 wd, .bool false, .slice ao len c] 48 (0, 0)) := ((Kept.refl (fun _ => False) w).alloc _).heap hb (fun h => h)
  have Hown2 := Lib.hid (own_same hown ((Kept.refl _ w).alloc (.cells #[.int .i64 who] 3)))
  have Hlit := Lib.hid (Src.lit w #[.int .i64 who] 3 1 1 rfl)
  clear hown hOv hvb h hc hw hlen
  go_enter Try.func11, Try.ntmps11
  go_wp2_with fail
  refine Hc.out.mono ?_
  rintro e w1 ⟨rfl, rfl⟩
  go_wp2_with (at_builtin; refine wpList_append_src2 rfl _ _ 37 rfl 0 3 i3 (.int .i64 0) 1 8 Try.underlying37 hi hz0 hz1 hz2 rfl (by decide) (.slice ao len c) len (vI L) rfl Hown2.out _ 1 _ rfl Hlit.out (by simp [Value.oneCell']) (by unfold maxLen; omega) (by omega) (by simp) ?_; intro v' w5 hown' hgr hid; have hkg := Kept.of_grown hgr; have hb5 := hkg.heap hb2 Hvb.out; have hc5 := cell_blk hb5 2; have hf5 := free_blk hb5 2; obtain ⟨ao5, c5, hv5, _⟩ := Src.of_own hown'; rw [hv5])
  refine bodyPost_ret (results_tmp3 rfl _ _ _) rfl ?_
  rw [← hv5]
  have hst := heap_setCell_same w5 b 2 _ _ v' hb5
  have hvb' : v'.ownBlock ≠ some b := by
    intro e
    rcases hid b e with h | h
    · exact Hvb.out h
    · simp at h; omega
  refine ⟨rfl, ⟨v', hst, ?_, .inl hOb, fun k hk => ?_⟩, ?_⟩
  · have h9 := own_kept hown' ((Kept.refl (fun k => k = b) w5).setCell (.inr rfl) v' (p := ⟨b, 2, none⟩)) (fun i hi hF => hvb' (by rw [hi, hF]))
    rw [Hlen.out] at h9
    simpa [vI] using h9
  · rcases hid k hk with h | h
    · exact .inl (HOv.out k h)
    · right; simp at h; omega
  · exact (((Kept.refl O w).alloc _).trans' hkg (fun i hi hv => HOv.out i hv)).setCell (.inr hOb) _

theorem cancel_any {O : Nat → Prop} (b : Nat) (wd : Int) (is : Bool) (L M : List Int) (who : Int) (r : Bool) (w : World) (h : Nt O w b wd is L) (hL : L.length ≤ 1000) (hM : L.filter (fun y => !(y == who)) = M) (hr : r = decide (M.length < L.length)) :
    Calls Try.prog 15 #[.pointer (some ⟨b, 0, none⟩), .int .i64 who] w fun e w' => e = .returned (.bool r) ∧ Nt O w' b wd is M ∧ Kept O w w' := by
  obtain ⟨ao, c, hb, hown, hOb, hOv, hvb⟩ := h.cells
  have hbl := lt_of_heap hb
  have hk1 : New w (w.alloc (.cells #[.int .i64 who] 3)) := (Kept.refl _ _).alloc _
  have hdel := delete_any (.slice ao L.length c) who w.heap.size L (w.alloc (.cells #[.int .i64 who] 3)) (heap_alloc_new _ _) (fun e => by have := own_size hown e; omega) (own_same hown hk1) (by omega) M hM
  obtain ⟨len, hlen⟩ : ∃ len, len = L.length := ⟨_, rfl⟩
  obtain ⟨ml, hml⟩ : ∃ ml, ml = M.length := ⟨_, rfl⟩
  have Hml := Lib.hid hml
  rw [← hlen] at hb hdel hOv hvb hL
  rw [← hml, ← hlen] at hr
  have hb1 := hk1.heap hb (fun h => h)
  have c2 := cell_blk hb 2
  have Hdel := Lib.hid hdel
  have HOv := Lib.hid hOv
  have Hvb := Lib.hid hvb
  subst hr
  clear hown hOv hvb h hM hlen hml hdel
  go_enter Try.func15, Try.ntmps15
  go_wp2_with fail
  refine Hdel.out.mono ?_
  rintro e w2 ⟨v', rfl, hown', hid, hk2⟩
  have hb2 := hk2.heap hb1 Hvb.out
  have d2 := cell_blk hb2 2
  have f2 := free_blk hb2 2
  obtain ⟨ao', c', hv', -⟩ := Src.of_own hown'
  rw [← Hml.out] at hv'
  have Hown' := Lib.hid hown'
  have Hid' := Lib.hid hid
  have Hv' := Lib.hid hv'
  clear hown' hid
  rw [hv']
  clear hv'
  go_wp2_with fail
  go_ret
  rw [← Hv'.out]
  have hst := heap_setCell_same w2 b 2 _ _ v' hb2
  have hvb' : v'.ownBlock ≠ some b := fun e => Hvb.out (Hid'.out b e)
  refine ⟨ret_bool (by simp), ⟨v', hst, ?_, hOb, fun k hk => HOv.out k (Hid'.out k hk)⟩, ?_⟩
  · exact own_kept Hown'.out ((Kept.refl (fun k => k = b) w2).setCell (.inr rfl) _) (fun i hi hF => hvb' (by rw [hi, hF]))
  · exact ((hk1.mono (fun _ _ h => h.elim)).trans' hk2 (fun i hi hvi => HOv.out i hvi)).setCell (.inr hOb) _

set_option maxRecDepth 100000 in
set_option maxHeartbeats 2000000 in
theorem fixed_any (w : World) : Calls Try.prog 13 #[] w fun e w' => e = .returned (.bool true) ∧ New w w' := by
  go_enter Try.func13, Try.ntmps13
  go_wp2_with fail
  refine (new_any w).mono ?_
  rintro e w1 ⟨rfl, hN, hk1⟩
  obtain ⟨b, hb⟩ : ∃ b, b = w.heap.size := ⟨_, rfl⟩
  have Hb := Lib.hid hb
  have hbO : ∀ k, b ≤ k → w.heap.size ≤ k := fun k hk => by omega
  rw [← hb] at hN ⊢
  clear hb
  go_wp2_with fail
  refine (signal_none b 0 false 1 1 w1 hN (by decide)).mono ?_
  rintro e w2 ⟨rfl, hN2, hk2⟩
  have hk := hk1.new hk2 hbO
  clear hN hk1 hk2
  go_wp2_with fail
  refine (signal_none b 1 true 4 5 w2 hN2 (by decide)).mono ?_
  rintro e w3 ⟨rfl, hN3, hk3⟩
  replace hk := hk.new hk3 hbO
  clear hN2 hk3
  go_wp2_with fail
  refine (wait_word b 5 [] 9 true w3 hN3 (by decide) (by decide)).mono ?_
  rintro e w4 ⟨rfl, hN4, hk4⟩
  replace hk := hk.new hk4 hbO
  clear hN3 hk4
  go_wp2_with fail
  refine (wait_line b 0 [] 9 w4 hN4 (by decide) (by decide)).mono ?_
  rintro e w5 ⟨rfl, hN5, hk5⟩
  have hN5' : Nt (fun k => b ≤ k) w5 b 0 false [9] := hN5.mono (fun k hk' => by have := hk.size; have := Hb.out; omega)
  replace hk := hk.new hk5 hbO
  clear hN4 hk5 hN5
  go_wp2_with fail
  refine (wait_there b 0 false [9] 9 true w5 hN5' (by decide) (by decide)).mono ?_
  rintro e w6 ⟨rfl, rfl⟩
  go_wp2_with fail
  refine (signal_who b 0 false 9 [] 2 _ hN5' (by decide)).mono ?_
  rintro e w6 ⟨rfl, hN6, hk6⟩
  replace hk := hk.new hk6 hbO
  clear hN5' hk6
  go_wp2_with fail
  refine (word_any b 0 false [] w6 hN6).mono ?_
  rintro e w7 ⟨rfl, hk7⟩
  have hN7 := hN6.same hk7
  replace hk := hk.trans hk7
  clear hN6 hk7
  go_wp2_with fail
  refine (waits_any b 0 false [] w7 hN7 (by decide)).mono ?_
  rintro e w8 ⟨v8, rfl, hown8, hk8⟩
  obtain ⟨ao8, c8, rfl, -⟩ := Src.of_own hown8
  have hN8 := hN7.same hk8
  replace hk := hk.trans hk8
  clear hN7 hk8 hown8
  go_wp2_with fail
  refine (cancel_any b 0 false [] [] 9 false w8 hN8 (by decide) (by decide) (by decide)).mono ?_
  rintro e w9 ⟨rfl, hN9, hk9⟩
  replace hk := hk.new hk9 hbO
  go_wp2_with fail
  go_ret
  exact ⟨rfl, hk⟩
end Go.Proofs.Ytaaoegfdhpploaa

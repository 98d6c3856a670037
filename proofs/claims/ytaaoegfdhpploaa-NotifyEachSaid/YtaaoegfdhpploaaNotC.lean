/- Package notify: its calls on a word, a flag and the list of those that wait. -/
import Derived.Test.YtaaoegfdhpploaaNotB
import Derived.Deep.RegionHeld3
set_option linter.all false
namespace Go.Proofs.Ytaaoegfdhpploaa
open Go.RowKit

def Nt (O : Nat → Prop) (w : World) (b : Nat) (wd : Int) (is : Bool) (L : List Int) : Prop :=
  ∃ v, w.heap[b]? = some (.cells #[.int .u64 wd, .bool is, v] 48 (0, 0)) ∧ w.ownsRow 0 3 1 v L.length (vI L) ∧ O b ∧ ∀ k, v.ownBlock = some k → O k

section
variable {O O' F : Nat → Prop} {w w' : World} {b : Nat} {wd : Int} {is : Bool} {L : List Int}
theorem Nt.mono (h : Nt O w b wd is L) (hO : ∀ k, O k → O' k) : Nt O' w b wd is L := let ⟨v, h1, h2, h3, h4⟩ := h; ⟨v, h1, h2, hO _ h3, fun k hk => hO k (h4 k hk)⟩
theorem Nt.kept (h : Nt O w b wd is L) (k : Kept F w w') (hF : ∀ i, O i → ¬ F i) : Nt O w' b wd is L :=
  let ⟨v, h1, h2, h3, h4⟩ := h; ⟨v, k.heap h1 (hF _ h3), own_kept h2 k (fun i hi => hF i (h4 i hi)), h3, h4⟩
theorem Nt.same (h : Nt O w b wd is L) (k : New w w') : Nt O w' b wd is L := h.kept k (fun _ _ h => h)
theorem Nt.alloc (h : Nt O w b wd is L) (o : Obj) : Nt O (w.alloc o) b wd is L := h.same ((Kept.refl _ _).alloc o)
theorem Nt.sized (h : Nt O w b wd is L) : Nt (fun k => O k ∧ k < w.heap.size) w b wd is L :=
  let ⟨v, h1, h2, h3, h4⟩ := h; ⟨v, h1, h2, ⟨h3, lt_of_heap h1⟩, fun k hk => ⟨h4 k hk, own_size h2 hk⟩⟩
theorem Nt.cells (h : Nt O w b wd is L) : ∃ ao c, w.heap[b]? = some (.cells #[.int .u64 wd, .bool is, .slice ao L.length c] 48 (0, 0)) ∧ w.ownsRow 0 3 1 (.slice ao L.length c) L.length (vI L) ∧ O b ∧ (∀ k, (Value.slice ao L.length c).ownBlock = some k → O k) ∧ (Value.slice ao L.length c).ownBlock ≠ some b := by
  obtain ⟨v, hb, hown, hOb, hOv⟩ := h
  have hvb : v.ownBlock ≠ some b := by
    intro e
    obtain ⟨cc, hcc⟩ := own_type hown e
    exact heap_ne hb hcc (by decide) rfl
  obtain ⟨ao, c, rfl, -⟩ := Src.of_own hown
  exact ⟨ao, c, hb, hown, hOb, hOv, hvb⟩
end

theorem new_any (w : World) : Calls Try.prog 9 #[] w fun e w' => e = .returned (.pointer (some ⟨w.heap.size, 0, none⟩)) ∧ Nt (fun k => w.heap.size ≤ k) w' w.heap.size 0 false [] ∧ New w w' := by
  go_enter Try.func9, Try.ntmps9
  go_wp2
  go_ret
  exact ⟨rfl, ⟨_, heap_alloc_new _ _, ⟨by simp, .inl ⟨rfl, rfl⟩⟩, Nat.le_refl _, fun k hk => by cases hk⟩, (Kept.refl _ _).alloc _⟩

theorem word_any {O : Nat → Prop} (b : Nat) (wd : Int) (is : Bool) (L : List Int) (w : World) (h : Nt O w b wd is L) :
    Calls Try.prog 12 #[.pointer (some ⟨b, 0, none⟩)] w fun e w' => e = .returned (.tuple #[.int .u64 wd, .bool is]) ∧ New w w' := by
  obtain ⟨v, hb, -⟩ := h
  have c0 := cell_blk hb 0
  have c1 := cell_blk hb 1
  go_enter Try.func12, Try.ntmps12
  go_wp2_with fail
  go_quiet (fail)
  go_wp2_with fail
  go_ret2
  exact ⟨rfl, (Kept.refl _ _).drewN _⟩

theorem waits_any {O : Nat → Prop} (b : Nat) (wd : Int) (is : Bool) (L : List Int) (w : World) (h : Nt O w b wd is L) (hL : L.length ≤ 1000) :
    Calls Try.prog 14 #[.pointer (some ⟨b, 0, none⟩)] w fun e w' => ∃ v', e = .returned v' ∧ w'.ownsRow w.heap.size 3 1 v' L.length (vI L) ∧ New w w' := by
  obtain ⟨v, hb, hown, hOb, hOv⟩ := h
  have c2 := cell_blk hb 2
  have Hown := Lib.hid hown
  clear hown
  go_enter Try.func14, Try.ntmps14
  go_wp2_with fail
  refine (clone_any v L w Hown.out (by omega)).mono ?_
  rintro e w1 ⟨v', rfl, hown', hk⟩
  go_wp2_with fail
  go_ret
  exact ⟨v', rfl, hown', hk⟩

theorem copy_any {O : Nat → Prop} (b : Nat) (wd : Int) (is : Bool) (L : List Int) (w : World) (h : Nt O w b wd is L) (hL : L.length ≤ 1000) :
    Calls Try.prog 20 #[.pointer (some ⟨b, 0, none⟩)] w fun e w' => ∃ b', e = .returned (.pointer (some ⟨b', 0, none⟩)) ∧ Nt (fun k => w.heap.size ≤ k) w' b' wd is L ∧ New w w' := by
  obtain ⟨v, hb, hown, hOb, hOv⟩ := h
  have hd0 : w.drew.cell? ⟨b, 0, none⟩ = some (.int .u64 wd) := cell_blk (w := w.drew) hb 0
  have hd1 : w.drew.cell? ⟨b, 1, none⟩ = some (.bool is) := cell_blk (w := w.drew) hb 1
  have hd2 : w.drew.cell? ⟨b, 2, none⟩ = some v := cell_blk (w := w.drew) hb 2
  have Hown := Lib.hid hown
  clear hown
  go_enter Try.func20, Try.ntmps20
  go_wp2_with fail
  go_region_held3 (fun W => W.cell? ⟨b, 0, none⟩ = some (.int .u64 wd) ∧ W.cell? ⟨b, 1, none⟩ = some (.bool is) ∧ W.cell? ⟨b, 2, none⟩ = some v)
    (first | exact ⟨hd0, hd1, hd2⟩ | exact ⟨hl0, hl1, hl2⟩ | exact ⟨cell_kept ((Kept.refl (fun _ => False) _).alloc _) hl0 (fun h => h), cell_kept ((Kept.refl (fun _ => False) _).alloc _) hl1 (fun h => h), cell_kept ((Kept.refl (fun _ => False) _).alloc _) hl2 (fun h => h)⟩)
    (first | (go_at_call 24; refine (clone_any v L w.drew Hown.out (by omega)).mono ?_; rintro e w1 ⟨v', rfl, hown', hk⟩; have hl0 := cell_kept hk hd0 (fun h => h); have hl1 := cell_kept hk hd1 (fun h => h); have hl2 := cell_kept hk hd2 (fun h => h); obtain ⟨ao', c', hv', _⟩ := Src.of_own hown'; rw [hv']))
  go_wp2_with fail
  go_ret
  rw [← hv']
  have h9 := hk.alloc (.cells #[.int .u64 wd, .bool is, v'] 48)
  have h10 : New w (w1.alloc (.cells #[.int .u64 wd, .bool is, v'] 48)) := (Kept.refl _ _).drew.trans h9
  exact ⟨w1.heap.size, rfl, ⟨v', heap_alloc_new _ _, own_same (own_mono hown' (Nat.zero_le _)) ((Kept.refl _ _).alloc _), hk.size, fun k hk' => own_block hown' hk'⟩, h10⟩

/-- Signal: somebody waits. -/
theorem signal_who {O : Nat → Prop} (b : Nat) (wd : Int) (is : Bool) (a : Int) (l : List Int) (bg : Int) (w : World) (h : Nt O w b wd is (a :: l)) (hL : l.length ≤ 1000) :
    Calls Try.prog 10 #[.pointer (some ⟨b, 0, none⟩), .int .u64 bg] w fun e w' => e = .returned (.tuple #[.int .i64 a, .int .u64 bg, .bool true]) ∧ Nt O w' b wd is l ∧ Kept O w w' := by
  obtain ⟨v, hb, hown, hOb, hOv⟩ := h
  have hvb : v.ownBlock ≠ some b := by
    intro e
    obtain ⟨cc, hcc⟩ := own_type hown e
    exact heap_ne hb hcc (by decide) rfl
  have hdf := delete_first v a l w hown (by omega)
  rcases hown.2 with ⟨_, h0⟩ | ⟨g, cap, cur, rfl, -⟩
  · simp at h0
  have hca : w.cell? ⟨g, 0, none⟩ = some (.int .i64 a) := own_int hown (j := 0) rfl
  obtain ⟨len, hlen⟩ : ∃ len, len = l.length := ⟨_, rfl⟩
  have Hlen := Lib.hid hlen
  have hll : (a :: l).length = len + 1 := by rw [hlen]; rfl
  rw [hll] at hb hdf hvb hOv
  have c2 := cell_blk hb 2
  have Hvb := Lib.hid hvb
  have HOv := Lib.hid hOv
  rw [← hlen] at hdf
  have Hdf := Lib.hid hdf
  have hbl := lt_of_heap hb
  clear hown hlen hll hdf hvb hOv
  go_enter Try.func10, Try.ntmps10
  go_wp2_with fail
  refine Hdf.out.mono ?_
  rintro e w2 ⟨v', rfl, hown', hob, hk2⟩
  have hb2 := hk2.heap hb Hvb.out
  have d2 := cell_blk hb2 2
  have f2 := free_blk hb2 2
  obtain ⟨ao', c', hv', -⟩ := Src.of_own hown'
  have Hown' := Lib.hid hown'
  have Hob := Lib.hid hob
  have Hv' := Lib.hid hv'
  clear hown' hob
  rw [hv']
  clear hv'
  go_wp2_with fail
  refine bodyPost_ret (results_tmp3 rfl _ _ _) rfl ?_
  rw [← Hv'.out]
  have hst := heap_setCell_same w2 b 2 _ _ v' hb2
  have hvb' : v'.ownBlock ≠ some b := fun e => Hvb.out (by rw [← Hob.out]; exact e)
  refine ⟨rfl, ⟨v', hst, ?_, hOb, fun k hk => HOv.out k (by rw [← Hob.out]; exact hk)⟩, ?_⟩
  · rw [← Hlen.out]
    exact own_kept Hown'.out ((Kept.refl (fun k => k = b) w2).setCell (.inr rfl) _) (fun i hi hF => hvb' (by rw [hi, hF]))
  · exact ((Kept.refl O w).trans' hk2 (fun i hi hvi => HOv.out i hvi)).setCell (.inr hOb) _

/-- Signal: nobody waits. -/
theorem signal_none {O : Nat → Prop} (b : Nat) (wd : Int) (is : Bool) (bg wd' : Int) (w : World) (h : Nt O w b wd is []) (hor : bits .or .u64 wd bg = wd') :
    Calls Try.prog 10 #[.pointer (some ⟨b, 0, none⟩), .int .u64 bg] w fun e w' => e = .returned (.tuple #[.int .i64 0, .int .u64 0, .bool false]) ∧ Nt O w' b wd' true [] ∧ Kept O w w' := by
  obtain ⟨ao, c, hb, hown, hOb, hOv, hvb⟩ := h.cells
  have c0 := cell_blk hb 0
  have c1 := cell_blk hb 1
  have c2 := cell_blk hb 2
  have f0 := free_blk hb 0
  have f1 := free_blk hb 1
  have Hown := Lib.hid hown
  have HOv := Lib.hid hOv
  have Hvb := Lib.hid hvb
  clear hown hOv hvb h
  go_enter Try.func10, Try.ntmps10
  go_wp2_with fail
  refine bodyPost_ret (results_tmp3 rfl _ _ _) rfl ?_
  have hk : Kept (fun k => k = b) w ((w.setCell ⟨b, 0, none⟩ (.int .u64 wd')).setCell ⟨b, 1, none⟩ (.bool true)) := (Kept.refl (fun k => k = b) w).setCell (.inr rfl) _ |>.setCell (.inr rfl) _
  exact ⟨rfl, ⟨_, heap_setCell_same _ _ 1 _ _ _ (heap_setCell_same _ _ 0 _ _ _ hb), own_kept Hown.out hk (fun i hi hF => Hvb.out (by rw [hi, hF])), hOb, HOv.out⟩, hk.mono (fun i _ hi => by rw [hi]; exact hOb)⟩
end Go.Proofs.Ytaaoegfdhpploaa

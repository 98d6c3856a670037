/- Package endpoint: those with a badge wait no more; a copy. -/
import Derived.Test.YtanongcaokldmaaEndF
import Derived.Deep.RegionHeld3
set_option linter.all false
namespace Go.Proofs.Ytanongcaokldmaa
open Go.RowKit

/-- A variable that holds a slice of numbers. -/
def OC (q : Nat) (M : List Int) : Thing := fun O w => ∃ ao c, w.heap[q]? = some (.cells #[.slice ao M.length c] 31 (0, 0)) ∧ w.ownsRow 0 3 1 (.slice ao M.length c) M.length (vI M) ∧ O q ∧ (∀ k, (Value.slice ao M.length c).ownBlock = some k → O k) ∧ (Value.slice ao M.length c).ownBlock ≠ some q
theorem OC.ok (q : Nat) (M : List Int) : (OC q M).Ok :=
  ⟨fun ⟨ao, c, h1, h2, h3, h4, h5⟩ k hF => ⟨ao, c, k.heap h1 (hF _ h3), own_kept h2 k (fun i hi => hF i (h4 i hi)), h3, h4, h5⟩,
   fun ⟨ao, c, h1, h2, h3, h4, h5⟩ => ⟨ao, c, h1, h2, ⟨h3, lt_of_heap h1⟩, fun k hk => ⟨h4 k hk, own_size h2 hk⟩, h5⟩,
   fun ⟨ao, c, h1, h2, h3, h4, h5⟩ hO => ⟨ao, c, h1, h2, hO _ h3, fun k hk => hO k (h4 k hk), h5⟩⟩
theorem lies3 {w : World} {v : Value} {o : Obj} {g n cap : Nat} (h : v.ownBlock = some g ∨ g = w.heap.size + 1) : ∀ k, (Value.slice (some ⟨g, 0, none⟩) n cap).ownBlock = some k → v.ownBlock = some k ∨ (w.alloc o).heap.size ≤ k := by
  intro k hk
  simp only [Value.ownBlock, Option.map_some, Option.some.injEq] at hk
  subst hk
  rcases h with h | h
  · exact .inl h
  · exact .inr (by simp; omega)

set_option maxRecDepth 100000 in
theorem badge_no (x : On) (s : Int) (bb ob : Nat) (w : World) (hb : w.heap[bb]? = some (.cells #[.int .u64 s] 25 (0, 0))) (hr : (x.bg == s) = false) :
    Calls Try.prog 29 #[aggO x, .pointer (some ⟨bb, 0, none⟩), .pointer (some ⟨ob, 0, none⟩)] w fun e w' => e = .returned (.bool false) ∧ New w w' := by
  have hc := cell_blk hb 0
  have hlt := lt_of_heap hb
  have hb2 := ((Kept.refl (fun _ => False) w).alloc (blkO x)).heap hb (fun h => h)
  have hc2 := cell_blk hb2 0
  have hne : ¬ x.bg = s := by simpa using hr
  go_enter Try.func29, Try.ntmps29
  go_wp2_with fail
  go_wp2
  go_ret
  exact ⟨rfl, (Kept.refl _ _).alloc _⟩
set_option maxRecDepth 100000 in
theorem badge_yes {O : Nat → Prop} (x : On) (s : Int) (bb ob : Nat) (M : List Int) (w : World) (hb : w.heap[bb]? = some (.cells #[.int .u64 s] 25 (0, 0))) (ho : OC ob M O w) (hM : M.length ≤ 1000) (hr : (x.bg == s) = true) :
    Calls Try.prog 29 #[aggO x, .pointer (some ⟨bb, 0, none⟩), .pointer (some ⟨ob, 0, none⟩)] w fun e w' => e = .returned (.bool true) ∧ OC ob (M ++ [x.who]) (fun k => O k ∨ w.heap.size ≤ k) w' ∧ Kept O w w' := by
  obtain ⟨ao, c, hob, hown, hOb, hOv, hvb⟩ := ho
  have hlt := lt_of_heap hb
  have hlo := lt_of_heap hob
  obtain rfl : x.bg = s := by simpa using hr
  have k1 : New w (w.alloc (blkO x)) := (Kept.refl _ _).alloc _
  have hc2 := cell_blk (k1.heap hb (fun h => h)) 0
  have k2 : New w ((w.alloc (blkO x)).alloc (.cells #[.int .i64 x.who] 3)) := k1.alloc _
  have hW := k1.heap hob (fun h => h)
  have hc3 := cell_blk hW 0
  have hob2 := k2.heap hob (fun h => h)
  obtain ⟨len, hlen⟩ : ∃ len, len = M.length := ⟨_, rfl⟩
  have Hlen := Lib.hid hlen
  rw [← hlen] at hown hOv hvb hM hc3 hob2
  have Hown2 := Lib.hid (own_same hown k2)
  have HOv := Lib.hid hOv
  have Hvb := Lib.hid hvb
  have Hlit := Lib.hid (Src.lit (w.alloc (blkO x)) #[.int .i64 x.who] 3 1 1 rfl)
  rw [show (w.alloc (blkO x)).heap.size = w.heap.size + 1 from Array.size_push ..] at Hlit
  obtain ⟨i3, hi, hz0, hz1, hz2⟩ := info_parts info3
  clear hown hOv hvb hlen hob hW hr k1
  go_enter Try.func29, Try.ntmps29
  go_wp2_with (at_builtin; refine wpList_append_src2 rfl _ _ 31 rfl 0 3 i3 (.int .i64 0) 1 8 Try.underlying31 hi hz0 hz1 hz2 rfl (by decide) (.slice ao len c) len (vI M) rfl Hown2.out _ 1 _ rfl Hlit.out (by simp [Value.oneCell']) (by unfold maxLen; omega) (by omega) (by simp) ?_; intro v' w5 hown' hgr hid; have hkg := Kept.of_grown hgr; have hb5 := hkg.heap hob2 Hvb.out; have hc5 := cell_blk hb5 0; have hf5 := free_blk hb5 0; obtain ⟨ao5, c5, hv5, _⟩ := Src.of_own hown'; rw [hv5])
  go_ret
  rw [← hv5]
  have hst := heap_setCell_same w5 ob 0 _ _ v' hb5
  have hvb' : v'.ownBlock ≠ some ob := by
    intro e
    rcases hid ob e with h | h
    · exact Hvb.out h
    · simp at h; omega
  have h9 := own_kept hown' ((Kept.refl (fun k => k = ob) w5).setCell (.inr rfl) v' (p := ⟨ob, 0, none⟩)) (fun i hi hF => hvb' (by rw [hi, hF]))
  have hl2 : (M ++ [x.who]).length = len + 1 := by simp [Hlen.out]
  refine ⟨rfl, ⟨ao5, c5, ?_, ?_, .inl hOb, fun k hk => ?_, ?_⟩, ?_⟩
  · rw [hl2, ← hv5]; exact hst
  · rw [hl2, ← hv5]
    simpa [vI] using h9
  · rw [hl2, ← hv5] at hk
    rcases hid k hk with h | h
    · exact .inl (HOv.out k h)
    · right; simp at h; omega
  · rw [hl2, ← hv5]; exact hvb'
  · exact ((k2.mono (fun _ _ h => h.elim)).trans' hkg (fun i hi hv => HOv.out i hv)).setCell (.inr hOb) _

set_option maxRecDepth 100000 in
/-- The first one with the badge. -/
theorem index36_29 {O : Nat → Prop} (v : Value) (s : Int) (bb ob : Nat) (L : List On) (w : World) (hb : w.heap[bb]? = some (.cells #[.int .u64 s] 25 (0, 0))) (ho : OC ob [] O w) (hown : w.ownsRow 0 57 8 v L.length (L.flatMap encO)) (hL : L.length ≤ 1000000) :
    Calls Try.prog 36 #[v, .func (.func 29) #[] #[.pointer (some ⟨bb, 0, none⟩), .pointer (some ⟨ob, 0, none⟩)]] w fun e w' => ∃ r : Int, e = .returned (.int .i64 r) ∧ 
      ((r = -1 ∧ (∀ x ∈ L, (x.bg == s) = false) ∧ New w w') ∨ ∃ k : Nat, ∃ x, r = k ∧ L[k]? = some x ∧ (x.bg == s) = true ∧ (∀ y ∈ L.take k, (y.bg == s) = false) ∧ OC ob [x.who] (fun k => O k ∨ w.heap.size ≤ k) w' ∧ Kept O w w') := by
  obtain ⟨ao, c, rfl, hao, -, hcell⟩ := Src.of_own hown
  have Hcell := Lib.hid hcell
  have Hown := Lib.hid hown
  have Ho := Lib.hid ho
  clear hcell hown hao ho
  obtain ⟨len, hlen⟩ : ∃ len, len = L.length := ⟨_, rfl⟩
  have Hlen := Lib.hid hlen
  rw [← hlen] at hL ⊢
  clear hlen
  go_enter Try.func36, Try.ntmps36
  go_wp2_with fail
  go_loopw [8] (fun i wr => ∃ k : Nat, k ≤ len ∧ i = .int .i64 k ∧ Hid (∀ y ∈ L.take k, (y.bg == s) = false) ∧ New w wr) (fun i _ => len - (intOf i).toNat)
  case atStart => exact ⟨0, by omega, rfl, by simp [Hid], Kept.refl _ _⟩
  case round =>
    obtain ⟨k, hk, rfl, Hk, hkp⟩ := hrel
    by_cases h1 : k < len
    · obtain ⟨x, hx⟩ : ∃ x, L[k]? = some x := ⟨_, List.getElem?_eq_getElem (by rw [← Hlen.out]; omega)⟩
      have Hx := Lib.hid hx
      obtain ⟨g, cap, hv, -, hrow, -⟩ := Row.of_ownS (own_same Hown.out hkp) (by have := Hlen.out; omega)
      simp only [Value.slice.injEq] at hv
      obtain ⟨rfl, -, rfl⟩ := hv
      obtain ⟨hc0, hc1, hc2, hc3, hc4, hc5, hc6, hc7⟩ := hrow.one hx
      have hbr := hkp.heap hb (fun h => h)
      clear hx hrow
      cases hr : (x.bg == s) with
      | true =>
        have hw1 := badge_yes x s bb ob [] wr hbr ((OC.ok _ _).kept Ho.out hkp (fun _ _ h => h)) (by decide) hr
        have Hr := Lib.hid hr
        clear hr hbr
        go_wp2_with fail
        refine hw1.mono ?_
        rintro e w1 ⟨rfl, hoc, hk1⟩
        go_wp2
        go_ret
        exact ⟨k, rfl, .inr ⟨k, x, rfl, Hx.out, Hr.out, Hk.out, (OC.ok _ _).mono hoc (fun i h => h.imp id (fun h => Nat.le_trans hkp.size h)), (hkp.mono (fun _ _ h => h.elim)).trans hk1⟩⟩
      | false =>
        have hw1 := badge_no x s bb ob wr hbr hr
        have Hr := Lib.hid hr
        clear hr hbr
        go_wp2_with fail
        refine hw1.mono ?_
        rintro e w1 ⟨rfl, hk1⟩
        go_wp2_with fail
        go_roundw
        case rel => exact ⟨k + 1, by omega, by go_num, by
          show ∀ y ∈ L.take (k + 1), (y.bg == s) = false
          rw [List.take_add_one, Hx.out]
          intro y hy
          simp at hy
          rcases hy with hy | rfl
          · exact Hk.out y hy
          · exact Hr.out, hkp.trans hk1⟩
        case measure => simp [intOf]; omega
    · go_wp2
      go_ret
      refine ⟨-1, rfl, .inl ⟨rfl, ?_, hkp⟩⟩
      have h2 := Hk.out
      rw [List.take_of_length_le (by have := Hlen.out; omega)] at h2
      exact h2

/-- Those with the badge, in order. -/
def hasB (L : List On) (s : Int) : List Int := (L.filter (fun x => x.bg == s)).map (fun x => x.who)
theorem hasB_yes {L : List On} {s : Int} {j : Nat} {x : On} (hx : L[j]? = some x) (hr : (x.bg == s) = true) : hasB (L.take (j + 1)) s = hasB (L.take j) s ++ [x.who] := by
  unfold hasB
  rw [List.take_add_one, hx, List.filter_append, List.map_append]
  simp [hr]
theorem hasB_no {L : List On} {s : Int} {j : Nat} {x : On} (hx : L[j]? = some x) (hr : (x.bg == s) = false) : hasB (L.take (j + 1)) s = hasB (L.take j) s := by
  unfold hasB
  rw [List.take_add_one, hx, List.filter_append, List.map_append]
  simp [hr]
theorem hasB_nil {L : List On} {s : Int} (h : ∀ x ∈ L, (x.bg == s) = false) : hasB L s = [] := by
  unfold hasB
  have : L.filter (fun x => x.bg == s) = [] := by
    rw [List.filter_eq_nil_iff]
    intro x hx
    rw [h x hx]; simp
  rw [this]; rfl
theorem hasB_length (L : List On) (s : Int) : (hasB L s).length ≤ L.length := by
  unfold hasB
  rw [List.length_map]
  exact List.length_filter_le _ _

set_option maxRecDepth 100000 in
set_option maxHeartbeats 1000000 in
theorem delete29 {O : Nat → Prop} (v : Value) (s : Int) (bb ob : Nat) (L : List On) (w : World) (hb : w.heap[bb]? = some (.cells #[.int .u64 s] 25 (0, 0))) (ho : OC ob [] O w) (hbO : ¬ O bb) (hvO : ∀ k, v.ownBlock = some k → ¬ O k) (hown : w.ownsRow 0 57 8 v L.length (L.flatMap encO)) (hL : L.length ≤ 900)
    (M : List On) (hM : L.filter (fun x => !(x.bg == s)) = M) :
    Calls Try.prog 28 #[v, .func (.func 29) #[] #[.pointer (some ⟨bb, 0, none⟩), .pointer (some ⟨ob, 0, none⟩)]] w fun e w' => ∃ v', e = .returned v' ∧ w'.ownsRow 0 57 8 v' M.length (M.flatMap encO) ∧
      (∀ k, v'.ownBlock = some k → v.ownBlock = some k) ∧ OC ob (hasB L s) (fun k => O k ∨ w.heap.size ≤ k) w' ∧ Kept (fun k => v.ownBlock = some k ∨ O k) w w' := by
  have Hown := Lib.hid hown
  have HM := Lib.hid hM
  have Ho := Lib.hid ho
  have hidx := index36_29 v s bb ob L w hb ho hown (by omega)
  clear hM ho
  by_cases hn : ∀ x ∈ L, (x.bg == s) = false
  · clear hown
    have Hn := Lib.hid hn
    clear hn
    go_enter Try.func28, Try.ntmps28
    go_wp2_with fail
    refine hidx.mono ?_
    rintro e w1 ⟨r, rfl, ⟨rfl, h1, hk1⟩ | ⟨k, x, rfl, h1, h2, h3, -, -⟩⟩
    · clear h1
      go_wp2
      go_ret
      have hML : M = L := by
        rw [← HM.out, List.filter_eq_self]
        intro x hx
        rw [Hn.out x hx]; rfl
      rw [hML]
      refine ⟨v, rfl, own_same Hown.out hk1, fun k hk => hk, ?_, hk1.mono (fun _ _ h => h.elim)⟩
      rw [hasB_nil Hn.out]
      exact (OC.ok _ _).mono ((OC.ok _ _).kept Ho.out hk1 (fun _ _ h => h)) (fun _ h => .inl h)
    · have := Hn.out x (List.mem_of_getElem? h1)
      rw [this] at h2; cases h2
  · obtain ⟨g, cap, hv, -, hrow, hlc⟩ := Row.of_ownS hown (by
      cases L with
      | nil => exact (hn (by simp)).elim
      | cons a l => simp)
    have hv' := Lib.hid hv
    have hcapm : cap ≤ maxLen := by
      rcases hown.2 with ⟨h1, _⟩ | ⟨g', cap', cur, h1, _, _, _, h2, _⟩
      · rw [hv] at h1; cases h1
      · rw [hv] at h1; cases h1; exact h2
    subst hv
    have hgO : ¬ O g := hvO g rfl
    have hgl := hrow.lt
    have Hn := Lib.hid hn
    have Hrow := Lib.hid hrow
    have ht : ∃ c, w.heap[g]? = some (.cells c 57 (0, 0)) := let ⟨c, h, _⟩ := hrow.ex; ⟨c, h⟩
    have hbg : bb ≠ g := by
      obtain ⟨c, hc⟩ := ht
      exact fun h => by rw [h] at hb; exact heap_ne hb hc (by decide) rfl
    clear hown hn hrow hvO
    obtain ⟨len, hlen⟩ : ∃ len, len = L.length := ⟨_, rfl⟩
    have Hlen := Lib.hid hlen
    rw [← hlen] at hL hlc hidx ⊢
    clear hlen
    go_enter Try.func28, Try.ntmps28
    go_wp2_with fail
    refine hidx.mono ?_
    rintro e w1 ⟨r, rfl, ⟨rfl, h1, -⟩ | ⟨i0, x0, rfl, h1, h2, h3, hoc, hk1⟩⟩
    · exact (Hn.out h1).elim
    have H1 := Lib.hid h1
    have H2 := Lib.hid h2
    have H3 := Lib.hid h3
    have Hoc := Lib.hid hoc
    have hi0 : i0 < len := by rw [Hlen.out]; exact lt_of_some h1
    clear h1 h2 h3 hoc
    go_wp2_with fail
    simp only [show ((i0 : Int) == -1) = false by simp]
    go_loopw [5, 6] (fun i j wr => ∃ (k j' : Nat) (X : List On), k < j' ∧ j' ≤ len ∧ i = .int .i64 k ∧ j = .int .i64 j' ∧ Hid (X.length = L.length ∧ X.take k = (L.take j').filter (fun x => !(x.bg == s)) ∧ X.drop j' = L.drop j' ∧ Row wr g (cap * 8) 57 (X.flatMap encO)) ∧ OC ob (hasB (L.take j') s) (fun k => O k ∨ w.heap.size ≤ k) wr ∧ Kept (fun k => k = g ∨ O k) w wr) (fun i j _ => len - (intOf j).toNat)
    case atStart =>
      refine ⟨i0, i0 + 1, L, by omega, by omega, rfl, by go_num, ⟨rfl, ?_, rfl, Hrow.out.kept hk1 hgO⟩, ?_, hk1.mono (fun _ _ h => .inr h)⟩
      · rw [List.take_add_one, H1.out, List.filter_append]
        have : (L.take i0).filter (fun x => !(x.bg == s)) = L.take i0 := by
          rw [List.filter_eq_self]
          intro x hx
          rw [H3.out x hx]; rfl
        rw [this]
        simp [H2.out]
      · rw [hasB_yes H1.out H2.out, hasB_nil H3.out]
        exact Hoc.out
    case round =>
      obtain ⟨k, j, X, hkj, hj, rfl, rfl, HX, hoc, hkp⟩ := hrel
      by_cases h1 : j < len
      · obtain ⟨x, hx⟩ : ∃ x, L[j]? = some x := ⟨_, List.getElem?_eq_getElem (by rw [← Hlen.out]; omega)⟩
        have hXx : X[j]? = some x := by
          have := congrArg (fun l => l[0]?) HX.out.2.2.1
          simpa [List.getElem?_drop, hx] using this
        obtain ⟨y, hy⟩ : ∃ y, X[k]? = some y := ⟨_, List.getElem?_eq_getElem (by have := HX.out.1; have := Hlen.out; omega)⟩
        obtain ⟨hc0, hc1, hc2, hc3, hc4, hc5, hc6, hc7⟩ := HX.out.2.2.2.one hXx
        have Hx := Lib.hid hx
        have Hy := Lib.hid hy
        have kA : New wr (wr.alloc (blkO x)) := (Kept.refl _ _).alloc _
        have hbr := (hkp.trans' (c := wr.alloc (blkO x)) kA (fun i _ h => h.elim)).heap hb (fun h => h.elim hbg hbO)
        have hocA := (OC.ok _ _).kept hoc kA (fun _ _ h => h)
        clear hx hXx hy
        cases hr : (x.bg == s) with
        | true =>
          have hw1 := badge_yes x s bb ob _ _ hbr hocA (by have := hasB_length (L.take j) s; rw [List.length_take] at this; omega) hr
          rw [← hasB_yes Hx.out hr] at hw1
          have Hr := Lib.hid hr
          have Hw1 := Lib.hid hw1
          clear hr hw1 hoc hocA hbr
          go_wp2_with fail
          refine Hw1.out.mono ?_
          rintro e w2 ⟨rfl, hoc2, hk2⟩
          have hoc2' := (OC.ok _ _).mono (O' := fun k => O k ∨ w.heap.size ≤ k) hoc2 (fun i h => h.elim id (fun h => .inr (Nat.le_trans (Nat.le_trans hkp.size kA.size) h)))
          clear hoc2 Hw1
          go_wp2_with fail
          go_roundw
          case rel =>
            refine ⟨k, j + 1, X, by omega, by omega, rfl, by go_num, ⟨HX.out.1, ?_, ?_, (HX.out.2.2.2.alloc _).kept hk2 (fun h => h.elim hgO (fun h => by omega))⟩, hoc2', (hkp.alloc _).trans' hk2 (fun i hi h => .inr (h.elim id (fun h => by omega)))⟩
            · rw [HX.out.2.1, List.take_add_one, Hx.out, List.filter_append]
              simp [Hr.out]
            · have := congrArg (List.drop 1) HX.out.2.2.1
              simpa [List.drop_drop] using this
          case measure => simp [intOf]; omega
        | false =>
          have hw1 := badge_no x s bb ob _ hbr hr
          have Hr := Lib.hid hr
          have Hoc := Lib.hid hoc
          clear hr hocA hoc
          go_wp2_with fail
          refine hw1.mono ?_
          rintro e w2 ⟨rfl, hk2⟩
          have hk2' : New wr w2 := kA.trans hk2
          have hbx := hk2.heap (heap_alloc_new wr (blkO x)) (fun h => h)
          obtain ⟨b0, b1, b2, b3, b4, b5, b6, b7⟩ := of8 hbx
          have hrow2 := HX.out.2.2.2.same hk2'
          obtain ⟨d0, d1, d2, d3, d4, d5, d6, d7⟩ := hrow2.one Hy.out
          have f0 := hrow2.free (k * 8)
          have f1 := hrow2.free (k * 8 + 1)
          have f2 := hrow2.free (k * 8 + 2)
          have f3 := hrow2.free (k * 8 + 3)
          have f4 := hrow2.free (k * 8 + 4)
          have f5 := hrow2.free (k * 8 + 5)
          have f6 := hrow2.free (k * 8 + 6)
          have f7 := hrow2.free (k * 8 + 7)
          have Hrow2 := Lib.hid (hrow2.put x Hy.out)
          have hgs := Lib.hid hrow2.lt
          have Hoc2 := Lib.hid ((OC.ok _ _).kept Hoc.out hk2' (fun _ _ h => h))
          clear hrow2 hbx Hoc
          go_wp2_with fail
          go_roundw
          case rel =>
            have hkk := put_kept w2 g k x
            refine ⟨k + 1, j + 1, X.set k x, by omega, by omega, by go_num, by go_num, ⟨by simpa using HX.out.1, ?_, ?_, Hrow2.out⟩, ?_, (hkp.trans (hk2'.mono (fun _ _ h => h.elim))).trans' hkk (fun _ _ h => .inl h)⟩
            · rw [List.take_add_one, List.take_add_one, List.filter_append, ← HX.out.2.1, Hx.out]
              have e1 := lt_of_some Hy.out
              have e2 : (X.take k).set k x = X.take k := List.set_eq_of_length_le (by simp; omega)
              simp [Hr.out, List.take_set, e1, e2]
            · have := congrArg (List.drop 1) HX.out.2.2.1
              simp only [List.drop_drop] at this
              rw [List.drop_set, if_pos (by omega)]
              exact this
            · rw [hasB_no Hx.out Hr.out]
              exact (OC.ok _ _).kept Hoc2.out hkk (fun i h e => h.elim (fun h => hgO (by rw [← e]; exact h)) (fun h => by omega))
          case measure => simp [intOf]; omega
      · obtain rfl : j = len := by omega
        obtain ⟨cur, hg, hcs, hct⟩ := HX.out.2.2.2.ex
        have hXl := HX.out.1
        have Hl := Hlen.out
        have Hcs := Lib.hid hcs
        have Hct := Lib.hid hct
        have Hoc := Lib.hid hoc
        clear hcs hct hoc
        obtain ⟨i57, hi, hz0, hz1, hz2⟩ := info_parts info57
        go_wp2_with (refine wpList_clear_blk rfl (.tmp 38) 53 rfl 57 Try.underlying53 i57 (aggO ⟨0, 0, 0, 0, 0, 0, 0, false⟩) 8 hi hz0 rfl (by simp [Value.cells, Value.oneCell']) _ _ _ rfl g (k * 8) cur 57 hg (by intro h0; rfl) (by have := Hcs.out; omega) ?_; intro w' hg' hk')
        go_ret
        have hXk : X.take k = M := by rw [HX.out.2.1, ← HM.out, Hl, List.take_length]
        have hlM : M.length = k := by rw [← hXk, List.length_take]; omega
        have hlX := ones_len X
        have hlMe := ones_len M
        have hall : hasB (L.take j) s = hasB L s := by rw [Hl, List.take_length]
        refine ⟨_, rfl, ?_, fun q hq => hq, ?_, (hkp.trans' hk' (fun i _ h => .inl h)).mono (fun i _ h => h.imp (fun h => by simp [Value.ownBlock, h]) id)⟩
        · rw [hlM] at hlMe ⊢
          refine ⟨hlMe, .inr ⟨g, cap, _, rfl, Nat.zero_le _, hg', by omega, hcapm, ?_, ?_⟩⟩
          · have := Hcs.out
            simp only [List.size_toArray, splice, List.length_append, List.length_take, List.length_drop, Array.length_toList, size_zeroCells, zc8]
            omega
          · have h5 : cur.toList.take (k * 8) = M.flatMap encO := by
              have h6 := congrArg (List.take (k * 8)) Hct.out
              rw [List.take_take, show min (k * 8) (X.flatMap encO).length = k * 8 by omega] at h6
              rw [h6, ← hXk]
              have h7 : X.flatMap encO = (X.take k).flatMap encO ++ (X.drop k).flatMap encO := by rw [← List.flatMap_append, List.take_append_drop]
              rw [h7, List.take_left' (by rw [hXk, hlMe])]
            rw [← h5, ← hlMe, ← h5]
            simp [splice]
        · rw [← hall]
          exact (OC.ok _ _).kept Hoc.out hk' (fun i h e => h.elim (fun h => hgO (by rw [← e]; exact h)) (fun h => by omega))

/-- Those that send with a badge wait no more; they are told. -/
def badgeE (sd : Bool) (L : List On) (s : Int) : List Int × List On := if sd then (hasB L s, L.filter (fun x => !(x.bg == s))) else ([], L)
set_option maxRecDepth 100000 in
set_option maxHeartbeats 1000000 in
theorem badge_any {O : Nat → Prop} (b : Nat) (sd : Bool) (L M : List On) (F : List Int) (s : Int) (w : World) (h : Ep O w b sd L) (hL : L.length ≤ 900) (he : badgeE sd L s = (F, M)) :
    Calls Try.prog 17 #[.pointer (some ⟨b, 0, none⟩), .int .u64 s] w fun e w' => ∃ v, e = .returned v ∧ w'.ownsRow 0 3 1 v F.length (vI F) ∧ (∀ k, v.ownBlock = some k → w.heap.size ≤ k) ∧ Ep (fun k => O k ∧ k < w.heap.size) w' b sd M ∧ Kept O w w' := by
  have hz := h.sized
  obtain ⟨ao, c, hb, hown, hOb, hOv, hvb⟩ := h.cells
  have hbl := lt_of_heap hb
  have hk1 : New w (w.alloc (.cells #[.int .u64 s] 25)) := (Kept.refl _ _).alloc _
  cases sd with
  | false =>
    unfold badgeE at he
    simp only [Bool.false_eq_true, if_false, Prod.mk.injEq] at he
    obtain ⟨rfl, rfl⟩ := he
    have c1 := cell_blk (hk1.heap hb (fun h => h)) 1
    have Hz := Lib.hid hz
    clear hown hOv hvb h hz
    go_enter Try.func17, Try.ntmps17
    go_wp2_with fail
    go_ret
    exact ⟨.slice none 0 0, rfl, ⟨rfl, .inl ⟨rfl, rfl⟩⟩, fun k hk => (by cases hk), Hz.out.same hk1, hk1.mono (fun _ _ h => h.elim)⟩
  | true =>
    unfold badgeE at he
    simp only [if_true, Prod.mk.injEq] at he
    obtain ⟨rfl, hM⟩ := he
    have hk2 : New w ((w.alloc (.cells #[.int .u64 s] 25)).alloc (.cells #[.slice none 0 0] 31)) := hk1.alloc _
    have hbb : ((w.alloc (.cells #[.int .u64 s] 25)).alloc (.cells #[.slice none 0 0] 31)).heap[w.heap.size]? = some (.cells #[.int .u64 s] 25 (0, 0)) := ((Kept.refl (fun _ => False) _).alloc _).heap (heap_alloc_new _ _) (fun h => h)
    have hsz : (w.alloc (.cells #[.int .u64 s] 25)).heap.size = w.heap.size + 1 := Array.size_push ..
    have hoo : ((w.alloc (.cells #[.int .u64 s] 25)).alloc (.cells #[.slice none 0 0] 31)).heap[w.heap.size + 1]? = some (.cells #[.slice none 0 0] 31 (0, 0)) := by rw [← hsz]; exact heap_alloc_new _ _
    have hdel := delete29 (O := fun k => w.heap.size + 1 ≤ k) (.slice ao L.length c) s w.heap.size (w.heap.size + 1) L _ hbb ⟨none, 0, hoo, ⟨rfl, .inl ⟨rfl, rfl⟩⟩, Nat.le_refl _, fun k hk => (by cases hk), fun e => (by cases e)⟩ (by omega) (fun k hk => by have := own_size hown hk; omega) (own_same hown hk2) hL M hM
    obtain ⟨len, hlen⟩ : ∃ len, len = L.length := ⟨_, rfl⟩
    obtain ⟨ml, hml⟩ : ∃ ml, ml = M.length := ⟨_, rfl⟩
    have Hml := Lib.hid hml
    have hvs : ∀ k, (Value.slice ao L.length c).ownBlock = some k → k < w.heap.size := fun k hk => own_size hown hk
    rw [← hlen] at hb hdel hOv hvb hL hvs
    have hb1 := hk1.heap hb (fun h => h)
    have hb2 := hk2.heap hb (fun h => h)
    have c1 := cell_blk hb1 1
    have c0 := cell_blk hb2 0
    have Hdel := Lib.hid hdel
    have HOv := Lib.hid hOv
    have Hvb := Lib.hid hvb
    have Hvs := Lib.hid hvs
    have Hb2 := Lib.hid hb2
    clear hown hOv hvb h hz hM hlen hml hdel hbb hoo hsz hvs hb1 hb2
    go_enter Try.func17, Try.ntmps17
    go_wp2_with fail
    refine Hdel.out.mono ?_
    rintro e w2 ⟨v', rfl, hown', hid, ⟨ao2, c2, hoq, howq, hq1, hq2, hq3⟩, hk3⟩
    have hb3 := hk3.heap Hb2.out (fun h => h.elim Hvb.out (fun h => by omega))
    have d0 := cell_blk hb3 0
    have f0 := free_blk hb3 0
    obtain ⟨ao', c', hv', -⟩ := Src.of_own hown'
    rw [← Hml.out] at hv'
    have Hown' := Lib.hid hown'
    have Hid' := Lib.hid hid
    have Hv' := Lib.hid hv'
    have Howq := Lib.hid howq
    have Hq2 := Lib.hid hq2
    have Hq3 := Lib.hid hq3
    have kS : Kept (fun k => k = b) w2 (w2.setCell ⟨b, 0, none⟩ v') := (Kept.refl (fun k => k = b) w2).setCell (.inr rfl) _
    have hoq2 := kS.heap hoq (fun e => by omega)
    have e0 := cell_blk hoq2 0
    rw [hv'] at e0
    have KS := Lib.hid kS
    clear hown' hid howq hq2 hq3 hoq hoq2 kS Hdel hq1
    rw [hv']
    clear hv'
    go_wp2_with fail
    go_ret
    rw [← Hv'.out]
    have hst := heap_setCell_same w2 b 0 _ _ v' hb3
    have hvb' : v'.ownBlock ≠ some b := fun e => Hvb.out (Hid'.out b e)
    have hnb : ∀ k, (Value.slice ao2 (hasB L s).length c2).ownBlock = some k → w.heap.size ≤ k := fun k hk => by
      rcases Hq2.out k hk with h | h
      · omega
      · exact Nat.le_trans hk2.size h
    refine ⟨_, rfl, own_kept Howq.out KS.out (fun i hi e => by have := hnb i hi; omega), hnb, ⟨v', hst, ?_, ⟨hOb, hbl⟩, fun k hk => ⟨HOv.out k (Hid'.out k hk), Hvs.out k (Hid'.out k hk)⟩⟩, ?_⟩
    · exact own_kept Hown'.out KS.out (fun i hi hF => hvb' (by rw [hi, hF]))
    · exact ((hk2.mono (fun _ _ h => h.elim)).trans' hk3 (fun i hi h => h.elim (fun h => HOv.out i h) (fun h => by omega))).setCell (.inr hOb) _

theorem copy_any {O : Nat → Prop} (b : Nat) (sd : Bool) (L : List On) (w : World) (h : Ep O w b sd L) (hL : L.length ≤ 1000) :
    Calls Try.prog 23 #[.pointer (some ⟨b, 0, none⟩)] w fun e w' => ∃ b', e = .returned (.pointer (some ⟨b', 0, none⟩)) ∧ w.heap.size ≤ b' ∧ Ep (fun k => w.heap.size ≤ k) w' b' sd L ∧ New w w' := by
  obtain ⟨v, hb, hown, hOb, hOv⟩ := h
  have hc0 : w.cell? ⟨b, 0, none⟩ = some v := cell_blk hb 0
  have hc1 : w.cell? ⟨b, 1, none⟩ = some (.bool sd) := cell_blk hb 1
  have hd0 : w.drew.cell? ⟨b, 0, none⟩ = some v := cell_blk (w := w.drew) hb 0
  have hd1 : w.drew.cell? ⟨b, 1, none⟩ = some (.bool sd) := cell_blk (w := w.drew) hb 1
  have Hown := Lib.hid hown
  clear hown
  go_enter Try.func23, Try.ntmps23
  go_wp2_with fail
  go_region_held3 (fun W => W.cell? ⟨b, 0, none⟩ = some v ∧ W.cell? ⟨b, 1, none⟩ = some (.bool sd)) (first | exact ⟨hd0, hd1⟩ | exact ⟨hl0, hl1⟩ | exact ⟨cell_kept ((Kept.refl (fun _ => False) _).alloc _) hl0 (fun h => h), cell_kept ((Kept.refl (fun _ => False) _).alloc _) hl1 (fun h => h)⟩)
    (first | (go_at_call 32; refine (clone_any v L w.drew Hown.out (by omega)).mono ?_; rintro e w1 ⟨v', rfl, hown', hid, hk⟩; have hl0 := cell_kept hk hd0 (fun h => h); have hl1 := cell_kept hk hd1 (fun h => h); obtain ⟨ao', c', hv', _⟩ := Src.of_own hown'; rw [hv']))
  go_wp2_with fail
  go_ret
  have h9 := hk.alloc (.cells #[v', .bool sd] 55)
  rw [← hv']
  have h10 : New w (w1.alloc (.cells #[v', .bool sd] 55)) := (Kept.refl _ _).drew.trans h9
  exact ⟨w1.heap.size, rfl, hk.size, ⟨v', heap_alloc_new _ _, own_same hown' ((Kept.refl _ _).alloc _), hk.size, hid⟩, h10⟩
end Go.Proofs.Ytanongcaokldmaa

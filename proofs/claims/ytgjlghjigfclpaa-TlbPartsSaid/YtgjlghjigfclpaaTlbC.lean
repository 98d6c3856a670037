/- Package tlb: lines of which something is so go from a slice, in place. -/
import Derived.Test.YtgjlghjigfclpaaTlbB
set_option linter.all false
namespace Go.Proofs.Ytgjlghjigfclpaa
open Go.RowKit

theorem info34 : (Try.prog.info? 34).map (fun i => (i.zero, i.size, i.bytes)) = some (some (aggL ⟨0, 0, 0, 0⟩), 4, 32) := by kernel_rfl
theorem hzs4 : (aggL ⟨0, 0, 0, 0⟩).cells.size = 4 := rfl

set_option maxRecDepth 100000 in
theorem delete_any (so v : Value) (ps : List Ask) (bb : Nat) (L : List Ln) (w : World) (hs : Asks w so ps) (hb : w.heap[bb]? = some (.cells #[so] 62 (0, 0))) (hown : w.ownsRow 0 34 4 v L.length (L.flatMap encL)) (hL : L.length ≤ 1000000)
    (M : List Ln) (hM : L.filter (fun x => !ps.all (fun p => p.ok x)) = M) :
    Calls Try.prog 32 #[v, .func (.func 33) #[] #[.pointer (some ⟨bb, 0, none⟩)]] w fun e w' => ∃ v', e = .returned v' ∧ w'.ownsRow 0 34 4 v' M.length (M.flatMap encL) ∧
      (∀ k, v'.ownBlock = some k → v.ownBlock = some k) ∧ Kept (fun k => v.ownBlock = some k) w w' := by
  have Hown := Lib.hid hown
  have HM := Lib.hid hM
  have hidx := index39_any so v ps bb L w hs hb hown hL
  clear hM
  by_cases hn : ∀ x ∈ L, ps.all (fun p => p.ok x) = false
  · clear hown
    have Hn := Lib.hid hn
    go_enter Try.func32, Try.ntmps32
    go_wp2_with fail
    refine hidx.mono ?_
    rintro e w1 ⟨r, rfl, hk1, ⟨rfl, h1⟩ | ⟨k, x, rfl, h1, h2, h3⟩⟩
    · clear h1
      go_wp2
      go_ret
      have hML : M = L := by
        rw [← HM.out, List.filter_eq_self]
        intro x hx
        rw [Hn.out x hx]; rfl
      rw [hML]
      exact ⟨v, rfl, own_same Hown.out hk1, fun k hk => hk, hk1.mono (fun _ _ h => h.elim)⟩
    · have := Hn.out x (List.mem_of_getElem? h1)
      rw [this] at h2; cases h2
  · obtain ⟨g, cap, hv, -, hrow, hlc⟩ := Row.of_ownS hown (by
      cases L with
      | nil => exact (hn (by simp)).elim
      | cons a l => simp)
    have hv' := Lib.hid hv
    have hcapm : cap ≤ maxLen := by
      rcases hown.2 with ⟨h1, _⟩ | ⟨g', cap', cur, h1, _, _, _, h2, _⟩
      · rw [hv] at h1; cases h1
      · rw [hv] at h1; cases h1; exact h2
    subst hv
    have Hn := Lib.hid hn
    have Hrow := Lib.hid hrow
    have ht : ∃ c, w.heap[g]? = some (.cells c 34 (0, 0)) := let ⟨c, h, _⟩ := hrow.ex; ⟨c, h⟩
    clear hown hn hrow
    obtain ⟨len, hlen⟩ : ∃ len, len = L.length := ⟨_, rfl⟩
    have Hlen := Lib.hid hlen
    rw [← hlen] at hL hlc hidx ⊢
    clear hlen
    go_enter Try.func32, Try.ntmps32
    go_wp2_with fail
    refine hidx.mono ?_
    rintro e w1 ⟨r, rfl, hk1, ⟨rfl, h1⟩ | ⟨i0, x0, rfl, h1, h2, h3⟩⟩
    · exact (Hn.out h1).elim
    have H1 := Lib.hid h1
    have H2 := Lib.hid h2
    have H3 := Lib.hid h3
    have hi0 : i0 < len := by rw [Hlen.out]; exact lt_of_some h1
    clear h1 h2 h3
    go_wp2_with fail
    simp only [show ((i0 : Int) == -1) = false by simp]
    go_loopw [5, 6] (fun i j wr => ∃ (k j' : Nat) (X : List Ln), k < j' ∧ j' ≤ len ∧ i = .int .i64 k ∧ j = .int .i64 j' ∧ Hid (X.length = L.length ∧ X.take k = (L.take j').filter (fun x => !ps.all (fun p => p.ok x)) ∧ X.drop j' = L.drop j' ∧ Row wr g (cap * 4) 34 (X.flatMap encL)) ∧ Kept (fun k => k = g) w wr) (fun i j _ => len - (intOf j).toNat)
    case atStart =>
      refine ⟨i0, i0 + 1, L, by omega, by omega, rfl, by go_num, ⟨rfl, ?_, rfl, Hrow.out.same hk1⟩, hk1.mono (fun _ _ h => h.elim)⟩
      rw [List.take_add_one, H1.out, List.filter_append]
      have : (L.take i0).filter (fun x => !ps.all (fun p => p.ok x)) = L.take i0 := by
        rw [List.filter_eq_self]
        intro x hx
        rw [H3.out x hx]; rfl
      rw [this]
      simp [H2.out]
    case round =>
      obtain ⟨k, j, X, hkj, hj, rfl, rfl, HX, hkp⟩ := hrel
      by_cases h1 : j < len
      · obtain ⟨x, hx⟩ : ∃ x, L[j]? = some x := ⟨_, List.getElem?_eq_getElem (by rw [← Hlen.out]; omega)⟩
        have hXx : X[j]? = some x := by
          have := congrArg (fun l => l[0]?) HX.out.2.2.1
          simpa [List.getElem?_drop, hx] using this
        obtain ⟨y, hy⟩ : ∃ y, X[k]? = some y := ⟨_, List.getElem?_eq_getElem (by have := HX.out.1; have := Hlen.out; omega)⟩
        obtain ⟨hc0, hc1, hc2, hc3⟩ := HX.out.2.2.2.line hXx
        have Hx := Lib.hid hx
        have Hy := Lib.hid hy
        clear hx hXx hy
        have hw := fun W hW => want_any so ps bb x W (hs.kept (hkp.trans' (c := W) hW (fun i _ h => h)) (fun i hi => by subst hi; exact ht)) ((hkp.trans' (c := W) hW (fun i _ h => h)).heap hb (fun h => by obtain ⟨c, hc⟩ := ht; rw [h] at hb; exact heap_ne hb hc (by decide) rfl))
        cases hr : ps.all (fun p => p.ok x) with
        | true =>
          rw [hr] at hw
          have Hr := Lib.hid hr
          clear hr
          go_wp2_with fail
          refine (hw _ ((Kept.refl _ _).alloc _)).mono ?_
          rintro e w2 ⟨rfl, hk2⟩
          go_wp2_with fail
          go_roundw
          case rel =>
            refine ⟨k, j + 1, X, by omega, by omega, rfl, by go_num, ⟨HX.out.1, ?_, ?_, (HX.out.2.2.2.alloc _).same hk2⟩, (hkp.alloc _).trans (hk2.mono (fun _ _ h => h.elim))⟩
            · rw [HX.out.2.1, List.take_add_one, Hx.out, List.filter_append]
              simp [Hr.out]
            · have := congrArg (List.drop 1) HX.out.2.2.1
              simpa [List.drop_drop] using this
          case measure => simp [intOf]; omega
        | false =>
          rw [hr] at hw
          have Hr := Lib.hid hr
          clear hr
          go_wp2_with fail
          refine (hw _ ((Kept.refl _ _).alloc _)).mono ?_
          rintro e w2 ⟨rfl, hk2⟩
          have hk2' : New wr w2 := ((Kept.refl _ _).alloc _).trans hk2
          have hbx := hk2.heap (heap_alloc_new wr (blkL x)) (fun h => h)
          have b0 : w2.cell? ⟨wr.heap.size, 0, none⟩ = some (.int .i64 x.sp) := cell_blk hbx 0
          have b1 : w2.cell? ⟨wr.heap.size, 1, none⟩ = some (.int .i64 x.pg) := cell_blk hbx 1
          have b2 : w2.cell? ⟨wr.heap.size, 2, none⟩ = some (.int .i64 x.fr) := cell_blk hbx 2
          have b3 : w2.cell? ⟨wr.heap.size, 3, none⟩ = some (.int .i64 x.ri) := cell_blk hbx 3
          have hrow2 := HX.out.2.2.2.same hk2'
          obtain ⟨d0, d1, d2, d3⟩ := hrow2.line Hy.out
          have f0 := hrow2.free (k * 4)
          have f1 := hrow2.free (k * 4 + 1)
          have f2 := hrow2.free (k * 4 + 2)
          have f3 := hrow2.free (k * 4 + 3)
          have Hrow2 := Lib.hid (hrow2.put x Hy.out)
          have hgs := Lib.hid hrow2.lt
          clear hrow2 hbx
          go_wp2_with fail
          go_roundw
          case rel =>
            have hkk : Kept (fun k => k = g) w2 ((((w2.setCell ⟨g, k * 4, none⟩ (.int .i64 x.sp)).setCell ⟨g, k * 4 + 1, none⟩ (.int .i64 x.pg)).setCell ⟨g, k * 4 + 2, none⟩ (.int .i64 x.fr)).setCell ⟨g, k * 4 + 3, none⟩ (.int .i64 x.ri)) :=
              (Kept.refl (fun k => k = g) w2).setCell (.inr rfl) _ |>.setCell (.inr rfl) _ |>.setCell (.inr rfl) _ |>.setCell (.inr rfl) _
            refine ⟨k + 1, j + 1, X.set k x, by omega, by omega, by go_num, by go_num, ⟨by simpa using HX.out.1, ?_, ?_, Hrow2.out⟩, (hkp.trans (hk2'.mono (fun _ _ h => h.elim))).trans hkk⟩
            · rw [List.take_add_one, List.take_add_one, List.filter_append, ← HX.out.2.1, Hx.out]
              have e1 := lt_of_some Hy.out
              have e2 : (X.take k).set k x = X.take k := List.set_eq_of_length_le (by simp; omega)
              simp [Hr.out, List.take_set, e1, e2]
            · have := congrArg (List.drop 1) HX.out.2.2.1
              simp only [List.drop_drop] at this
              rw [List.drop_set, if_pos (by omega)]
              exact this
          case measure => simp [intOf]; omega
      · obtain rfl : j = len := by omega
        obtain ⟨cur, hg, hcs, hct⟩ := HX.out.2.2.2.ex
        have hXl := HX.out.1
        have Hl := Hlen.out
        have Hcs := Lib.hid hcs
        have Hct := Lib.hid hct
        clear hcs hct
        obtain ⟨i34, hi, hz0, hz1, hz2⟩ := info_parts info34
        go_wp2_with (refine wpList_clear_blk rfl (.tmp 38) 27 rfl 34 Try.underlying27 i34 (aggL ⟨0, 0, 0, 0⟩) 4 hi hz0 rfl (by simp [Value.cells, Value.oneCell']) _ _ _ rfl g (k * 4) cur 34 hg (by intro h0; rfl) (by have := Hcs.out; omega) ?_; intro w' hg' hk')
        go_ret
        have hXk : X.take k = M := by rw [HX.out.2.1, ← HM.out, Hl, List.take_length]
        have hlM : M.length = k := by rw [← hXk, List.length_take]; omega
        have hlX := lines_len X
        have hlMe := lines_len M
        refine ⟨_, rfl, ?_, fun q hq => hq, (hkp.trans hk').mono (fun i _ h => by simp [Value.ownBlock, h])⟩
        rw [hlM] at hlMe ⊢
        refine ⟨hlMe, .inr ⟨g, cap, _, rfl, Nat.zero_le _, hg', by omega, hcapm, ?_, ?_⟩⟩
        · have := Hcs.out
          simp only [List.size_toArray, splice, List.length_append, List.length_take, List.length_drop, Array.length_toList, size_zeroCells, hzs4]
          omega
        · have h5 : cur.toList.take (k * 4) = M.flatMap encL := by
            have h6 := congrArg (List.take (k * 4)) Hct.out
            rw [List.take_take, show min (k * 4) (X.flatMap encL).length = k * 4 by omega] at h6
            rw [h6, ← hXk]
            have h7 : X.flatMap encL = (X.take k).flatMap encL ++ (X.drop k).flatMap encL := by rw [← List.flatMap_append, List.take_append_drop]
            rw [h7, List.take_left' (by rw [hXk, hlMe])]
          rw [← h5, ← hlMe, ← h5]
          simp [splice]
end Go.Proofs.Ytgjlghjigfclpaa

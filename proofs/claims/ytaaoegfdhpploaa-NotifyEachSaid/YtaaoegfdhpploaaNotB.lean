/- Package notify: all but one number; all but the first; a copy. -/
import Derived.Test.YtaaoegfdhpploaaNotA
set_option linter.all false
namespace Go.Proofs.Ytaaoegfdhpploaa
open Go.RowKit

theorem zeroC_one : (Value.int .i64 0).cells.size = 1 := rfl

set_option maxRecDepth 100000 in
theorem delete_any (v : Value) (x : Int) (bb : Nat) (L : List Int) (w : World) (hb : w.heap[bb]? = some (.cells #[.int .i64 x] 3 (0, 0))) (hbv : v.ownBlock ≠ some bb) (hown : w.ownsRow 0 3 1 v L.length (vI L)) (hL : L.length ≤ 1000000)
    (M : List Int) (hM : L.filter (fun y => !(y == x)) = M) :
    Calls Try.prog 25 #[v, .func (.func 26) #[] #[.pointer (some ⟨bb, 0, none⟩)]] w fun e w' => ∃ v', e = .returned v' ∧ w'.ownsRow 0 3 1 v' M.length (vI M) ∧
      (∀ k, v'.ownBlock = some k → v.ownBlock = some k) ∧ Kept (fun k => v.ownBlock = some k) w w' := by
  have Hown := Lib.hid hown
  have HM := Lib.hid hM
  have hidx := index28_any v x bb L w hb (Src.of_own hown) hL
  clear hM
  by_cases hn : x ∉ L
  · clear hown
    have Hn := Lib.hid hn
    clear hn
    go_enter Try.func25, Try.ntmps25
    go_wp2_with fail
    refine hidx.mono ?_
    rintro e w1 ⟨r, rfl, rfl, ⟨rfl, h1⟩ | ⟨k, rfl, h1, h2⟩⟩
    · clear h1
      go_wp2
      go_ret
      have hML : M = L := by
        rw [← HM.out, List.filter_eq_self]
        intro y hy
        have : y ≠ x := fun e => Hn.out (e ▸ hy)
        simpa using this
      rw [hML]
      exact ⟨v, rfl, Hown.out, fun k hk => hk, Kept.refl _ _⟩
    · exact (Hn.out (List.mem_of_getElem? h1)).elim
  · obtain ⟨g, cap, hv, -, hrow, hlc⟩ := Row.of_ownS hown (by
      cases L with
      | nil => exact (hn (by simp)).elim
      | cons a l => simp)
    have hcapm : cap ≤ maxLen := by
      rcases hown.2 with ⟨h1, _⟩ | ⟨g', cap', cur, h1, _, _, _, h2, _⟩
      · rw [hv] at h1; cases h1
      · rw [hv] at h1; cases h1; exact h2
    subst hv
    have hgb : g ≠ bb := fun e => hbv (by rw [e]; rfl)
    have Hn := Lib.hid hn
    have Hrow := Lib.hid hrow
    have Hb := Lib.hid hb
    clear hown hn hrow hbv hb
    obtain ⟨len, hlen⟩ : ∃ len, len = L.length := ⟨_, rfl⟩
    have Hlen := Lib.hid hlen
    rw [← hlen] at hL hlc hidx ⊢
    clear hlen
    go_enter Try.func25, Try.ntmps25
    go_wp2_with fail
    refine hidx.mono ?_
    rintro e w1 ⟨r, rfl, rfl, ⟨rfl, h1⟩ | ⟨i0, rfl, h1, h3⟩⟩
    · exact (Hn.out h1).elim
    have H1 := Lib.hid h1
    have H3 := Lib.hid h3
    have hi0 : i0 < len := by rw [Hlen.out]; exact lt_of_some h1
    clear h1 h3
    go_wp2_with fail
    simp only [show ((i0 : Int) == -1) = false by simp]
    obtain ⟨w0, hw0⟩ : ∃ w0, w0 = w := ⟨_, rfl⟩
    have Hw0 := Lib.hid hw0
    clear hw0
    go_loopw [5, 6] (fun i j wr => ∃ (k j' : Nat) (X : List Int), k < j' ∧ j' ≤ len ∧ i = .int .i64 k ∧ j = .int .i64 j' ∧ Hid (X.length = L.length ∧ X.take k = (L.take j').filter (fun y => !(y == x)) ∧ X.drop j' = L.drop j' ∧ Row wr g (cap * 1) 3 (vI X)) ∧ Kept (fun k => k = g) w wr) (fun i j _ => len - (intOf j).toNat)
    case atStart =>
      refine ⟨i0, i0 + 1, L, by omega, by omega, rfl, by go_num, ⟨rfl, ?_, rfl, Hrow.out⟩, Kept.refl _ _⟩
      rw [List.take_add_one, H1.out, List.filter_append]
      have : (L.take i0).filter (fun y => !(y == x)) = L.take i0 := by
        rw [List.filter_eq_self]
        intro y hy
        have : y ≠ x := fun e => H3.out (e ▸ hy)
        simpa using this
      rw [this]
      simp
    case round =>
      obtain ⟨k, j, X, hkj, hj, rfl, rfl, HX, hkp⟩ := hrel
      by_cases h1 : j < len
      · obtain ⟨y, hy⟩ : ∃ y, L[j]? = some y := ⟨_, List.getElem?_eq_getElem (by rw [← Hlen.out]; omega)⟩
        have hXy : X[j]? = some y := by
          have := congrArg (fun l => l[0]?) HX.out.2.2.1
          simpa [List.getElem?_drop, hy] using this
        have hXl := HX.out.1
        have hrow := HX.out.2.2.2
        have hcy : wr.cell? ⟨g, j, none⟩ = some (.int .i64 y) := by
          have := hrow.cellI (i := j) (lt_of_some hXy)
          rwa [List.getD, hXy] at this
        have hck : wr.cell? ⟨g, k, none⟩ = some (.int .i64 (X.getD k 0)) := hrow.cellI (i := k) (by have := Hlen.out; omega)
        have hfk := hrow.free k
        have hkX : k < X.length := by have := Hlen.out; omega
        have HkX := Lib.hid hkX
        have Hset := Lib.hid (hrow.set k (.int .i64 y))
        obtain ⟨u, hu⟩ : ∃ u, u = X.getD k 0 := ⟨_, rfl⟩
        rw [← hu] at hck
        have Hy := Lib.hid hy
        have hbr := hkp.heap Hb.out (fun e => hgb e.symm)
        have Hbr := Lib.hid hbr
        clear hy hXy hXl hrow hkX hu hbr
        cases hr : (y == x) with
        | true =>
          have hw := want_any y x bb true wr Hbr.out hr
          have Hr := Lib.hid hr
          clear hr
          go_wp2_with fail
          refine hw.mono ?_
          rintro e w2 ⟨rfl, hw2⟩
          subst hw2
          go_wp2_with fail
          go_roundw
          case rel =>
            refine ⟨k, j + 1, X, by omega, by omega, rfl, by go_num, ⟨HX.out.1, ?_, ?_, HX.out.2.2.2⟩, hkp⟩
            · rw [HX.out.2.1, List.take_add_one, Hy.out, List.filter_append]
              simp [Hr.out]
            · have := congrArg (List.drop 1) HX.out.2.2.1
              simpa [List.drop_drop] using this
          case measure => simp [intOf]; omega
        | false =>
          have hw := want_any y x bb false wr Hbr.out hr
          have Hr := Lib.hid hr
          clear hr
          go_wp2_with fail
          refine hw.mono ?_
          rintro e w2 ⟨rfl, hw2⟩
          subst hw2
          go_wp2_with fail
          go_roundw
          case rel =>
            have hkk : Kept (fun k => k = g) wr (wr.setCell ⟨g, k, none⟩ (.int .i64 y)) := (Kept.refl (fun k => k = g) wr).setCell (.inr rfl) _
            refine ⟨k + 1, j + 1, X.set k y, by omega, by omega, by go_num, by go_num, ⟨by simpa using HX.out.1, ?_, ?_, by have := Hset.out; rwa [← List.map_set] at this⟩, hkp.trans hkk⟩
            · have e1 := HkX.out
              have e2 : (X.take k).set k y = X.take k := List.set_eq_of_length_le (by simp; omega)
              rw [List.take_add_one, List.take_add_one, List.filter_append, ← HX.out.2.1, Hy.out]
              simp [Hr.out, List.take_set, e1, e2]
            · have := congrArg (List.drop 1) HX.out.2.2.1
              simp only [List.drop_drop] at this
              rw [List.drop_set, if_pos (by omega)]
              exact this
          case measure => simp [intOf]; omega
      · obtain rfl : j = len := by omega
        obtain ⟨cur, hg, hcs, hct⟩ := HX.out.2.2.2.ex
        have hXl := HX.out.1
        have Hl := Hlen.out
        have Hcs := Lib.hid hcs
        have Hct := Lib.hid hct
        clear hcs hct
        obtain ⟨i3, hi, hz0, hz1, hz2⟩ := info_parts info3
        go_wp2_with (refine wpList_clear_blk rfl (.tmp 38) 37 rfl 3 Try.underlying37 i3 (.int .i64 0) 1 hi hz0 rfl (by simp [Value.cells, Value.oneCell']) _ _ _ rfl g k cur 3 hg (by intro h0; rfl) (by have := Hcs.out; omega) ?_; intro w' hg' hk')
        go_ret
        have hXk : X.take k = M := by rw [HX.out.2.1, ← HM.out, Hl, List.take_length]
        have hlM : M.length = k := by rw [← hXk, List.length_take]; omega
        refine ⟨_, rfl, ?_, fun q hq => hq, (hkp.trans hk').mono (fun i _ h => by simp [Value.ownBlock, h])⟩
        rw [hlM]
        refine ⟨by simp [vI, hlM], .inr ⟨g, cap, _, rfl, Nat.zero_le _, hg', by omega, hcapm, ?_, ?_⟩⟩
        · have := Hcs.out
          simp only [List.size_toArray, splice, List.length_append, List.length_take, List.length_drop, Array.length_toList, size_zeroCells, zeroC_one]
          omega
        · have h5 : cur.toList.take k = vI M := by
            have h6 := congrArg (List.take k) Hct.out
            rw [List.take_take, show min k (vI X).length = k by simp [vI]; omega] at h6
            rw [h6, ← hXk, vI, vI, List.map_take]
          rw [Nat.mul_one, ← h5]
          simp only [splice, List.append_assoc]
          rw [List.take_left' (by rw [h5]; simp [vI, hlM])]

set_option maxRecDepth 100000 in
theorem delete_first (v : Value) (a : Int) (l : List Int) (w : World) (hown : w.ownsRow 0 3 1 v (l.length + 1) (vI (a :: l))) (hL : l.length ≤ 1000000) :
    Calls Try.prog 22 #[v, .int .i64 0, .int .i64 1] w fun e w' => ∃ v', e = .returned v' ∧ w'.ownsRow 0 3 1 v' l.length (vI l) ∧ v'.ownBlock = v.ownBlock ∧ Kept (fun k => v.ownBlock = some k) w w' := by
  rcases hown.2 with ⟨_, h0⟩ | ⟨g, cap, cur, rfl, -, hg, hnc, hcm, hcs, hct⟩
  · omega
  have Hct := Lib.hid hct
  have Hcs := Lib.hid hcs
  have hcl : ∀ j u, (vI l)[j]? = some u → w.cell? ⟨g, 1 + j, none⟩ = some u := by
    intro j u hj
    have := hown.cells (g := g) rfl (1 + j) u (by rw [Nat.add_comm]; simpa [vI] using hj)
    rw [addr_add, Nat.zero_add] at this
    exact this
  have Hcl := Lib.hid hcl
  clear hcl hown hct hcs
  obtain ⟨i3, hi, hz0, hz1, hz2⟩ := info_parts info3
  obtain ⟨len, hlen⟩ : ∃ len, len = l.length := ⟨_, rfl⟩
  have hl : (vI l).length = len := by simp [vI, hlen]
  have Hl := Lib.hid hl
  have Hlen := Lib.hid hlen
  rw [← hlen] at hL hnc ⊢
  clear hlen hl
  have k1 : (1 : Int) ≤ (len : Int) + 1 := by omega
  have k2 : ((len + 1 : Nat) : Int) = (len : Int) + 1 := by omega
  have k3 : (1 : Int) ≤ ((len + 1 : Nat) : Int) := by omega
  go_enter Try.func22, Try.ntmps22
  go_wp2_with fail
  go_still_tail 6, (by kernel_rfl)
  change wpList _ _ _ _ _ w.drew
  obtain ⟨ad, had, hadv⟩ : ∃ ad : Addr, (if cap = 1 then some (⟨g, 0, none⟩ : Addr) else some ⟨g, 1, none⟩) = some ad ∧ (0 < len → ad = ⟨g, 1, none⟩) := by
    by_cases h : cap = 1
    · exact ⟨_, by rw [if_pos h], fun h0 => by omega⟩
    · exact ⟨_, by rw [if_neg h], fun _ => rfl⟩
  rw [had]
  clear had
  have Hadv := Lib.hid hadv
  clear hadv
  refine wpList_append_in rfl (.tmp 22) (.tmp 25) 37 rfl 3 i3 Try.underlying37 hi g 0 cap cur rfl (by exact hg) ad len (cap - 1) (vI l) rfl ?a1 ?a2 (vI_one l) (by omega) ?a3 ?_
  case a1 => rw [Hl.out, hz1, Nat.mul_one]
  case a2 =>
    intro j u hj
    have h0 : 0 < len := by
      have := lt_of_some hj
      have := Hl.out
      omega
    rw [Hadv.out h0, addr_add, World.cell?_drew]
    exact Hcl.out j u hj
  case a3 => have := Hl.out; have := Hcs.out; omega
  intro w2 hg2 hk2
  obtain ⟨cur2, hcur2⟩ : ∃ cur2, (cur.toList.take (0 * i3.size) ++ vI l ++ cur.toList.drop (0 * i3.size + (vI l).length)).toArray = cur2 := ⟨_, rfl⟩
  rw [hcur2] at hg2
  have hs2 : cur2.size = cap * 1 := by
    rw [← hcur2]
    have := Hl.out; have := Hcs.out
    simp only [Nat.zero_mul, List.take_zero, List.nil_append, Nat.zero_add, List.size_toArray, List.length_append, List.length_drop, Array.length_toList]
    omega
  have ht2 : cur2.toList.take len = vI l := by
    rw [← hcur2]
    have := Hl.out
    simp only [Nat.zero_mul, List.take_zero, List.nil_append, Nat.zero_add]
    rw [List.take_left' (by omega)]
  have Hs2 := Lib.hid hs2
  have Ht2 := Lib.hid ht2
  clear hcur2 hs2 ht2
  simp only [Nat.zero_add]
  go_wp2_with (refine wpList_clear_blk rfl (.tmp 31) 37 rfl 3 Try.underlying37 i3 (.int .i64 0) 1 hi hz0 rfl (by simp [Value.cells, Value.oneCell']) _ _ _ rfl g len cur2 3 hg2 (by intro h0; rfl) (by have := Hs2.out; omega) ?_; intro w' hg' hk')
  go_ret
  refine ⟨_, rfl, ⟨by rw [Hl.out, Nat.mul_one], .inr ⟨g, cap, _, rfl, Nat.zero_le _, hg', by omega, hcm, ?_, ?_⟩⟩, rfl, ((Kept.refl _ _).drew.trans (hk2.trans hk')).mono (fun i _ h => by simp [Value.ownBlock, h])⟩
  · have := Hs2.out
    simp only [List.size_toArray, splice, List.length_append, List.length_take, List.length_drop, Array.length_toList, size_zeroCells, zeroC_one]
    omega
  · have h5 := Ht2.out
    have h6 := Hl.out
    rw [Nat.mul_one, ← h5]
    simp only [splice, List.append_assoc]
    rw [List.take_left' (by rw [h5, h6])]

/-- A copy of a slice. -/
theorem clone_any (v : Value) (L : List Int) (w : World) (hown : w.ownsRow 0 3 1 v L.length (vI L)) (hL : L.length ≤ 1000000) :
    Calls Try.prog 24 #[v] w fun e w' => ∃ v', e = .returned v' ∧ w'.ownsRow w.heap.size 3 1 v' L.length (vI L) ∧ New w w' := by
  obtain ⟨i3, hi, hz0, hz1, hz2⟩ := info_parts info3
  have heq := fun (w : World) (a : Option Addr) (n c n' c' : Nat) => Lib.run_eql_slice_nil (P := Try.prog) w 37 3 a n c n' c' Try.underlying37
  rcases hown.2 with ⟨rfl, h0⟩ | ⟨g, cap, cur, rfl, -, hg, hnc, hcm, hcs, hct⟩
  · have hL0 : L = [] := List.eq_nil_of_length_eq_zero h0
    subst hL0
    go_enter Try.func24, Try.ntmps24
    go_wp2
    go_ret
    exact ⟨_, rfl, ⟨by simp, .inl ⟨rfl, rfl⟩⟩, Kept.refl _ _⟩
  · have hsrc := (Src.of_own hown).alloc (.cells #[] 3)
    have Hsrc := Lib.hid hsrc
    clear hsrc hown hct hcs
    obtain ⟨len, hlen⟩ : ∃ len, len = L.length := ⟨_, rfl⟩
    have Hlen := Lib.hid hlen
    rw [← hlen] at hL hnc ⊢
    clear hlen
    go_enter Try.func24, Try.ntmps24
    go_wp2_with (at_builtin; refine wpList_append_src2 rfl _ _ 37 rfl w.heap.size 3 i3 (.int .i64 0) 1 8 Try.underlying37 hi hz0 hz1 hz2 rfl (by decide) _ 0 [] rfl (World.ownsRow_made w #[] 0 (Nat.le_refl _) (by unfold maxLen; omega) rfl) _ len (vI L) (by first | rfl | exact rfl) (by have := Hsrc.out; rw [← Hlen.out] at this; exact this) (vI_one L) (by simp [maxLen]; omega) (by omega) (by simp) ?_; intro v' w' hown' hgr hbk)
    go_ret
    rw [Nat.zero_add] at hown'
    refine ⟨_, rfl, hown', ?_⟩
    exact ((Kept.refl (fun _ => False) w).alloc _).grown hgr (fun k hk => by cases hk; exact .inl (Nat.le_refl _))
end Go.Proofs.Ytaaoegfdhpploaa

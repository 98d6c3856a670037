/- Package endpoint: all but one; all but the first; a copy. -/
import Derived.Test.YtanongcaokldmaaEndA
set_option linter.all false
namespace Go.Proofs.Ytanongcaokldmaa
open Go.RowKit

set_option maxRecDepth 100000 in
theorem delete_any (v : Value) (s : Int) (bb : Nat) (L : List On) (w : World) (hb : w.heap[bb]? = some (.cells #[.int .i64 s] 3 (0, 0))) (hown : w.ownsRow 0 57 8 v L.length (L.flatMap encO)) (hL : L.length ≤ 1000000)
    (M : List On) (hM : L.filter (fun x => !(x.who == s)) = M) :
    Calls Try.prog 28 #[v, .func (.func 30) #[] #[.pointer (some ⟨bb, 0, none⟩)]] w fun e w' => ∃ v', e = .returned v' ∧ w'.ownsRow 0 57 8 v' M.length (M.flatMap encO) ∧
      (∀ k, v'.ownBlock = some k → v.ownBlock = some k) ∧ Kept (fun k => v.ownBlock = some k) w w' := by
  have Hown := Lib.hid hown
  have HM := Lib.hid hM
  have hidx := index36_30 v s bb L w hb hown hL
  clear hM
  by_cases hn : ∀ x ∈ L, (x.who == s) = false
  · clear hown
    have Hn := Lib.hid hn
    go_enter Try.func28, Try.ntmps28
    go_wp2_with fail
    refine hidx.mono ?_
    rintro e w1 ⟨r, rfl, hk1, ⟨rfl, h1⟩ | ⟨k, x, rfl, h1, h2, h3⟩⟩
    · clear h1
      go_wp2
      go_ret
      have hML : M = L := by
        rw [← HM.out, List.filter_eq_self]
        intro x hx
        rw [Hn.out x hx]; rfl
      rw [hML]
      exact ⟨v, rfl, own_same Hown.out hk1, fun k hk => hk, hk1.mono (fun _ _ h => h.elim)⟩
    · have := Hn.out x (List.mem_of_getElem? h1)
      rw [this] at h2; cases h2
  · obtain ⟨g, cap, hv, -, hrow, hlc⟩ := Row.of_ownS hown (by
      cases L with
      | nil => exact (hn (by simp)).elim
      | cons a l => simp)
    have hv' := Lib.hid hv
    have hcapm : cap ≤ maxLen := by
      rcases hown.2 with ⟨h1, _⟩ | ⟨g', cap', cur, h1, _, _, _, h2, _⟩
      · rw [hv] at h1; cases h1
      · rw [hv] at h1; cases h1; exact h2
    subst hv
    have Hn := Lib.hid hn
    have Hrow := Lib.hid hrow
    have ht : ∃ c, w.heap[g]? = some (.cells c 57 (0, 0)) := let ⟨c, h, _⟩ := hrow.ex; ⟨c, h⟩
    clear hown hn hrow
    obtain ⟨len, hlen⟩ : ∃ len, len = L.length := ⟨_, rfl⟩
    have Hlen := Lib.hid hlen
    rw [← hlen] at hL hlc hidx ⊢
    clear hlen
    go_enter Try.func28, Try.ntmps28
    go_wp2_with fail
    refine hidx.mono ?_
    rintro e w1 ⟨r, rfl, hk1, ⟨rfl, h1⟩ | ⟨i0, x0, rfl, h1, h2, h3⟩⟩
    · exact (Hn.out h1).elim
    have H1 := Lib.hid h1
    have H2 := Lib.hid h2
    have H3 := Lib.hid h3
    have hi0 : i0 < len := by rw [Hlen.out]; exact lt_of_some h1
    clear h1 h2 h3
    go_wp2_with fail
    simp only [show ((i0 : Int) == -1) = false by simp]
    go_loopw [5, 6] (fun i j wr => ∃ (k j' : Nat) (X : List On), k < j' ∧ j' ≤ len ∧ i = .int .i64 k ∧ j = .int .i64 j' ∧ Hid (X.length = L.length ∧ X.take k = (L.take j').filter (fun x => !(x.who == s)) ∧ X.drop j' = L.drop j' ∧ Row wr g (cap * 8) 57 (X.flatMap encO)) ∧ Kept (fun k => k = g) w wr) (fun i j _ => len - (intOf j).toNat)
    case atStart =>
      refine ⟨i0, i0 + 1, L, by omega, by omega, rfl, by go_num, ⟨rfl, ?_, rfl, Hrow.out.same hk1⟩, hk1.mono (fun _ _ h => h.elim)⟩
      rw [List.take_add_one, H1.out, List.filter_append]
      have : (L.take i0).filter (fun x => !(x.who == s)) = L.take i0 := by
        rw [List.filter_eq_self]
        intro x hx
        rw [H3.out x hx]; rfl
      rw [this]
      simp [H2.out]
    case round =>
      obtain ⟨k, j, X, hkj, hj, rfl, rfl, HX, hkp⟩ := hrel
      by_cases h1 : j < len
      · obtain ⟨x, hx⟩ : ∃ x, L[j]? = some x := ⟨_, List.getElem?_eq_getElem (by rw [← Hlen.out]; omega)⟩
        have hXx : X[j]? = some x := by
          have := congrArg (fun l => l[0]?) HX.out.2.2.1
          simpa [List.getElem?_drop, hx] using this
        obtain ⟨y, hy⟩ : ∃ y, X[k]? = some y := ⟨_, List.getElem?_eq_getElem (by have := HX.out.1; have := Hlen.out; omega)⟩
        obtain ⟨hc0, hc1, hc2, hc3, hc4, hc5, hc6, hc7⟩ := HX.out.2.2.2.one hXx
        have Hx := Lib.hid hx
        have Hy := Lib.hid hy
        clear hx hXx hy
        have hw := fun W hW r hr => want_any 30 (by decide) x s bb r W ((hkp.trans' (c := W) hW (fun i _ h => h)).heap hb (fun h => by obtain ⟨c, hc⟩ := ht; rw [h] at hb; exact heap_ne hb hc (by decide) rfl)) hr
        cases hr : (x.who == s) with
        | true =>
          have hw1 := fun W hW => hw W hW _ hr
          have Hr := Lib.hid hr
          clear hr hw
          go_wp2_with fail
          refine (hw1 _ ((Kept.refl _ _).alloc _)).mono ?_
          rintro e w2 ⟨rfl, hk2⟩
          go_wp2_with fail
          go_roundw
          case rel =>
            refine ⟨k, j + 1, X, by omega, by omega, rfl, by go_num, ⟨HX.out.1, ?_, ?_, (HX.out.2.2.2.alloc _).same hk2⟩, (hkp.alloc _).trans (hk2.mono (fun _ _ h => h.elim))⟩
            · rw [HX.out.2.1, List.take_add_one, Hx.out, List.filter_append]
              simp [Hr.out]
            · have := congrArg (List.drop 1) HX.out.2.2.1
              simpa [List.drop_drop] using this
          case measure => simp [intOf]; omega
        | false =>
          have hw1 := fun W hW => hw W hW _ hr
          have Hr := Lib.hid hr
          clear hr hw
          go_wp2_with fail
          refine (hw1 _ ((Kept.refl _ _).alloc _)).mono ?_
          rintro e w2 ⟨rfl, hk2⟩
          have hk2' : New wr w2 := ((Kept.refl _ _).alloc _).trans hk2
          have hbx := hk2.heap (heap_alloc_new wr (blkO x)) (fun h => h)
          obtain ⟨b0, b1, b2, b3, b4, b5, b6, b7⟩ := of8 hbx
          have hrow2 := HX.out.2.2.2.same hk2'
          obtain ⟨d0, d1, d2, d3, d4, d5, d6, d7⟩ := hrow2.one Hy.out
          have f0 := hrow2.free (k * 8)
          have f1 := hrow2.free (k * 8 + 1)
          have f2 := hrow2.free (k * 8 + 2)
          have f3 := hrow2.free (k * 8 + 3)
          have f4 := hrow2.free (k * 8 + 4)
          have f5 := hrow2.free (k * 8 + 5)
          have f6 := hrow2.free (k * 8 + 6)
          have f7 := hrow2.free (k * 8 + 7)
          have Hrow2 := Lib.hid (hrow2.put x Hy.out)
          have hgs := Lib.hid hrow2.lt
          clear hrow2 hbx
          go_wp2_with fail
          go_roundw
          case rel =>
            have hkk := put_kept w2 g k x
            refine ⟨k + 1, j + 1, X.set k x, by omega, by omega, by go_num, by go_num, ⟨by simpa using HX.out.1, ?_, ?_, Hrow2.out⟩, (hkp.trans (hk2'.mono (fun _ _ h => h.elim))).trans hkk⟩
            · rw [List.take_add_one, List.take_add_one, List.filter_append, ← HX.out.2.1, Hx.out]
              have e1 := lt_of_some Hy.out
              have e2 : (X.take k).set k x = X.take k := List.set_eq_of_length_le (by simp; omega)
              simp [Hr.out, List.take_set, e1, e2]
            · have := congrArg (List.drop 1) HX.out.2.2.1
              simp only [List.drop_drop] at this
              rw [List.drop_set, if_pos (by omega)]
              exact this
          case measure => simp [intOf]; omega
      · obtain rfl : j = len := by omega
        obtain ⟨cur, hg, hcs, hct⟩ := HX.out.2.2.2.ex
        have hXl := HX.out.1
        have Hl := Hlen.out
        have Hcs := Lib.hid hcs
        have Hct := Lib.hid hct
        clear hcs hct
        obtain ⟨i57, hi, hz0, hz1, hz2⟩ := info_parts info57
        go_wp2_with (refine wpList_clear_blk rfl (.tmp 38) 53 rfl 57 Try.underlying53 i57 (aggO ⟨0, 0, 0, 0, 0, 0, 0, false⟩) 8 hi hz0 rfl (by simp [Value.cells, Value.oneCell']) _ _ _ rfl g (k * 8) cur 57 hg (by intro h0; rfl) (by have := Hcs.out; omega) ?_; intro w' hg' hk')
        go_ret
        have hXk : X.take k = M := by rw [HX.out.2.1, ← HM.out, Hl, List.take_length]
        have hlM : M.length = k := by rw [← hXk, List.length_take]; omega
        have hlX := ones_len X
        have hlMe := ones_len M
        refine ⟨_, rfl, ?_, fun q hq => hq, (hkp.trans hk').mono (fun i _ h => by simp [Value.ownBlock, h])⟩
        rw [hlM] at hlMe ⊢
        refine ⟨hlMe, .inr ⟨g, cap, _, rfl, Nat.zero_le _, hg', by omega, hcapm, ?_, ?_⟩⟩
        · have := Hcs.out
          simp only [List.size_toArray, splice, List.length_append, List.length_take, List.length_drop, Array.length_toList, size_zeroCells, zc8]
          omega
        · have h5 : cur.toList.take (k * 8) = M.flatMap encO := by
            have h6 := congrArg (List.take (k * 8)) Hct.out
            rw [List.take_take, show min (k * 8) (X.flatMap encO).length = k * 8 by omega] at h6
            rw [h6, ← hXk]
            have h7 : X.flatMap encO = (X.take k).flatMap encO ++ (X.drop k).flatMap encO := by rw [← List.flatMap_append, List.take_append_drop]
            rw [h7, List.take_left' (by rw [hXk, hlMe])]
          rw [← h5, ← hlMe, ← h5]
          simp [splice]
/-- An append for which there is room. -/
theorem wpList_append_in {P : Program} {w : World} {ops : Array Oper} {rest : List Oper} {o : Oper} {a : Act} {Q : Exit → Act → World → Prop} (hgd : o.guard = none) (s x : Operand) (t : TypeId)
    (ho : o.op = .call { callee := .builtin .append, args := #[s, x], argTypes := #[t, t] })
    (e : TypeId) (i : TypeInfo) (ht : P.underlying t = some (.slice e)) (hi : P.info? e = some i)
    (g n cap : Nat) (cur : Array Value) (hs : a.eval s = .slice (some ⟨g, 0, none⟩) n cap) (hg : w.heap[g]? = some (.cells cur e (0, 0)))
    (ad : Addr) (m c : Nat) (news : List Value) (hx : a.eval x = .slice (some ad) m c) (hl : news.length = m * i.size) (hnews : ∀ j u, news[j]? = some u → w.cell? (ad.add j) = some u) (h1 : ∀ u ∈ news, u.oneCell' = true)
    (hroom : n + m ≤ cap) (hfit : n * i.size + news.length ≤ cur.size)
    (h : ∀ w', w'.heap[g]? = some (.cells (cur.toList.take (n * i.size) ++ news ++ cur.toList.drop (n * i.size + news.length)).toArray e (0, 0)) → Kept (fun k => k = g) w w' →
      wpList P ops Q rest (a.put o.dst (.slice (some ⟨g, 0, none⟩) (n + m) cap)) w') : wpList P ops Q (o :: rest) a w := by
  have hr := run_append_room (P := P) w t o.type e i ht hi g n cap cur hg ad m c news hl hnews h1 hroom hfit
  have hK' := h (w.setRow g (cur.toList.take (n * i.size) ++ news ++ cur.toList.drop (n * i.size + news.length)).toArray) (setRow_heap w g cur _ e _ hg) ((Kept.refl (fun k => k = g) _).setRow (.inr rfl) _)
  refine wpList_plain hgd fun K hK => ?_
  unfold Oper.wp execOp
  simp only [ho, resolve, invoke, builtin, Sem.run_bind, Sem.run_pure, Result.andThen_ok, List.map_toArray, List.map_cons, List.map_nil, hs, hx, hr]
  exact hK _ _ hK'

set_option maxRecDepth 100000 in
theorem delete_first (v : Value) (a : On) (l : List On) (w : World) (hown : w.ownsRow 0 57 8 v (l.length + 1) ((a :: l).flatMap encO)) (hL : l.length ≤ 1000000) :
    Calls Try.prog 35 #[v, .int .i64 0, .int .i64 1] w fun e w' => ∃ v', e = .returned v' ∧ w'.ownsRow 0 57 8 v' l.length (l.flatMap encO) ∧ v'.ownBlock = v.ownBlock ∧ Kept (fun k => v.ownBlock = some k) w w' := by
  rcases hown.2 with ⟨_, h0⟩ | ⟨g, cap, cur, rfl, -, hg, hnc, hcm, hcs, hct⟩
  · omega
  have hl := ones_len l
  have Hct := Lib.hid hct
  have Hcs := Lib.hid hcs
  have hcl : ∀ j u, (l.flatMap encO)[j]? = some u → w.cell? ⟨g, 8 + j, none⟩ = some u := by
    intro j u hj
    have := hown.cells (g := g) rfl (8 + j) u (by
      rw [List.flatMap_cons, List.getElem?_append_right (by rw [encO_len]; omega), encO_len, Nat.add_sub_cancel_left]; exact hj)
    rw [addr_add, Nat.zero_add] at this
    exact this
  have Hcl := Lib.hid hcl
  clear hcl hown hct hcs
  obtain ⟨i57, hi, hz0, hz1, hz2⟩ := info_parts info57
  obtain ⟨len, hlen⟩ : ∃ len, len = l.length := ⟨_, rfl⟩
  have Hl := Lib.hid hl
  have Hlen := Lib.hid hlen
  rw [← hlen] at hL hnc ⊢
  clear hlen hl
  have k1 : (1 : Int) ≤ (len : Int) + 1 := by omega
  have k2 : ((len + 1 : Nat) : Int) = (len : Int) + 1 := by omega
  have k3 : (1 : Int) ≤ ((len + 1 : Nat) : Int) := by omega
  go_enter Try.func35, Try.ntmps35
  go_wp2_with fail
  go_still_tail 6, (by kernel_rfl)
  change wpList _ _ _ _ _ w.drew
  obtain ⟨ad, had, hadv⟩ : ∃ ad : Addr, (if cap = 1 then some (⟨g, 0, none⟩ : Addr) else some ⟨g, 8, none⟩) = some ad ∧ (0 < len → ad = ⟨g, 8, none⟩) := by
    by_cases h : cap = 1
    · exact ⟨_, by rw [if_pos h], fun h0 => by omega⟩
    · exact ⟨_, by rw [if_neg h], fun _ => rfl⟩
  rw [had]
  clear had
  have Hadv := Lib.hid hadv
  clear hadv
  refine wpList_append_in rfl (.tmp 22) (.tmp 25) 53 rfl 57 i57 Try.underlying53 hi g 0 cap cur rfl (by exact hg) ad len (cap - 1) (l.flatMap encO) rfl ?a1 ?a2 (encO_one l) (by omega) ?a3 ?_
  case a1 => rw [Hl.out, hz1, Hlen.out]
  case a2 =>
    intro j u hj
    have h0 : 0 < len := by
      have := lt_of_some hj
      have := Hl.out
      have := Hlen.out
      omega
    rw [Hadv.out h0, addr_add, World.cell?_drew]
    exact Hcl.out j u hj
  case a3 => have := Hl.out; have := Hlen.out; have := Hcs.out; omega
  intro w2 hg2 hk2
  obtain ⟨cur2, hcur2⟩ : ∃ cur2, (cur.toList.take (0 * i57.size) ++ l.flatMap encO ++ cur.toList.drop (0 * i57.size + (l.flatMap encO).length)).toArray = cur2 := ⟨_, rfl⟩
  rw [hcur2] at hg2
  have hs2 : cur2.size = cap * 8 := by
    rw [← hcur2]
    have := Hl.out; have := Hlen.out; have := Hcs.out
    simp only [Nat.zero_mul, List.take_zero, List.nil_append, Nat.zero_add, List.size_toArray, List.length_append, List.length_drop, Array.length_toList]
    omega
  have ht2 : cur2.toList.take (len * 8) = l.flatMap encO := by
    rw [← hcur2]
    have := Hl.out; have := Hlen.out
    simp only [Nat.zero_mul, List.take_zero, List.nil_append, Nat.zero_add]
    rw [List.take_left' (by omega)]
  have Hs2 := Lib.hid hs2
  have Ht2 := Lib.hid ht2
  clear hcur2 hs2 ht2
  simp only [Nat.zero_add]
  go_wp2_with (refine wpList_clear_blk rfl (.tmp 31) 53 rfl 57 Try.underlying53 i57 (aggO ⟨0, 0, 0, 0, 0, 0, 0, false⟩) 8 hi hz0 rfl (by simp [Value.cells, Value.oneCell']) _ _ _ rfl g (len * 8) cur2 57 hg2 (by intro h0; rfl) (by have := Hs2.out; omega) ?_; intro w' hg' hk')
  go_ret
  refine ⟨_, rfl, ⟨by rw [Hl.out, Hlen.out], .inr ⟨g, cap, _, rfl, Nat.zero_le _, hg', by omega, hcm, ?_, ?_⟩⟩, rfl, ((Kept.refl _ _).drew.trans (hk2.trans hk')).mono (fun i _ h => by simp [Value.ownBlock, h])⟩
  · have := Hs2.out
    simp only [List.size_toArray, splice, List.length_append, List.length_take, List.length_drop, Array.length_toList, size_zeroCells, zc8]
    omega
  · have h5 := Ht2.out
    have h6 := Hl.out
    rw [← Hlen.out] at h6
    rw [← h5]
    simp only [splice, List.append_assoc]
    rw [List.take_left' (by rw [h5, h6])]

/-- A copy of a slice. -/
theorem clone_any (v : Value) (L : List On) (w : World) (hown : w.ownsRow 0 57 8 v L.length (L.flatMap encO)) (hL : L.length ≤ 1000000) :
    Calls Try.prog 32 #[v] w fun e w' => ∃ v', e = .returned v' ∧ w'.ownsRow 0 57 8 v' L.length (L.flatMap encO) ∧ (∀ k, v'.ownBlock = some k → w.heap.size ≤ k) ∧ New w w' := by
  obtain ⟨i57, hi, hz0, hz1, hz2⟩ := info_parts info57
  have heq := fun (w : World) (a : Option Addr) (n c n' c' : Nat) => Lib.run_eql_slice_nil (P := Try.prog) w 53 57 a n c n' c' Try.underlying53
  rcases hown.2 with ⟨rfl, h0⟩ | ⟨g, cap, cur, rfl, -, hg, hnc, hcm, hcs, hct⟩
  · have hL0 : L = [] := List.eq_nil_of_length_eq_zero h0
    subst hL0
    go_enter Try.func32, Try.ntmps32
    go_wp2
    go_ret
    exact ⟨_, rfl, ⟨by simp, .inl ⟨rfl, rfl⟩⟩, fun k hk => by simp [Value.ownBlock] at hk, Kept.refl _ _⟩
  · have hsrc := (Src.of_own hown).alloc (.cells #[] 57)
    have Hl := Lib.hid (ones_len L)
    have hown0 : (w.alloc (.cells #[] 57)).ownsRow w.heap.size 57 8 (.slice (some ⟨w.heap.size, 0, none⟩) 0 0) 0 [] :=
      ⟨rfl, .inr ⟨_, 0, #[], rfl, Nat.le_refl _, heap_alloc_new _ _, Nat.le_refl _, Nat.zero_le _, rfl, rfl⟩⟩
    have Hown0 := Lib.hid hown0
    have Hsrc := Lib.hid hsrc
    clear hown0 hsrc hown hct hcs
    obtain ⟨len, hlen⟩ : ∃ len, len = L.length := ⟨_, rfl⟩
    have Hlen := Lib.hid hlen
    rw [← hlen] at hL hnc ⊢
    clear hlen
    go_enter Try.func32, Try.ntmps32
    go_wp2_with (at_builtin; refine wpList_append_src2 rfl _ _ 53 rfl w.heap.size 57 i57 (aggO ⟨0, 0, 0, 0, 0, 0, 0, false⟩) 8 64 Try.underlying53 hi hz0 hz1 hz2 rfl (by decide) _ 0 [] rfl Hown0.out _ len (L.flatMap encO) (by first | rfl | exact rfl) (by have := Hsrc.out; rw [← Hlen.out] at this; exact this) (encO_one L) (by simp [maxLen]; omega) (by omega) (by simp) ?_; intro v' w' hown' hgr hbk)
    go_ret
    rw [Nat.zero_add] at hown'
    refine ⟨_, rfl, own_mono hown' (Nat.zero_le _), fun k hk => own_block hown' hk, ?_⟩
    exact ((Kept.refl (fun _ => False) w).alloc _).grown hgr (fun k hk => by cases hk; exact .inl (Nat.le_refl _))
end Go.Proofs.Ytanongcaokldmaa

/- The law's own function 'bound': at most 60 things, each with at most 6 lines. -/
import Derived.Test.YtjimjkfnpklhiaaOrdV
import Derived.Test.YtjimjkfnpklhiaaWalkOrderOne
set_option linter.all false
namespace Go.Proofs.Ytjimjkfnpklhiaa
open Go.RowKit Go.Maps

theorem lines_one (L : List Ln) : ∀ u ∈ L.flatMap encL, u.oneCell' = true := by
  intro u hu
  obtain ⟨x, -, hu⟩ := List.mem_flatMap.1 hu
  simp [encL] at hu
  rcases hu with rfl | rfl | rfl | rfl <;> rfl
theorem Src.takeL {w : World} {ao : Option Addr} {n c m : Nat} {L : List Ln} (h : Src w (.slice ao n c) n 4 (L.flatMap encL)) (hm : m ≤ n) : Src w (.slice ao m c) m 4 ((L.take m).flatMap encL) := by
  obtain ⟨ao', c', he, hc, hl, h3⟩ := h
  simp only [Value.slice.injEq, true_and] at he
  obtain ⟨rfl, rfl⟩ := he
  rw [lines_len] at hl
  refine ⟨_, _, rfl, hc, by rw [lines_len, List.length_take]; omega, fun j u hj => h3 j u ?_⟩
  have hjl := (List.getElem?_eq_some_iff.1 hj).1
  rw [lines_len] at hjl
  rw [← List.take_append_drop m L, List.flatMap_append, List.getElem?_append_left (by rw [lines_len]; exact hjl)]
  exact hj
theorem info78 : (Try.prog.info? 78).map (fun i => (i.zero, i.size, i.bytes)) = some (some (.agg #[.int .i64 0, .int .i64 0, .int .i64 0, .int .i64 0]), 4, 32) := by kernel_rfl

/-- What 'bound' hands back. -/
structure Bd (w0 w : World) (v : Value) (M : List Sn) : Prop where
  own : w.ownsRow w0.heap.size 40 10 v M.length (M.flatMap encS)
  src : ∀ s ∈ M, w.ownsRow w0.heap.size 78 4 s.v s.t.fg.length (s.t.fg.flatMap encL)
  small : ∀ s ∈ M, s.t.fg.length ≤ 6
  len : M.length ≤ 60
theorem Bd.same {w0 w w' : World} {v : Value} {M : List Sn} (h : Bd w0 w v M) (k : New w w') : Bd w0 w' v M := ⟨own_same h.own k, fun s hs => own_same (h.src s hs) k, h.small, h.len⟩

set_option maxRecDepth 100000 in
set_option maxHeartbeats 8000000 in
theorem bound_any (lv : Value) (L : List Sn) (w : World) (hs : Src w lv L.length 10 (L.flatMap encS)) (hv : ∀ s ∈ L, Src w s.v s.t.fg.length 4 (s.t.fg.flatMap encL) ∧ s.t.fg.length ≤ maxLen ∧ ∃ ao n c, s.v = .slice ao n c ∧ n ≤ c) (hl : L.length ≤ maxLen) :
    Calls Try.prog 10 #[lv] w fun e w' => ∃ v M, e = .returned v ∧ Bd w w' v M ∧ New w w' := by
  obtain ⟨-, ao, cc, rfl, hcl⟩ := hs.seen
  obtain ⟨len, hlen⟩ : ∃ len, len = L.length := ⟨_, rfl⟩
  rw [← hlen] at hl hs ⊢
  unfold maxLen at hl
  have Hv := Lib.hid hv
  have Hcl := Lib.hid hcl
  have Hlen := Lib.hid hlen
  clear hv hs hlen hcl
  obtain ⟨i0, hi0, hz0, hz1, hz2⟩ := info_parts info40
  obtain ⟨i7, hi7, hy0, hy1, hy2⟩ := info_parts info78
  go_enter Try.func10, Try.ntmps10
  go_wp2_with fail
  have hE0 : Bd w (w.alloc (.cells #[] 40)) (.slice (some ⟨w.heap.size, 0, none⟩) 0 0) [] := ⟨World.ownsRow_made w #[] 0 (Nat.le_refl _) (by unfold maxLen; omega) rfl, by simp, by simp, by simp⟩
  go_loopw [3, 4] (fun m i wr => ∃ (j : Nat) (vm : Value) (M : List Sn), j ≤ len ∧ j ≤ 60 ∧ vm = m ∧ i = .int .i64 j ∧ Hid (M.length = j) ∧ Hid (Bd w wr vm M) ∧ Hid (New w wr)) (fun _ i _ => 60 - (intOf i).toNat)
  case atStart => exact ⟨0, _, [], by omega, by omega, rfl, rfl, rfl, hE0, (Kept.refl _ _).alloc _⟩
  case round =>
    clear hE0
    obtain ⟨j, vm, M, hj, hj60, rfl, rfl, HM, HB, HN⟩ := hrel
    by_cases h1 : j < len
    · by_cases h2 : j < 60
      · have h2z : (j : Int) < 60 := by omega
        obtain ⟨s, hs⟩ : ∃ s, L[j]? = some s := ⟨_, List.getElem?_eq_getElem (by have := Hlen.out; omega)⟩
        obtain ⟨B, Of, rfl, c0, c1, c2, c3, c4, c5, c6, c7, c8, c9⟩ := Hcl.out j s hs
        obtain ⟨hsv, hfl, av, nv, cv, hvv, hcap⟩ := Hv.out s (List.mem_of_getElem? hs)
        obtain ⟨fl, hfle⟩ : ∃ fl, fl = s.t.fg.length := ⟨_, rfl⟩
        obtain ⟨sk, sc, sn, ⟨te, tw, tk, fg⟩, sv, sfr, srt, sis⟩ := s
        simp only at hvv c0 c1 c2 c3 c4 c5 c6 c7 c8 c9 hsv hfl hfle
        subst hvv
        obtain rfl : fl = nv := by obtain ⟨_, _, e, _⟩ := hsv; rw [hfle]; injection e with _ e _; exact e.symm
        rw [← hfle] at hsv hfl
        unfold maxLen at hfl
        replace c0 := cell_kept HN.out c0 (fun h => h)
        replace c1 := cell_kept HN.out c1 (fun h => h)
        replace c2 := cell_kept HN.out c2 (fun h => h)
        replace c3 := cell_kept HN.out c3 (fun h => h)
        replace c4 := cell_kept HN.out c4 (fun h => h)
        replace c5 := cell_kept HN.out c5 (fun h => h)
        replace c6 := cell_kept HN.out c6 (fun h => h)
        replace c7 := cell_kept HN.out c7 (fun h => h)
        replace c8 := cell_kept HN.out c8 (fun h => h)
        replace c9 := cell_kept HN.out c9 (fun h => h)
        replace hsv := hsv.same HN.out
        have Hfl := Lib.hid hfle
        have Hfc : Hid (fl ≤ cv) := hcap
        have Hsv := Lib.hid hsv
        clear hfle hcap hsv hs
        go_upto_region 6 with fail
        clear c0 c1 c2 c3 c4 c5 c6 c7 c8 c9
        obtain ⟨W, hW⟩ : ∃ W, W = wr.alloc (.cells #[.int .i64 sk, .int .i64 sc, .int .i64 sn, .int .i64 te, .int .u64 tw, .int .i64 tk, .slice av fl cv, .int .i64 sfr, .int .i64 srt, .bool sis] 40) := ⟨_, rfl⟩
        rw [← hW]
        have kW : New wr W := by rw [hW]; exact (Kept.refl _ _).alloc _
        obtain ⟨p, hp⟩ : ∃ p, p = wr.heap.size := ⟨_, rfl⟩
        have hb : W.heap[p]? = some (.cells #[.int .i64 sk, .int .i64 sc, .int .i64 sn, .int .i64 te, .int .u64 tw, .int .i64 tk, .slice av fl cv, .int .i64 sfr, .int .i64 srt, .bool sis] 40 (0, 0)) := by rw [hW, hp]; exact heap_alloc_new _ _
        have hBd := HB.out.same kW
        have hNw := HN.out.trans kW
        have hSv := Hsv.out.same kW
        rw [← hp]
        have Hvp : Hid (∀ k, vm.ownBlock = some k → k < p) := fun k hk => by rw [hp]; exact own_size HB.out.own hk
        have hpw : w.heap.size ≤ p := by rw [hp]; exact HN.out.size
        have d6 := cell_blk hb 6
        simp at d6
        have Hb := Lib.hid hb
        have HBd := Lib.hid hBd
        have HNw := Lib.hid hNw
        have HSv := Lib.hid hSv
        clear hb hBd hNw hSv HB HN Hsv hW hp kW
        have hmk : (W.alloc (.cells #[] 78)).ownsRow w.heap.size 78 4 (.slice (some ⟨W.heap.size, 0, none⟩) 0 0) 0 (([] : List Ln).flatMap encL) := World.ownsRow_made W #[] 0 HNw.out.size (by unfold maxLen; omega) rfl
        have kA : New W (W.alloc (.cells #[] 78)) := (Kept.refl _ _).alloc _
        have d6' := cell_kept kA d6 (fun h => h)
        have hszW := HNw.out.size
        rcases av with _ | ⟨B2, O2, sp2⟩
        · have hf0 : fl = 0 := by
            obtain ⟨_, _, e, h0, _⟩ := HSv.out
            injection e with e1 e2 e3
            have := h0 e1.symm
            have := Hfc.out
            omega
          have hc0 : cv = 0 := by
            obtain ⟨_, _, e, h0, _⟩ := HSv.out
            injection e with e1 e2 e3
            rw [e3]; exact h0 e1.symm
          subst hf0
          subst hc0
          have hsrc : Src (W.alloc (.cells #[] 78)) (.slice none 0 0) 0 4 ((fg.take 0).flatMap encL) := Src.takeL (HSv.out.same kA) (by omega)
          have Hlt : Hid ((fg.take 0).length = 0) := by show (fg.take 0).length = 0; rw [List.length_take, ← Hfl.out]; omega
          go_upto_region 7 with (at_builtin; refine wpList_append_src rfl _ _ 34 rfl w.heap.size 78 i7 _ 4 32 Try.underlying34 hi7 hy0 hy1 hy2 rfl (by decide) _ 0 _ rfl hmk _ 0 _ rfl hsrc (lines_one _) (by unfold maxLen; omega) (by omega) (by simp; omega) ?_; intro v2 w2 hown2 hgr2; (have hk2 : New W w2 := kA.grown hgr2 (fun k hk => .inl (by have h9 : W.heap.size = k := Option.some.inj hk; omega))); (obtain ⟨ao2, c2, hv2, -⟩ := Src.of_own hown2); rw [Nat.zero_add] at hv2 hown2; (have hb2 := hk2.heap Hb.out (fun h => h)); (have f2 := free_blk hb2 6); (have e2 := cell_blk hb2 6); simp at e2; clear hmk hsrc kA d6 d6' hgr2; subst hv2)
          obtain ⟨W3, hW3⟩ : ∃ X, X = w2.setCell ⟨p, 6, none⟩ (.slice ao2 0 c2) := ⟨_, rfl⟩
          rw [← hW3]
          have hb3 : W3.heap[p]? = some (.cells #[.int .i64 sk, .int .i64 sc, .int .i64 sn, .int .i64 te, .int .u64 tw, .int .i64 tk, .slice ao2 0 c2, .int .i64 sfr, .int .i64 srt, .bool sis] 40 (0, 0)) := by rw [hW3]; exact heap_setCell_same _ _ 6 _ _ _ hb2
          have kS : Kept (fun k => k = p) w2 W3 := by rw [hW3]; exact (Kept.refl (fun k => k = p) _).setCell (.inr rfl) _
          have hne : ∀ v n xs, w2.ownsRow w.heap.size 78 4 v n xs → ∀ i, v.ownBlock = some i → ¬ i = p := fun v n xs h i hi e => by
            obtain ⟨c9, h9⟩ := own_type h hi
            rw [e, hb2] at h9
            cases h9
          have hown3 : W3.ownsRow w.heap.size 78 4 (.slice ao2 0 c2) 0 ((fg.take 0).flatMap encL) := own_kept hown2 kS (hne _ _ _ hown2)
          have hvm3 : W3.ownsRow w.heap.size 40 10 vm M.length (M.flatMap encS) := own_kept (own_same HBd.out.own hk2) kS (fun i hi => by have := Hvp.out i hi; omega)
          have hsr3 : ∀ s ∈ M, W3.ownsRow w.heap.size 78 4 s.v s.t.fg.length (s.t.fg.flatMap encL) := fun s hs => own_kept (own_same (HBd.out.src s hs) hk2) kS (hne _ _ _ (own_same (HBd.out.src s hs) hk2))
          have hn3 : New w W3 := (HNw.out.trans hk2).new kS (fun i hi => by omega)
          have hM9 := HM.out
          have d0 := cell_blk hb3 0
          have d1 := cell_blk hb3 1
          have d2 := cell_blk hb3 2
          have d3 := cell_blk hb3 3
          have d4 := cell_blk hb3 4
          have d5 := cell_blk hb3 5
          have d6 := cell_blk hb3 6
          have d7 := cell_blk hb3 7
          have d8 := cell_blk hb3 8
          have d9 := cell_blk hb3 9
          simp at d0 d1 d2 d3 d4 d5 d6 d7 d8 d9
          have Hown3 := Lib.hid hown3
          have Hsr3 := Lib.hid hsr3
          have Hn3 := Lib.hid hn3
          have hszW3 := hn3.size
          have hvA : (W3.alloc (.cells #[.int .i64 sk, .int .i64 sc, .int .i64 sn, .int .i64 te, .int .u64 tw, .int .i64 tk, .slice ao2 0 c2, .int .i64 sfr, .int .i64 srt, .bool sis] 40)).ownsRow w.heap.size 40 10 vm M.length (M.flatMap encS) := own_same hvm3 ((Kept.refl _ _).alloc _)
          have hlit := Src.lit W3 #[.int .i64 sk, .int .i64 sc, .int .i64 sn, .int .i64 te, .int .u64 tw, .int .i64 tk, .slice ao2 0 c2, .int .i64 sfr, .int .i64 srt, .bool sis] 40 1 10 rfl
          have Hsm := Lib.hid HBd.out.small
          rw [hM9] at hvA
          clear hsr3 hn3 hvm3 hne kS hb3 hW3 hb2 f2 e2 hown2 hk2 hown3 Hb HNw HBd hM9
          go_wp2_with (at_builtin; refine wpList_append_src rfl _ _ 22 rfl w.heap.size 40 i0 _ 10 96 Try.underlying22 hi0 hz0 hz1 hz2 rfl (by decide) vm j _ rfl hvA _ 1 _ rfl hlit (by simp [Value.oneCell']) (by unfold maxLen; omega) (by omega) (by simp; omega) ?_; intro v5 w5 hown5 hgr5; (have Hn5 : Hid (New w w5) := (Hn3.out.alloc _).grown hgr5 (fun i hi => .inl (own_block hvA hi))); (have hns : ∀ v n xs, W3.ownsRow w.heap.size 78 4 v n xs → w5.ownsRow w.heap.size 78 4 v n xs := fun v n xs h => own_kept (own_same h ((Kept.refl _ _).alloc _)) (Kept.of_grown hgr5) (fun i hi hj => by { obtain ⟨c1, e1⟩ := own_type (own_same h ((Kept.refl (fun _ => False) W3).alloc (.cells #[.int .i64 sk, .int .i64 sc, .int .i64 sn, .int .i64 te, .int .u64 tw, .int .i64 tk, .slice ao2 0 c2, .int .i64 sfr, .int .i64 srt, .bool sis] 40))) hi; obtain ⟨c2, e2⟩ := own_type hvA hj; rw [e1] at e2; cases e2 })); (have Hx := Lib.hid (hns _ _ _ Hown3.out)); (have Hs5 := Lib.hid (fun s hs => hns _ _ _ (Hsr3.out s hs))); (have Hown5 := Lib.hid hown5); clear hns hgr5 hown5 hlit hvA)
          go_roundw
          case rel =>
            refine ⟨j + 1, v5, M ++ [⟨sk, sc, sn, ⟨te, tw, tk, fg.take 0⟩, .slice ao2 0 c2, sfr, srt, sis⟩], by omega, by omega, rfl, by go_num, (by show (M ++ [_]).length = j + 1; rw [List.length_append, HM.out]; rfl), ⟨?_, fun s hs => ?_, fun s hs => ?_, ?_⟩, Hn5.out⟩
            · rw [List.length_append, HM.out, ← enc_snoc]; exact Hown5.out
            · rcases List.mem_append.1 hs with hs | hs
              · exact Hs5.out s hs
              · obtain rfl := List.mem_singleton.1 hs
                rw [show (fg.take 0).length = 0 from Hlt.out]
                exact Hx.out
            · rcases List.mem_append.1 hs with hs | hs
              · exact Hsm.out s hs
              · obtain rfl := List.mem_singleton.1 hs
                rw [show (fg.take 0).length = 0 from Hlt.out]
                omega
            · rw [List.length_append, HM.out]; simp; omega
          case measure => simp [intOf]; omega
        · by_cases h6 : fl ≤ 6
          · have h6z : ¬ (6 : Int) < (fl : Int) := by omega
            have hcz : fl ≤ cv := Hfc.out
            have hsrc : Src (W.alloc (.cells #[] 78)) (.slice (some ⟨B2, O2, sp2⟩) fl cv) fl 4 ((fg.take fl).flatMap encL) := Src.takeL (HSv.out.same kA) (by omega)
            have Hlt : Hid ((fg.take fl).length = fl) := by show (fg.take fl).length = fl; rw [List.length_take, ← Hfl.out]; omega
            go_upto_region 7 with (at_builtin; refine wpList_append_src rfl _ _ 34 rfl w.heap.size 78 i7 _ 4 32 Try.underlying34 hi7 hy0 hy1 hy2 rfl (by decide) _ 0 _ rfl hmk _ fl _ rfl hsrc (lines_one _) (by unfold maxLen; omega) (by omega) (by simp; omega) ?_; intro v2 w2 hown2 hgr2; (have hk2 : New W w2 := kA.grown hgr2 (fun k hk => .inl (by have h9 : W.heap.size = k := Option.some.inj hk; omega))); (obtain ⟨ao2, c2, hv2, -⟩ := Src.of_own hown2); rw [Nat.zero_add] at hv2 hown2; (have hb2 := hk2.heap Hb.out (fun h => h)); (have f2 := free_blk hb2 6); (have e2 := cell_blk hb2 6); simp at e2; clear hmk hsrc kA d6 d6' hgr2; subst hv2)
            obtain ⟨W3, hW3⟩ : ∃ X, X = w2.setCell ⟨p, 6, none⟩ (.slice ao2 fl c2) := ⟨_, rfl⟩
            rw [← hW3]
            have hb3 : W3.heap[p]? = some (.cells #[.int .i64 sk, .int .i64 sc, .int .i64 sn, .int .i64 te, .int .u64 tw, .int .i64 tk, .slice ao2 fl c2, .int .i64 sfr, .int .i64 srt, .bool sis] 40 (0, 0)) := by rw [hW3]; exact heap_setCell_same _ _ 6 _ _ _ hb2
            have kS : Kept (fun k => k = p) w2 W3 := by rw [hW3]; exact (Kept.refl (fun k => k = p) _).setCell (.inr rfl) _
            have hne : ∀ v n xs, w2.ownsRow w.heap.size 78 4 v n xs → ∀ i, v.ownBlock = some i → ¬ i = p := fun v n xs h i hi e => by
              obtain ⟨c9, h9⟩ := own_type h hi
              rw [e, hb2] at h9
              cases h9
            have hown3 : W3.ownsRow w.heap.size 78 4 (.slice ao2 fl c2) fl ((fg.take fl).flatMap encL) := own_kept hown2 kS (hne _ _ _ hown2)
            have hvm3 : W3.ownsRow w.heap.size 40 10 vm M.length (M.flatMap encS) := own_kept (own_same HBd.out.own hk2) kS (fun i hi => by have := Hvp.out i hi; omega)
            have hsr3 : ∀ s ∈ M, W3.ownsRow w.heap.size 78 4 s.v s.t.fg.length (s.t.fg.flatMap encL) := fun s hs => own_kept (own_same (HBd.out.src s hs) hk2) kS (hne _ _ _ (own_same (HBd.out.src s hs) hk2))
            have hn3 : New w W3 := (HNw.out.trans hk2).new kS (fun i hi => by omega)
            have hM9 := HM.out
            have d0 := cell_blk hb3 0
            have d1 := cell_blk hb3 1
            have d2 := cell_blk hb3 2
            have d3 := cell_blk hb3 3
            have d4 := cell_blk hb3 4
            have d5 := cell_blk hb3 5
            have d6 := cell_blk hb3 6
            have d7 := cell_blk hb3 7
            have d8 := cell_blk hb3 8
            have d9 := cell_blk hb3 9
            simp at d0 d1 d2 d3 d4 d5 d6 d7 d8 d9
            have Hown3 := Lib.hid hown3
            have Hsr3 := Lib.hid hsr3
            have Hn3 := Lib.hid hn3
            have hszW3 := hn3.size
            have hvA : (W3.alloc (.cells #[.int .i64 sk, .int .i64 sc, .int .i64 sn, .int .i64 te, .int .u64 tw, .int .i64 tk, .slice ao2 fl c2, .int .i64 sfr, .int .i64 srt, .bool sis] 40)).ownsRow w.heap.size 40 10 vm M.length (M.flatMap encS) := own_same hvm3 ((Kept.refl _ _).alloc _)
            have hlit := Src.lit W3 #[.int .i64 sk, .int .i64 sc, .int .i64 sn, .int .i64 te, .int .u64 tw, .int .i64 tk, .slice ao2 fl c2, .int .i64 sfr, .int .i64 srt, .bool sis] 40 1 10 rfl
            have Hsm := Lib.hid HBd.out.small
            rw [hM9] at hvA
            clear hsr3 hn3 hvm3 hne kS hb3 hW3 hb2 f2 e2 hown2 hk2 hown3 Hb HNw HBd hM9
            go_wp2_with (at_builtin; refine wpList_append_src rfl _ _ 22 rfl w.heap.size 40 i0 _ 10 96 Try.underlying22 hi0 hz0 hz1 hz2 rfl (by decide) vm j _ rfl hvA _ 1 _ rfl hlit (by simp [Value.oneCell']) (by unfold maxLen; omega) (by omega) (by simp; omega) ?_; intro v5 w5 hown5 hgr5; (have Hn5 : Hid (New w w5) := (Hn3.out.alloc _).grown hgr5 (fun i hi => .inl (own_block hvA hi))); (have hns : ∀ v n xs, W3.ownsRow w.heap.size 78 4 v n xs → w5.ownsRow w.heap.size 78 4 v n xs := fun v n xs h => own_kept (own_same h ((Kept.refl _ _).alloc _)) (Kept.of_grown hgr5) (fun i hi hj => by { obtain ⟨c1, e1⟩ := own_type (own_same h ((Kept.refl (fun _ => False) W3).alloc (.cells #[.int .i64 sk, .int .i64 sc, .int .i64 sn, .int .i64 te, .int .u64 tw, .int .i64 tk, .slice ao2 fl c2, .int .i64 sfr, .int .i64 srt, .bool sis] 40))) hi; obtain ⟨c2, e2⟩ := own_type hvA hj; rw [e1] at e2; cases e2 })); (have Hx := Lib.hid (hns _ _ _ Hown3.out)); (have Hs5 := Lib.hid (fun s hs => hns _ _ _ (Hsr3.out s hs))); (have Hown5 := Lib.hid hown5); clear hns hgr5 hown5 hlit hvA)
            go_roundw
            case rel =>
              refine ⟨j + 1, v5, M ++ [⟨sk, sc, sn, ⟨te, tw, tk, fg.take fl⟩, .slice ao2 fl c2, sfr, srt, sis⟩], by omega, by omega, rfl, by go_num, (by show (M ++ [_]).length = j + 1; rw [List.length_append, HM.out]; rfl), ⟨?_, fun s hs => ?_, fun s hs => ?_, ?_⟩, Hn5.out⟩
              · rw [List.length_append, HM.out, ← enc_snoc]; exact Hown5.out
              · rcases List.mem_append.1 hs with hs | hs
                · exact Hs5.out s hs
                · obtain rfl := List.mem_singleton.1 hs
                  rw [show (fg.take fl).length = fl from Hlt.out]
                  exact Hx.out
              · rcases List.mem_append.1 hs with hs | hs
                · exact Hsm.out s hs
                · obtain rfl := List.mem_singleton.1 hs
                  rw [show (fg.take fl).length = fl from Hlt.out]
                  omega
              · rw [List.length_append, HM.out]; simp; omega
            case measure => simp [intOf]; omega
          · have h6z : (6 : Int) < (fl : Int) := by omega
            have hcz : 6 ≤ cv := by have := Hfc.out; omega
            have hcz2 : (6 : Int) ≤ (cv : Int) := by omega
            have hsrc : Src (W.alloc (.cells #[] 78)) (.slice (some ⟨B2, O2, sp2⟩) 6 cv) 6 4 ((fg.take 6).flatMap encL) := Src.takeL (HSv.out.same kA) (by omega)
            have Hlt : Hid ((fg.take 6).length = 6) := by show (fg.take 6).length = 6; rw [List.length_take, ← Hfl.out]; omega
            go_upto_region 7 with (at_builtin; refine wpList_append_src rfl _ _ 34 rfl w.heap.size 78 i7 _ 4 32 Try.underlying34 hi7 hy0 hy1 hy2 rfl (by decide) _ 0 _ rfl hmk _ 6 _ rfl hsrc (lines_one _) (by unfold maxLen; omega) (by omega) (by simp; omega) ?_; intro v2 w2 hown2 hgr2; (have hk2 : New W w2 := kA.grown hgr2 (fun k hk => .inl (by have h9 : W.heap.size = k := Option.some.inj hk; omega))); (obtain ⟨ao2, c2, hv2, -⟩ := Src.of_own hown2); rw [Nat.zero_add] at hv2 hown2; (have hb2 := hk2.heap Hb.out (fun h => h)); (have f2 := free_blk hb2 6); (have e2 := cell_blk hb2 6); simp at e2; clear hmk hsrc kA d6 d6' hgr2; subst hv2)
            obtain ⟨W3, hW3⟩ : ∃ X, X = w2.setCell ⟨p, 6, none⟩ (.slice ao2 6 c2) := ⟨_, rfl⟩
            rw [← hW3]
            have hb3 : W3.heap[p]? = some (.cells #[.int .i64 sk, .int .i64 sc, .int .i64 sn, .int .i64 te, .int .u64 tw, .int .i64 tk, .slice ao2 6 c2, .int .i64 sfr, .int .i64 srt, .bool sis] 40 (0, 0)) := by rw [hW3]; exact heap_setCell_same _ _ 6 _ _ _ hb2
            have kS : Kept (fun k => k = p) w2 W3 := by rw [hW3]; exact (Kept.refl (fun k => k = p) _).setCell (.inr rfl) _
            have hne : ∀ v n xs, w2.ownsRow w.heap.size 78 4 v n xs → ∀ i, v.ownBlock = some i → ¬ i = p := fun v n xs h i hi e => by
              obtain ⟨c9, h9⟩ := own_type h hi
              rw [e, hb2] at h9
              cases h9
            have hown3 : W3.ownsRow w.heap.size 78 4 (.slice ao2 6 c2) 6 ((fg.take 6).flatMap encL) := own_kept hown2 kS (hne _ _ _ hown2)
            have hvm3 : W3.ownsRow w.heap.size 40 10 vm M.length (M.flatMap encS) := own_kept (own_same HBd.out.own hk2) kS (fun i hi => by have := Hvp.out i hi; omega)
            have hsr3 : ∀ s ∈ M, W3.ownsRow w.heap.size 78 4 s.v s.t.fg.length (s.t.fg.flatMap encL) := fun s hs => own_kept (own_same (HBd.out.src s hs) hk2) kS (hne _ _ _ (own_same (HBd.out.src s hs) hk2))
            have hn3 : New w W3 := (HNw.out.trans hk2).new kS (fun i hi => by omega)
            have hM9 := HM.out
            have d0 := cell_blk hb3 0
            have d1 := cell_blk hb3 1
            have d2 := cell_blk hb3 2
            have d3 := cell_blk hb3 3
            have d4 := cell_blk hb3 4
            have d5 := cell_blk hb3 5
            have d6 := cell_blk hb3 6
            have d7 := cell_blk hb3 7
            have d8 := cell_blk hb3 8
            have d9 := cell_blk hb3 9
            simp at d0 d1 d2 d3 d4 d5 d6 d7 d8 d9
            have Hown3 := Lib.hid hown3
            have Hsr3 := Lib.hid hsr3
            have Hn3 := Lib.hid hn3
            have hszW3 := hn3.size
            have hvA : (W3.alloc (.cells #[.int .i64 sk, .int .i64 sc, .int .i64 sn, .int .i64 te, .int .u64 tw, .int .i64 tk, .slice ao2 6 c2, .int .i64 sfr, .int .i64 srt, .bool sis] 40)).ownsRow w.heap.size 40 10 vm M.length (M.flatMap encS) := own_same hvm3 ((Kept.refl _ _).alloc _)
            have hlit := Src.lit W3 #[.int .i64 sk, .int .i64 sc, .int .i64 sn, .int .i64 te, .int .u64 tw, .int .i64 tk, .slice ao2 6 c2, .int .i64 sfr, .int .i64 srt, .bool sis] 40 1 10 rfl
            have Hsm := Lib.hid HBd.out.small
            rw [hM9] at hvA
            clear hsr3 hn3 hvm3 hne kS hb3 hW3 hb2 f2 e2 hown2 hk2 hown3 Hb HNw HBd hM9
            go_wp2_with (at_builtin; refine wpList_append_src rfl _ _ 22 rfl w.heap.size 40 i0 _ 10 96 Try.underlying22 hi0 hz0 hz1 hz2 rfl (by decide) vm j _ rfl hvA _ 1 _ rfl hlit (by simp [Value.oneCell']) (by unfold maxLen; omega) (by omega) (by simp; omega) ?_; intro v5 w5 hown5 hgr5; (have Hn5 : Hid (New w w5) := (Hn3.out.alloc _).grown hgr5 (fun i hi => .inl (own_block hvA hi))); (have hns : ∀ v n xs, W3.ownsRow w.heap.size 78 4 v n xs → w5.ownsRow w.heap.size 78 4 v n xs := fun v n xs h => own_kept (own_same h ((Kept.refl _ _).alloc _)) (Kept.of_grown hgr5) (fun i hi hj => by { obtain ⟨c1, e1⟩ := own_type (own_same h ((Kept.refl (fun _ => False) W3).alloc (.cells #[.int .i64 sk, .int .i64 sc, .int .i64 sn, .int .i64 te, .int .u64 tw, .int .i64 tk, .slice ao2 6 c2, .int .i64 sfr, .int .i64 srt, .bool sis] 40))) hi; obtain ⟨c2, e2⟩ := own_type hvA hj; rw [e1] at e2; cases e2 })); (have Hx := Lib.hid (hns _ _ _ Hown3.out)); (have Hs5 := Lib.hid (fun s hs => hns _ _ _ (Hsr3.out s hs))); (have Hown5 := Lib.hid hown5); clear hns hgr5 hown5 hlit hvA)
            go_roundw
            case rel =>
              refine ⟨j + 1, v5, M ++ [⟨sk, sc, sn, ⟨te, tw, tk, fg.take 6⟩, .slice ao2 6 c2, sfr, srt, sis⟩], by omega, by omega, rfl, by go_num, (by show (M ++ [_]).length = j + 1; rw [List.length_append, HM.out]; rfl), ⟨?_, fun s hs => ?_, fun s hs => ?_, ?_⟩, Hn5.out⟩
              · rw [List.length_append, HM.out, ← enc_snoc]; exact Hown5.out
              · rcases List.mem_append.1 hs with hs | hs
                · exact Hs5.out s hs
                · obtain rfl := List.mem_singleton.1 hs
                  rw [show (fg.take 6).length = 6 from Hlt.out]
                  exact Hx.out
              · rcases List.mem_append.1 hs with hs | hs
                · exact Hsm.out s hs
                · obtain rfl := List.mem_singleton.1 hs
                  rw [show (fg.take 6).length = 6 from Hlt.out]
                  omega
              · rw [List.length_append, HM.out]; simp; omega
            case measure => simp [intOf]; omega
      · have hM := HM.out
        have Hout : Hid (Bd w wr vm M) := HB
        go_wp2_with fail
        go_ret
        exact ⟨_, M, rfl, Hout.out, HN.out⟩
    · have Hout : Hid (Bd w wr vm M) := HB
      go_wp2_with fail
      go_ret
      exact ⟨_, M, rfl, Hout.out, HN.out⟩
end Go.Proofs.Ytjimjkfnpklhiaa

/- Package endpoint: the reference's Recv, Cancel, Badge. -/
import Derived.Test.YtanongcaokldmaaEndT
import Derived.Deep.DeepCutAuto
set_option linter.all false
namespace Go.Proofs.Ytanongcaokldmaa
open Go.RowKit

set_option maxRecDepth 100000 in
set_option maxHeartbeats 4000000 in
theorem rrecv_any {O : Nat → Prop} (q : Nat) (S S' : List On) (R R' : List Int) (who : Int) (m4 : On) (wa m1 : Bool) (m2 m3 er : Int) (w : World) (h : Rf O w q S R) (hS : S.length ≤ 1000) (hR : R.length ≤ 1000) (he : refRecv S R who wa = ((m1, m2, m3, m4, er), S', R')) :
    Calls Try.prog 20 #[.pointer (some ⟨q, 0, none⟩), .int .i64 who, .bool wa] w fun e w' => e = .returned (.tuple #[metV m1 m2 m3 m4, .int .i64 er]) ∧ Rf (fun k => O k ∨ w.heap.size ≤ k) w' q S' R' ∧ Kept O w w' := by
  have hk0 : New w (w.alloc (blkT false 0 0 on0)) := (Kept.refl _ _).alloc _
  obtain ⟨W, hW⟩ : ∃ W, W = w.alloc (blkT false 0 0 on0) := ⟨_, rfl⟩
  have hqs : W.heap.size = w.heap.size + 1 := by rw [hW]; simp
  have hT0 : W.heap[w.heap.size]? = some (blkT false 0 0 on0) := by rw [hW]; exact heap_alloc_new _ _
  rw [← hW] at hk0
  have HW := Lib.hid hW
  have Hqs := Lib.hid hqs
  clear hW hqs
  have hth := rthere_any q S R who (inRf S R who) W (h.same hk0) hS hR rfl
  obtain ⟨v, u, h0⟩ := h.sized
  have hB := h0.same hk0
  obtain ⟨ao, c, bo, d, rfl, rfl⟩ := h0.sh
  have hql := lt_of_heap h0.hq
  unfold refRecv at he
  cases hi : inRf S R who with
  | true =>
    rw [hi, if_pos rfl] at he
    simp only [Prod.mk.injEq] at he
    obtain ⟨⟨rfl, rfl, rfl, rfl, rfl⟩, rfl, rfl⟩ := he
    rw [hi] at hth
    have Hth := Lib.hid hth
    have HB := Lib.hid hB
    clear hth h h0 hi hB
    go_enter Try.func20, Try.ntmps20
    go_wp2_with fail
    have hW2 := HW.out
    simp only [blkT, on0] at hW2
    rw [← hW2]
    clear hW2
    refine Hth.out.mono ?_
    rintro e w1 ⟨rfl, rfl⟩
    obtain ⟨t0, u0, t1, u1, t2, u2, t3, u3, t4, u4, t5, u5, t6, u6, t7, u7, t8, u8, t9, u9⟩ := of10 hT0
    go_wp2_with fail
    refine bodyPost_ret (v := .tuple #[metV false 0 0 on0, .int .i64 110]) (by rw [results_cell_tmp rfl]; go_simp) rfl ⟨rfl, ?_⟩
    have kT := ten_kept W w.heap.size (.bool false) (.int .i64 0) (.int .i64 0) (.int .i64 on0.la) (.int .u64 on0.w0) (.int .u64 on0.w1) (.int .u64 on0.w2) (.int .u64 on0.w3) (.int .u64 on0.bg) (.bool on0.ca)
    exact ⟨Rf.mono (Rf.kept ⟨_, _, HB.out⟩ kT (fun i hi e => by have := hi.2; omega)) (fun i hi => .inl hi.1), (hk0.mono (fun _ _ h => h.elim)).trans' kT (fun i hi e => by omega)⟩
  | false =>
    rw [hi, if_neg (by decide)] at he
    rw [hi] at hth
    have Hth := Lib.hid hth
    clear hth h hi
    cases S with
    | cons a l =>
      simp only [Prod.mk.injEq] at he
      obtain ⟨⟨rfl, rfl, rfl, rfl, rfl⟩, rfl, rfl⟩ := he
      obtain ⟨g, rfl⟩ := slice_at hB.hv (by simp)
      have hu := hB.hv
      have hcap := own_cap hu rfl
      obtain ⟨x0, x1, x2, x3, x4, x5, x6, x7⟩ := own_snd hu (k := 0) (x := a) rfl
      simp only [Nat.zero_mul, Nat.zero_add] at x0 x1 x2 x3 x4 x5 x6 x7
      obtain ⟨ml, hml⟩ : ∃ ml, ml = l.length := ⟨_, rfl⟩
      have hl1 : (a :: l).length = ml + 1 := by rw [hml]; rfl
      have c1 : W.cell? ⟨q, 0, none⟩ = some (.slice (some ⟨g, 0, none⟩) (ml + 1) c) := by rw [← hl1]; exact cell_blk hB.hq 0
      have hcl : ∀ j z, (l.flatMap encO)[j]? = some z → W.cell? ⟨g, 8 + j, none⟩ = some z := by
        intro j z hj
        have := hu.cells (g := g) rfl (8 + j) z (by
          rw [List.flatMap_cons, List.getElem?_append_right (by rw [encO_len]; omega), encO_len, Nat.add_sub_cancel_left]; exact hj)
        rw [addr_add, Nat.zero_add] at this
        exact this
      rw [hl1] at hcap hS
      obtain ⟨i64, hi, hz0, hz1, hz2⟩ := info_parts info64
      obtain ⟨ad, had, hadv⟩ : ∃ ad : Addr, (if c = 1 then some (⟨g, 0, none⟩ : Addr) else some ⟨g, 8, none⟩) = some ad ∧ (0 < ml → ad = ⟨g, 8, none⟩) := by
        by_cases h : c = 1
        · exact ⟨_, by rw [if_pos h], fun h0 => by omega⟩
        · exact ⟨_, by rw [if_neg h], fun _ => rfl⟩
      have k2 : New W (W.alloc (blkS a)) := (Kept.refl _ _).alloc _
      obtain ⟨W2, hW2⟩ : ∃ W2, W2 = W.alloc (blkS a) := ⟨_, rfl⟩
      obtain ⟨q8, hq8⟩ : ∃ q8, q8 = W.heap.size := ⟨_, rfl⟩
      have hs2 : W2.heap[q8]? = some (blkS a) := by rw [hW2, hq8]; exact heap_alloc_new _ _
      rw [← hW2] at k2
      have hsrcA : Src (W2.alloc (.cells #[] 64)) (.slice (some ad) ml (c - 1)) ml 8 (l.flatMap encO) := by
        refine ⟨_, _, rfl, by simp, by rw [ones_len, hml], fun j z hj => ⟨ad, rfl, ?_⟩⟩
        have h0 : 0 < ml := by have := lt_of_some hj; rw [ones_len] at this; omega
        rw [hadv h0, addr_add]
        exact cell_kept (k2.alloc _) (hcl j z hj) (fun h => h)
      have HsrcA := Lib.hid hsrcA
      have HB2 := Lib.hid (hB.same k2)
      have Hq2 := Lib.hid (k2.heap hB.hq (fun h => h))
      have Hs2 := Lib.hid hs2
      have HT2 := Lib.hid (k2.heap hT0 (fun h => h))
      have Hml := Lib.hid hml
      have HW2 := Lib.hid hW2
      have Hq8 := Lib.hid hq8
      have K2 := Lib.hid k2
      have kA : New W2 (W2.alloc (.cells #[] 64)) := (Kept.refl _ _).alloc _
      have c2 := cell_kept k2 c1 (fun h => h)
      have c2A := cell_kept (k2.alloc (.cells #[] 64)) c1 (fun h => h)
      have hml8 : ml ≤ 1000 := by omega
      have hpz : (0 : Int) < (ml : Int) + 1 := by omega
      have Had := Lib.hid had
      have hq8q : ¬ q8 = q := by have := Hqs.out; omega
      have hq8l : W.heap.size ≤ q8 := by omega
      clear hB h0 hu hml hl1 hcl hsrcA hadv had hW2 hs2 k2 hq8
      by_cases hc1 : c = 1
      · have Had1 := Had.out
        rw [if_pos hc1] at Had1
        cases Had1
        subst hc1
        obtain rfl : ml = 0 := by omega
        go_enter Try.func20, Try.ntmps20
        go_wp2_with fail
        have hW2 := HW.out
        simp only [blkT, on0] at hW2
        rw [← hW2]
        clear hW2
        refine Hth.out.mono ?_
        rintro e w1 ⟨rfl, rfl⟩
        go_upto_region 5 with fail
        have hW22 := HW2.out
        simp only [blkS] at hW22
        rw [← hW22, ← Hq8.out]
        clear hW22
        go_wp2_with (at_builtin; refine wpList_append_src2 rfl _ _ 49 rfl W2.heap.size 64 i64 (aggO ⟨0, 0, 0, 0, 0, 0, 0, false⟩) 8 64 Try.underlying49 hi hz0 hz1 hz2 rfl (by decide) _ 0 [] rfl (World.ownsRow_made W2 #[] 0 (Nat.le_refl _) (by unfold maxLen; omega) rfl) _ 0 _ rfl HsrcA.out (encO_one l) (by unfold maxLen; omega) (by omega) (by simp) ?_; intro v' w5 hown' hgr hid; simp only [Nat.zero_add, List.nil_append] at hown'; have k5 : New W2 w5 := kA.grown hgr (fun k hk => .inl (by have h9 : W2.heap.size = k := Option.some.inj hk; omega)); have hb5 := k5.heap Hq2.out (fun h => h); have hc5 := cell_blk hb5 0; have hf5 := free_blk hb5 0; obtain ⟨ao5, c5, hv5, _⟩ := Src.of_own hown'; subst hv5; have kq : Kept (fun k => k = q) w5 (w5.setCell ⟨q, 0, none⟩ (.slice ao5 0 c5)) := (Kept.refl (fun k => k = q) w5).setCell (.inr rfl) _; have M5 := k5.heap Hs2.out (fun h => h); have T5 := k5.heap HT2.out (fun h => h); have M6 := kq.heap M5 (fun e => by have := Hqs.out; omega); have T6 := kq.heap T5 (fun e => by omega); obtain ⟨m0, m1, m2, m3, m4, m5, m6, m7⟩ := of8s M5; obtain ⟨n0, n1, n2, n3, n4, n5, n6, n7⟩ := of8s M6; obtain ⟨t0, u0, t1, u1, t2, u2, t3, u3, t4, u4, t5, u5, t6, u6, t7, u7, t8, u8, t9, u9⟩ := of10 T6)
        refine bodyPost_ret (v := .tuple #[metV true a.who who a, .int .i64 0]) (by rw [results_cell_tmp rfl]; go_simp) rfl ⟨rfl, ?_⟩
        obtain ⟨hR1, hk1⟩ := Rw.putS HB2.out (k5.mono (fun _ _ h => h.elim)) (v' := .slice ao5 0 c5) (S' := l) (by rw [← Hml.out]; exact own_mono hown' (Nat.zero_le _)) (fun k hk => .inr (own_block hown' hk))
        have kT := ten_kept (w5.setCell ⟨q, 0, none⟩ (.slice ao5 0 c5)) w.heap.size (.bool true) (.int .i64 a.who) (.int .i64 who) (.int .i64 a.la) (.int .u64 a.w0) (.int .u64 a.w1) (.int .u64 a.w2) (.int .u64 a.w3) (.int .u64 a.bg) (.bool a.ca)
        have hWs : W.heap.size = w.heap.size + 1 := Hqs.out
        have hWs2 : W.heap.size ≤ W2.heap.size := K2.out.size
        refine ⟨Rf.mono (Rf.kept hR1 kT (fun i hi e => ?_)) (fun i hi => ?_), ((((hk0.trans K2.out).mono (fun _ _ h => h.elim)).trans' hk1 (fun i _ h => h.1))).trans' kT (fun i hi e => by omega)⟩
        · rcases hi with h | h
          · have := h.2; omega
          · omega
        · rcases hi with h | h
          · exact .inl h.1
          · exact .inr (by omega)
      · have Had1 := Had.out
        rw [if_neg hc1] at Had1
        cases Had1
        go_enter Try.func20, Try.ntmps20
        go_wp2_with fail
        have hW2 := HW.out
        simp only [blkT, on0] at hW2
        rw [← hW2]
        clear hW2
        refine Hth.out.mono ?_
        rintro e w1 ⟨rfl, rfl⟩
        go_upto_region 5 with fail
        have hW22 := HW2.out
        simp only [blkS] at hW22
        rw [← hW22, ← Hq8.out]
        clear hW22
        go_wp2_with (at_builtin; refine wpList_append_src2 rfl _ _ 49 rfl W2.heap.size 64 i64 (aggO ⟨0, 0, 0, 0, 0, 0, 0, false⟩) 8 64 Try.underlying49 hi hz0 hz1 hz2 rfl (by decide) _ 0 [] rfl (World.ownsRow_made W2 #[] 0 (Nat.le_refl _) (by unfold maxLen; omega) rfl) _ ml _ rfl HsrcA.out (encO_one l) (by unfold maxLen; omega) (by omega) (by simp) ?_; intro v' w5 hown' hgr hid; simp only [Nat.zero_add, List.nil_append] at hown'; have k5 : New W2 w5 := kA.grown hgr (fun k hk => .inl (by have h9 : W2.heap.size = k := Option.some.inj hk; omega)); have hb5 := k5.heap Hq2.out (fun h => h); have hc5 := cell_blk hb5 0; have hf5 := free_blk hb5 0; obtain ⟨ao5, c5, hv5, _⟩ := Src.of_own hown'; subst hv5; have kq : Kept (fun k => k = q) w5 (w5.setCell ⟨q, 0, none⟩ (.slice ao5 ml c5)) := (Kept.refl (fun k => k = q) w5).setCell (.inr rfl) _; have M5 := k5.heap Hs2.out (fun h => h); have T5 := k5.heap HT2.out (fun h => h); have M6 := kq.heap M5 (fun e => by have := Hqs.out; omega); have T6 := kq.heap T5 (fun e => by omega); obtain ⟨m0, m1, m2, m3, m4, m5, m6, m7⟩ := of8s M5; obtain ⟨n0, n1, n2, n3, n4, n5, n6, n7⟩ := of8s M6; obtain ⟨t0, u0, t1, u1, t2, u2, t3, u3, t4, u4, t5, u5, t6, u6, t7, u7, t8, u8, t9, u9⟩ := of10 T6)
        refine bodyPost_ret (v := .tuple #[metV true a.who who a, .int .i64 0]) (by rw [results_cell_tmp rfl]; go_simp) rfl ⟨rfl, ?_⟩
        obtain ⟨hR1, hk1⟩ := Rw.putS HB2.out (k5.mono (fun _ _ h => h.elim)) (v' := .slice ao5 ml c5) (S' := l) (by rw [← Hml.out]; exact own_mono hown' (Nat.zero_le _)) (fun k hk => .inr (own_block hown' hk))
        have kT := ten_kept (w5.setCell ⟨q, 0, none⟩ (.slice ao5 ml c5)) w.heap.size (.bool true) (.int .i64 a.who) (.int .i64 who) (.int .i64 a.la) (.int .u64 a.w0) (.int .u64 a.w1) (.int .u64 a.w2) (.int .u64 a.w3) (.int .u64 a.bg) (.bool a.ca)
        have hWs : W.heap.size = w.heap.size + 1 := Hqs.out
        have hWs2 : W.heap.size ≤ W2.heap.size := K2.out.size
        refine ⟨Rf.mono (Rf.kept hR1 kT (fun i hi e => ?_)) (fun i hi => ?_), ((((hk0.trans K2.out).mono (fun _ _ h => h.elim)).trans' hk1 (fun i _ h => h.1))).trans' kT (fun i hi e => by omega)⟩
        · rcases hi with h | h
          · have := h.2; omega
          · omega
        · rcases hi with h | h
          · exact .inl h.1
          · exact .inr (by omega)
    | nil =>
      cases wa with
      | false =>
        simp only [Bool.false_eq_true, if_false, Prod.mk.injEq] at he
        obtain ⟨⟨rfl, rfl, rfl, rfl, rfl⟩, rfl, rfl⟩ := he
        have c1 : W.cell? ⟨q, 0, none⟩ = some (.slice ao 0 c) := cell_blk hB.hq 0
        have HB := Lib.hid hB
        clear h0 hB
        go_enter Try.func20, Try.ntmps20
        go_wp2_with fail
        have hW2 := HW.out
        simp only [blkT, on0] at hW2
        rw [← hW2]
        clear hW2
        refine Hth.out.mono ?_
        rintro e w1 ⟨rfl, rfl⟩
        obtain ⟨t0, u0, t1, u1, t2, u2, t3, u3, t4, u4, t5, u5, t6, u6, t7, u7, t8, u8, t9, u9⟩ := of10 hT0
        go_wp2_with fail
        refine bodyPost_ret (v := .tuple #[metV false 0 0 on0, .int .i64 0]) (by rw [results_cell_tmp rfl]; go_simp) rfl ⟨rfl, ?_⟩
        have kT := ten_kept W w.heap.size (.bool false) (.int .i64 0) (.int .i64 0) (.int .i64 on0.la) (.int .u64 on0.w0) (.int .u64 on0.w1) (.int .u64 on0.w2) (.int .u64 on0.w3) (.int .u64 on0.bg) (.bool on0.ca)
        exact ⟨Rf.mono (Rf.kept ⟨_, _, HB.out⟩ kT (fun i hi e => by have := hi.2; omega)) (fun i hi => .inl hi.1), (hk0.mono (fun _ _ h => h.elim)).trans' kT (fun i hi e => by omega)⟩
      | true =>
        simp only [if_true, Prod.mk.injEq] at he
        obtain ⟨⟨rfl, rfl, rfl, rfl, rfl⟩, rfl, rfl⟩ := he
        have c0 : W.cell? ⟨q, 0, none⟩ = some (.slice ao 0 c) := cell_blk hB.hq 0
        obtain ⟨len, hlen⟩ : ∃ len, len = R.length := ⟨_, rfl⟩
        have hqW := hB.hq
        have hownW := hB.hu
        rw [← hlen] at hqW hownW hR
        have Hlen := Lib.hid hlen
        have c1 : W.cell? ⟨q, 1, none⟩ = some (.slice bo len d) := cell_blk hqW 1
        have kA : New W (W.alloc (.cells #[.int .i64 who] 3)) := (Kept.refl _ _).alloc _
        have Hown2 := Lib.hid (own_same hownW kA)
        have hbA := kA.heap hqW (fun h => h)
        have HbA := Lib.hid hbA
        have Hlit := Lib.hid (Src.lit W #[.int .i64 who] 3 1 1 rfl)
        have hvq : (Value.slice bo len d).ownBlock ≠ some q := fun e => (hB.nu (by rw [← hlen]; exact e)).1 rfl
        have hvs : ∀ k, (Value.slice bo len d).ownBlock = some k → k < w.heap.size := fun k hk => (hB.ou k (by rw [← hlen]; exact hk)).2
        have Hvq := Lib.hid hvq
        have Hvs := Lib.hid hvs
        have HB := Lib.hid hB
        obtain ⟨i3, hi, hz0, hz1, hz2⟩ := info_parts info3
        have HT0 := Lib.hid hT0
        clear h0 hB hlen hownW hvq hvs hT0 hbA hqW
        go_enter Try.func20, Try.ntmps20
        go_wp2_with fail
        have hW2 := HW.out
        simp only [blkT, on0] at hW2
        rw [← hW2]
        clear hW2
        refine Hth.out.mono ?_
        rintro e w1 ⟨rfl, rfl⟩
        go_wp2_with (at_builtin; refine wpList_append_src2 rfl _ _ 31 rfl 0 3 i3 (.int .i64 0) 1 8 Try.underlying31 hi hz0 hz1 hz2 rfl (by decide) (.slice bo len d) len (vI R) rfl Hown2.out _ 1 _ rfl Hlit.out (by simp [Value.oneCell']) (by unfold maxLen; omega) (by omega) (by simp) ?_; intro v' w5 hown' hgr hid; have k5 : Kept (fun k => (Value.slice bo len d).ownBlock = some k) W w5 := (kA.mono (fun _ _ h => h.elim)).trans' (Kept.of_grown hgr) (fun _ _ h => h); have hb5 := (Kept.of_grown hgr).heap HbA.out Hvq.out; have hc5 := cell_blk hb5 1; have hf5 := free_blk hb5 1; obtain ⟨ao5, c5, hv5, _⟩ := Src.of_own hown'; subst hv5; have kq : Kept (fun k => k = q) w5 (w5.setCell ⟨q, 1, none⟩ (.slice ao5 (len + 1) c5)) := (Kept.refl (fun k => k = q) w5).setCell (.inr rfl) _; have T5 := k5.heap HT0.out (fun e => by have := Hvs.out _ e; omega); have T6 := kq.heap T5 (fun e => by omega); obtain ⟨t0, u0, t1, u1, t2, u2, t3, u3, t4, u4, t5, u5, t6, u6, t7, u7, t8, u8, t9, u9⟩ := of10 T6)
        refine bodyPost_ret (v := .tuple #[metV false 0 0 on0, .int .i64 0]) (by rw [results_cell_tmp rfl]; go_simp) rfl ⟨rfl, ?_⟩
        obtain ⟨hR1, hk1⟩ := Rw.putR HB.out (u' := .slice ao5 (len + 1) c5) (R' := R ++ [who]) (by rw [← Hlen.out]; exact k5) (by rw [List.length_append, ← Hlen.out]; simpa [vI] using hown') (fun k hk => (by rw [← Hlen.out]; exact (hid k hk).imp id (fun h => Nat.le_trans kA.size h)))
        have kT := ten_kept (w5.setCell ⟨q, 1, none⟩ (.slice ao5 (len + 1) c5)) w.heap.size (.bool false) (.int .i64 0) (.int .i64 0) (.int .i64 on0.la) (.int .u64 on0.w0) (.int .u64 on0.w1) (.int .u64 on0.w2) (.int .u64 on0.w3) (.int .u64 on0.bg) (.bool on0.ca)
        have hWs : W.heap.size = w.heap.size + 1 := Hqs.out
        refine ⟨Rf.mono (Rf.kept hR1 kT (fun i hi e => ?_)) (fun i hi => ?_), (((hk0.mono (fun _ _ h => h.elim)).trans' hk1 (fun i _ h => h.1))).trans' kT (fun i hi e => by omega)⟩
        · rcases hi with h | h
          · have := h.2; omega
          · omega
        · rcases hi with h | h
          · exact .inl h.1
          · exact .inr (by omega)
end Go.Proofs.Ytanongcaokldmaa

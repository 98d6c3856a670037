/- Package endpoint: the reference's Send and Recv. -/
import Derived.Test.YtanongcaokldmaaEndR
set_option linter.all false
namespace Go.Proofs.Ytanongcaokldmaa
open Go.RowKit

abbrev blkS (x : On) : Obj := .cells #[.int .i64 x.who, .int .i64 x.la, .int .u64 x.w0, .int .u64 x.w1, .int .u64 x.w2, .int .u64 x.w3, .int .u64 x.bg, .bool x.ca] 64
theorem of8s {w : World} {q : Nat} {x : On} (h : w.heap[q]? = some (blkS x)) : w.cell? ⟨q, 0, none⟩ = some (.int .i64 x.who) ∧ w.cell? ⟨q, 1, none⟩ = some (.int .i64 x.la) ∧ w.cell? ⟨q, 2, none⟩ = some (.int .u64 x.w0) ∧ w.cell? ⟨q, 3, none⟩ = some (.int .u64 x.w1) ∧ w.cell? ⟨q, 4, none⟩ = some (.int .u64 x.w2) ∧ w.cell? ⟨q, 5, none⟩ = some (.int .u64 x.w3) ∧ w.cell? ⟨q, 6, none⟩ = some (.int .u64 x.bg) ∧ w.cell? ⟨q, 7, none⟩ = some (.bool x.ca) :=
  ⟨cell_blk h 0, cell_blk h 1, cell_blk h 2, cell_blk h 3, cell_blk h 4, cell_blk h 5, cell_blk h 6, cell_blk h 7⟩
theorem vI_one (L : List Int) : ∀ x ∈ vI L, x.oneCell' = true := by intro x hx; obtain ⟨y, -, rfl⟩ := List.mem_map.1 hx; rfl
def refSend (S : List On) (R : List Int) (x : On) (wa : Bool) : (Bool × Int × Int × On × Int) × List On × List Int :=
  if inRf S R x.who then ((false, 0, 0, on0, 110), S, R) else match R with
  | a :: l => ((true, x.who, a, x, 0), S, l)
  | [] => if wa then ((false, 0, 0, on0, 0), S ++ [x], []) else ((false, 0, 0, on0, 0), S, [])
def refRecv (S : List On) (R : List Int) (who : Int) (wa : Bool) : (Bool × Int × Int × On × Int) × List On × List Int :=
  if inRf S R who then ((false, 0, 0, on0, 110), S, R) else match S with
  | a :: l => ((true, a.who, who, a, 0), l, R)
  | [] => if wa then ((false, 0, 0, on0, 0), [], R ++ [who]) else ((false, 0, 0, on0, 0), [], R)

set_option maxRecDepth 100000 in
set_option maxHeartbeats 4000000 in
theorem rsend_any {O : Nat → Prop} (q : Nat) (S S' : List On) (R R' : List Int) (x m4 : On) (wa m1 : Bool) (m2 m3 er : Int) (w : World) (h : Rf O w q S R) (hS : S.length ≤ 1000) (hR : R.length ≤ 1000) (he : refSend S R x wa = ((m1, m2, m3, m4, er), S', R')) :
    Calls Try.prog 19 #[.pointer (some ⟨q, 0, none⟩), .int .i64 x.who, msgV x, .bool wa] w fun e w' => e = .returned (.tuple #[metV m1 m2 m3 m4, .int .i64 er]) ∧ Rf (fun k => O k ∨ w.heap.size ≤ k) w' q S' R' ∧ Kept O w w' := by
  have hk0 : New w ((w.alloc (blkM x)).alloc (blkT false 0 0 on0)) := ((Kept.refl _ _).alloc _).alloc _
  obtain ⟨W, hW⟩ : ∃ W, W = ((w.alloc (blkM x)).alloc (blkT false 0 0 on0)) := ⟨_, rfl⟩
  have hqs : W.heap.size = w.heap.size + 2 := by rw [hW]; simp
  have hT0 : W.heap[(w.heap.size + 1)]? = some (blkT false 0 0 on0) := by rw [hW]; have := heap_alloc_new (w.alloc (blkM x)) (blkT false 0 0 on0); simpa using this
  have hM0 : W.heap[w.heap.size]? = some (blkM x) := by rw [hW]; exact ((Kept.refl (fun _ => False) _).alloc _).heap (heap_alloc_new w (blkM x)) (fun h => h)
  rw [← hW] at hk0
  have HW := Lib.hid hW
  have Hqs := Lib.hid hqs
  clear hW hqs
  have hth := rthere_any q S R x.who (inRf S R x.who) W (h.same hk0) hS hR rfl
  obtain ⟨v, u, h0⟩ := h.sized
  have hB := h0.same hk0
  obtain ⟨ao, c, bo, d, rfl, rfl⟩ := h0.sh
  have hql := lt_of_heap h0.hq
  unfold refSend at he
  cases hi : inRf S R x.who with
  | true =>
    rw [hi, if_pos rfl] at he
    simp only [Prod.mk.injEq] at he
    obtain ⟨⟨rfl, rfl, rfl, rfl, rfl⟩, rfl, rfl⟩ := he
    rw [hi] at hth
    have Hth := Lib.hid hth
    have HB := Lib.hid hB
    clear hth h h0 hi hB
    go_enter Try.func19, Try.ntmps19
    go_wp2_with fail
    have hW2 := HW.out
    simp only [blkM, blkT, on0] at hW2
    rw [← hW2]
    clear hW2
    refine Hth.out.mono ?_
    rintro e w1 ⟨rfl, rfl⟩
    obtain ⟨t0, u0, t1, u1, t2, u2, t3, u3, t4, u4, t5, u5, t6, u6, t7, u7, t8, u8, t9, u9⟩ := of10 hT0
    go_wp2_with fail
    refine bodyPost_ret (v := .tuple #[metV false 0 0 on0, .int .i64 110]) (by rw [results_cell_tmp rfl]; go_simp) rfl ⟨rfl, ?_⟩
    have kT := ten_kept W (w.heap.size + 1) (.bool false) (.int .i64 0) (.int .i64 0) (.int .i64 on0.la) (.int .u64 on0.w0) (.int .u64 on0.w1) (.int .u64 on0.w2) (.int .u64 on0.w3) (.int .u64 on0.bg) (.bool on0.ca)
    exact ⟨Rf.mono (Rf.kept ⟨_, _, HB.out⟩ kT (fun i hi e => by have := hi.2; omega)) (fun i hi => .inl hi.1), (hk0.mono (fun _ _ h => h.elim)).trans' kT (fun i hi e => by omega)⟩
  | false =>
    rw [hi, if_neg (by decide)] at he
    rw [hi] at hth
    have Hth := Lib.hid hth
    clear hth h hi
    cases R with
    | cons a l =>
      simp only [Prod.mk.injEq] at he
      obtain ⟨⟨rfl, rfl, rfl, rfl, rfl⟩, rfl, rfl⟩ := he
      obtain ⟨g, rfl⟩ := slice_at hB.hu (by simp)
      have hu := hB.hu
      have hcap := own_cap hu rfl
      have x0 := own_int hu (j := 0) (y := a) rfl
      obtain ⟨ml, hml⟩ : ∃ ml, ml = l.length := ⟨_, rfl⟩
      have hl1 : (a :: l).length = ml + 1 := by rw [hml]; rfl
      have c1 : W.cell? ⟨q, 1, none⟩ = some (.slice (some ⟨g, 0, none⟩) (ml + 1) d) := by rw [← hl1]; exact cell_blk hB.hq 1
      have hcl : ∀ j z, (vI l)[j]? = some z → W.cell? ⟨g, 1 + j, none⟩ = some z := by
        intro j z hj
        have := hu.cells (g := g) rfl (1 + j) z (by rw [Nat.add_comm]; simpa [vI] using hj)
        rw [addr_add, Nat.zero_add] at this
        exact this
      rw [hl1] at hcap hR
      obtain ⟨i3, hi, hz0, hz1, hz2⟩ := info_parts info3
      obtain ⟨ad, had, hadv⟩ : ∃ ad : Addr, (if d = 1 then some (⟨g, 0, none⟩ : Addr) else some ⟨g, 1, none⟩) = some ad ∧ (0 < ml → ad = ⟨g, 1, none⟩) := by
        by_cases h : d = 1
        · exact ⟨_, by rw [if_pos h], fun h0 => by omega⟩
        · exact ⟨_, by rw [if_neg h], fun _ => rfl⟩
      have hsrcA : Src (W.alloc (.cells #[] 3)) (.slice (some ad) ml (d - 1)) ml 1 (vI l) := by
        refine ⟨_, _, rfl, by simp, by simp [vI, hml], fun j z hj => ⟨ad, rfl, ?_⟩⟩
        have h0 : 0 < ml := by have := lt_of_some hj; simp [vI] at this; omega
        rw [hadv h0, addr_add]
        exact cell_kept ((Kept.refl (fun _ => False) W).alloc _) (hcl j z hj) (fun h => h)
      have HsrcA := Lib.hid hsrcA
      have HB := Lib.hid hB
      have Hq := Lib.hid hB.hq
      have Hml := Lib.hid hml
      have kA : New W (W.alloc (.cells #[] 3)) := (Kept.refl _ _).alloc _
      have c1A := cell_kept kA c1 (fun h => h)
      have hml8 : ml ≤ 1000 := by omega
      have hpz : (0 : Int) < (ml : Int) + 1 := by omega
      have Had := Lib.hid had
      clear hB h0 hu hml hl1 hcl hsrcA hadv had
      by_cases hc1 : d = 1
      · have Had1 := Had.out
        rw [if_pos hc1] at Had1
        cases Had1
        subst hc1
        obtain rfl : ml = 0 := by omega
        go_enter Try.func19, Try.ntmps19
        go_wp2_with fail
        have hW2 := HW.out
        simp only [blkM, blkT, on0] at hW2
        rw [← hW2]
        clear hW2
        refine Hth.out.mono ?_
        rintro e w1 ⟨rfl, rfl⟩
        go_wp2_with (at_builtin; refine wpList_append_src2 rfl _ _ 31 rfl W.heap.size 3 i3 (.int .i64 0) 1 8 Try.underlying31 hi hz0 hz1 hz2 rfl (by decide) _ 0 [] rfl (World.ownsRow_made W #[] 0 (Nat.le_refl _) (by unfold maxLen; omega) rfl) _ 0 _ rfl HsrcA.out (vI_one l) (by unfold maxLen; omega) (by omega) (by simp) ?_; intro v' w5 hown' hgr hid; simp only [Nat.zero_add, List.nil_append] at hown'; have k5 : New W w5 := kA.grown hgr (fun k hk => .inl (by have h9 : W.heap.size = k := Option.some.inj hk; omega)); have hb5 := k5.heap Hq.out (fun h => h); have hc5 := cell_blk hb5 1; have hf5 := free_blk hb5 1; obtain ⟨ao5, c5, hv5, _⟩ := Src.of_own hown'; subst hv5; have kq : Kept (fun k => k = q) w5 (w5.setCell ⟨q, 1, none⟩ (.slice ao5 0 c5)) := (Kept.refl (fun k => k = q) w5).setCell (.inr rfl) _; have M5 := k5.heap hM0 (fun h => h); have T5 := k5.heap hT0 (fun h => h); have M6 := kq.heap M5 (fun e => by omega); have T6 := kq.heap T5 (fun e => by omega); obtain ⟨m0, m1, m2, m3, m4, m5, m6⟩ := of7 M5; obtain ⟨n0, n1, n2, n3, n4, n5, n6⟩ := of7 M6; obtain ⟨t0, u0, t1, u1, t2, u2, t3, u3, t4, u4, t5, u5, t6, u6, t7, u7, t8, u8, t9, u9⟩ := of10 T6)
        refine bodyPost_ret (v := .tuple #[metV true x.who a x, .int .i64 0]) (by rw [results_cell_tmp rfl]; go_simp) rfl ⟨rfl, ?_⟩
        obtain ⟨hR1, hk1⟩ := Rw.putR HB.out (k5.mono (fun _ _ h => h.elim)) (u' := .slice ao5 0 c5) (R' := l) (by rw [← Hml.out]; exact own_mono hown' (Nat.zero_le _)) (fun k hk => .inr (own_block hown' hk))
        have kT := ten_kept (w5.setCell ⟨q, 1, none⟩ (.slice ao5 0 c5)) (w.heap.size + 1) (.bool true) (.int .i64 x.who) (.int .i64 a) (.int .i64 x.la) (.int .u64 x.w0) (.int .u64 x.w1) (.int .u64 x.w2) (.int .u64 x.w3) (.int .u64 x.bg) (.bool x.ca)
        have hWs : W.heap.size = w.heap.size + 2 := Hqs.out
        refine ⟨Rf.mono (Rf.kept hR1 kT (fun i hi e => ?_)) (fun i hi => ?_), (((hk0.mono (fun _ _ h => h.elim)).trans' hk1 (fun i _ h => h.1))).trans' kT (fun i hi e => by omega)⟩
        · rcases hi with h | h
          · have := h.2; omega
          · omega
        · rcases hi with h | h
          · exact .inl h.1
          · exact .inr (by omega)
      · have Had1 := Had.out
        rw [if_neg hc1] at Had1
        cases Had1
        go_enter Try.func19, Try.ntmps19
        go_wp2_with fail
        have hW2 := HW.out
        simp only [blkM, blkT, on0] at hW2
        rw [← hW2]
        clear hW2
        refine Hth.out.mono ?_
        rintro e w1 ⟨rfl, rfl⟩
        go_wp2_with (at_builtin; refine wpList_append_src2 rfl _ _ 31 rfl W.heap.size 3 i3 (.int .i64 0) 1 8 Try.underlying31 hi hz0 hz1 hz2 rfl (by decide) _ 0 [] rfl (World.ownsRow_made W #[] 0 (Nat.le_refl _) (by unfold maxLen; omega) rfl) _ ml _ rfl HsrcA.out (vI_one l) (by unfold maxLen; omega) (by omega) (by simp) ?_; intro v' w5 hown' hgr hid; simp only [Nat.zero_add, List.nil_append] at hown'; have k5 : New W w5 := kA.grown hgr (fun k hk => .inl (by have h9 : W.heap.size = k := Option.some.inj hk; omega)); have hb5 := k5.heap Hq.out (fun h => h); have hc5 := cell_blk hb5 1; have hf5 := free_blk hb5 1; obtain ⟨ao5, c5, hv5, _⟩ := Src.of_own hown'; subst hv5; have kq : Kept (fun k => k = q) w5 (w5.setCell ⟨q, 1, none⟩ (.slice ao5 ml c5)) := (Kept.refl (fun k => k = q) w5).setCell (.inr rfl) _; have M5 := k5.heap hM0 (fun h => h); have T5 := k5.heap hT0 (fun h => h); have M6 := kq.heap M5 (fun e => by omega); have T6 := kq.heap T5 (fun e => by omega); obtain ⟨m0, m1, m2, m3, m4, m5, m6⟩ := of7 M5; obtain ⟨n0, n1, n2, n3, n4, n5, n6⟩ := of7 M6; obtain ⟨t0, u0, t1, u1, t2, u2, t3, u3, t4, u4, t5, u5, t6, u6, t7, u7, t8, u8, t9, u9⟩ := of10 T6)
        refine bodyPost_ret (v := .tuple #[metV true x.who a x, .int .i64 0]) (by rw [results_cell_tmp rfl]; go_simp) rfl ⟨rfl, ?_⟩
        obtain ⟨hR1, hk1⟩ := Rw.putR HB.out (k5.mono (fun _ _ h => h.elim)) (u' := .slice ao5 ml c5) (R' := l) (by rw [← Hml.out]; exact own_mono hown' (Nat.zero_le _)) (fun k hk => .inr (own_block hown' hk))
        have kT := ten_kept (w5.setCell ⟨q, 1, none⟩ (.slice ao5 ml c5)) (w.heap.size + 1) (.bool true) (.int .i64 x.who) (.int .i64 a) (.int .i64 x.la) (.int .u64 x.w0) (.int .u64 x.w1) (.int .u64 x.w2) (.int .u64 x.w3) (.int .u64 x.bg) (.bool x.ca)
        have hWs : W.heap.size = w.heap.size + 2 := Hqs.out
        refine ⟨Rf.mono (Rf.kept hR1 kT (fun i hi e => ?_)) (fun i hi => ?_), (((hk0.mono (fun _ _ h => h.elim)).trans' hk1 (fun i _ h => h.1))).trans' kT (fun i hi e => by omega)⟩
        · rcases hi with h | h
          · have := h.2; omega
          · omega
        · rcases hi with h | h
          · exact .inl h.1
          · exact .inr (by omega)
    | nil =>
      cases wa with
      | false =>
        simp only [Bool.false_eq_true, if_false, Prod.mk.injEq] at he
        obtain ⟨⟨rfl, rfl, rfl, rfl, rfl⟩, rfl, rfl⟩ := he
        have c1 : W.cell? ⟨q, 1, none⟩ = some (.slice bo 0 d) := cell_blk hB.hq 1
        have HB := Lib.hid hB
        clear h0 hB
        go_enter Try.func19, Try.ntmps19
        go_wp2_with fail
        have hW2 := HW.out
        simp only [blkM, blkT, on0] at hW2
        rw [← hW2]
        clear hW2
        refine Hth.out.mono ?_
        rintro e w1 ⟨rfl, rfl⟩
        obtain ⟨t0, u0, t1, u1, t2, u2, t3, u3, t4, u4, t5, u5, t6, u6, t7, u7, t8, u8, t9, u9⟩ := of10 hT0
        go_wp2_with fail
        refine bodyPost_ret (v := .tuple #[metV false 0 0 on0, .int .i64 0]) (by rw [results_cell_tmp rfl]; go_simp) rfl ⟨rfl, ?_⟩
        have kT := ten_kept W (w.heap.size + 1) (.bool false) (.int .i64 0) (.int .i64 0) (.int .i64 on0.la) (.int .u64 on0.w0) (.int .u64 on0.w1) (.int .u64 on0.w2) (.int .u64 on0.w3) (.int .u64 on0.bg) (.bool on0.ca)
        exact ⟨Rf.mono (Rf.kept ⟨_, _, HB.out⟩ kT (fun i hi e => by have := hi.2; omega)) (fun i hi => .inl hi.1), (hk0.mono (fun _ _ h => h.elim)).trans' kT (fun i hi e => by omega)⟩
      | true =>
        simp only [if_true, Prod.mk.injEq] at he
        obtain ⟨⟨rfl, rfl, rfl, rfl, rfl⟩, rfl, rfl⟩ := he
        have c1 : W.cell? ⟨q, 1, none⟩ = some (.slice bo 0 d) := cell_blk hB.hq 1
        obtain ⟨len, hlen⟩ : ∃ len, len = S.length := ⟨_, rfl⟩
        have hqW := hB.hq
        have hownW := hB.hv
        rw [← hlen] at hqW hownW hS
        have Hlen := Lib.hid hlen
        have HownW := Lib.hid hownW
        have c0 := cell_blk hqW 0
        have a0 := cell_blk (((Kept.refl (fun _ => False) W).alloc (blkS x)).heap hqW (fun h => h)) 0
        have hq6 : (W.drew.alloc (blkS x)).heap[q]? = some (.cells #[.slice ao len c, .slice bo 0 d] 51 (0, 0)) := ((Kept.refl (fun _ => False) W).drew.alloc _).heap hqW (fun h => h)
        obtain ⟨m0, m1, m2, m3, m4, m5, m6⟩ := of7 hM0
        obtain ⟨n0, n1, n2, n3, n4, n5, n6⟩ := of7 (((Kept.refl (fun _ => False) W).alloc (blkS x)).heap hM0 (fun h => h))
        have hvq : (Value.slice ao len c).ownBlock ≠ some q := fun e => (hB.nv (by rw [← hlen]; exact e)).1 rfl
        have hvs : ∀ k, (Value.slice ao len c).ownBlock = some k → k < w.heap.size := fun k hk => (hB.ov k (by rw [← hlen]; exact hk)).2
        have Hvq := Lib.hid hvq
        have Hvs := Lib.hid hvs
        have HB := Lib.hid hB
        obtain ⟨i64, hi, hz0, hz1, hz2⟩ := info_parts info64
        have HT0 := Lib.hid hT0
        clear h0 hB hlen hownW hvq hvs hT0
        go_enter Try.func19, Try.ntmps19
        go_wp2_with fail
        have hW2 := HW.out
        simp only [blkM, blkT, on0] at hW2
        rw [← hW2]
        clear hW2
        refine Hth.out.mono ?_
        rintro e w1 ⟨rfl, rfl⟩
        go_wp2_with fail
        go_region_law ((refine step_append_lies _ (by rfl) _ _ _ (by rfl) 0 64 i64 (aggO ⟨0, 0, 0, 0, 0, 0, 0, false⟩) 8 64 Try.underlying49 hi hz0 hz1 hz2 rfl (by decide) _ len (S.flatMap encO) (by rfl) (own_same HownW.out ((Kept.refl _ _).drew.alloc _)) ⟨W.heap.size, 0, none⟩ 1 1 (encO x) (by rfl) rfl (World.news_of_block (heap_alloc_new W (blkS x))) (encO_one1 x) (by decide) (by simp [maxLen]; omega) (by omega) (by simp) (W.heap.size + 1) (by simp) ?_; intro g5 cap5 w5 hown' hgr hat hlt5; have hb5 := (Kept.of_grown hgr).heap hq6 Hvq.out; have hc5 := cell_blk hb5 0; have hf5 := free_blk hb5 0))
        all_goals have kG := Kept.of_grown hgr
        all_goals have kA : New W (W.drew.alloc (blkS x)) := (Kept.refl _ _).drew.alloc _
        all_goals have k5 : Kept (fun k => (Value.slice ao len c).ownBlock = some k) W w5 := (kA.mono (fun _ _ h => h.elim)).trans' kG (fun _ _ h => h)
        all_goals have hidd := lies (o := blkS x) (n := len + 1) (cap := cap5) hat
        all_goals obtain ⟨hR1, hk1⟩ := Rw.putS HB.out (v' := .slice (some ⟨g5, 0, none⟩) (len + 1) cap5) (S' := S ++ [x]) (by rw [← Hlen.out]; exact k5) (by rw [List.length_append, ← Hlen.out, encO_snoc]; exact hown') (fun k hk => (by rw [← Hlen.out]; exact (hidd k hk).imp id (fun h => Nat.le_trans kA.size h)))
        all_goals have kq : Kept (fun k => k = q) w5 (w5.setCell ⟨q, 0, none⟩ (.slice (some ⟨g5, 0, none⟩) (len + 1) cap5)) := (Kept.refl (fun k => k = q) w5).setCell (.inr rfl) _
        all_goals have T6 := kq.heap (k5.heap HT0.out (fun e => by have := Hvs.out _ e; omega)) (fun e => by omega)
        all_goals obtain ⟨t0, u0, t1, u1, t2, u2, t3, u3, t4, u4, t5, u5, t6, u6, t7, u7, t8, u8, t9, u9⟩ := of10 T6
        all_goals have HR1 := Lib.hid hR1
        all_goals have Hk1 := Lib.hid hk1
        all_goals clear hR1 hk1 hidd kG k5 kq hown' hgr hat hlt5 hb5 hc5 hf5
        all_goals go_wp2_with fail
        all_goals refine bodyPost_ret (v := .tuple #[metV false 0 0 on0, .int .i64 0]) (by rw [results_cell_tmp rfl]; go_simp) rfl ⟨rfl, ?_⟩
        all_goals have kT := ten_kept (w5.setCell ⟨q, 0, none⟩ (.slice (some ⟨g5, 0, none⟩) (len + 1) cap5)) (w.heap.size + 1) (.bool false) (.int .i64 0) (.int .i64 0) (.int .i64 on0.la) (.int .u64 on0.w0) (.int .u64 on0.w1) (.int .u64 on0.w2) (.int .u64 on0.w3) (.int .u64 on0.bg) (.bool on0.ca)
        all_goals have hWs : W.heap.size = w.heap.size + 2 := Hqs.out
        all_goals refine ⟨Rf.mono (Rf.kept HR1.out kT (fun i hi e => ?_)) (fun i hi => ?_), (((hk0.mono (fun _ _ h => h.elim)).trans' Hk1.out (fun i _ h => h.1))).trans' kT (fun i hi e => by omega)⟩
        all_goals first
          | (rcases hi with h | h; (have := h.2; omega); omega)
          | (rcases hi with h | h; exact .inl h.1; exact .inr (by omega))
end Go.Proofs.Ytanongcaokldmaa

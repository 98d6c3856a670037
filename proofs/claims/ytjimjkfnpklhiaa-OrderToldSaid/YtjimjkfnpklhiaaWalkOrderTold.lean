/- The walk of the law OrderTold. -/
import Derived.Test.YtjimjkfnpklhiaaOrdJ
import Derived.Deep.DeepCutAuto
set_option linter.all false
namespace Go.Proofs.Ytjimjkfnpklhiaa
open Go.RowKit Go.Maps

/-- Nothing but going on. -/
def OnlyK (K : Act → World → Prop) : Exit → Act → World → Prop
  | .normal, a, w => K a w
  | _, _, _ => False
theorem wp_onlyK {P : Program} {o : Oper} {a : Act} {w : World} {K : Act → World → Prop} {Q : Exit → Act → World → Prop} (h : Oper.wp P o a w K (OnlyK K)) : Oper.wp P o a w K Q := by
  unfold Oper.wp at *
  generalize (execOp a.eval o).run P w = r at *
  cases r with
  | ok n w' =>
    cases n <;> simp only [Oper.upon] at h ⊢ <;>
      first
        | exact h
        | exact Calls.mono h (fun e w'' he => by
            cases e
            · exact he
            · exact he.elim
            · obtain ⟨_, _, h⟩ := he; exact h.elim)
  | halt x w' => cases x <;> simp only [Oper.upon] at h ⊢ <;> first | exact h | exact h.elim
theorem step_append_src2 {P : Program} {w : World} {ops : Array Oper} {o : Oper} {a : Act} {K : Act → World → Prop} {Q : Exit → Act → World → Prop} {E : Prop} (hgd : o.guard = none) (s x : Operand) (t : TypeId)
    (ho : o.op = .call { callee := .builtin .append, args := #[s, x], argTypes := #[t, t] })
    (base : Nat) (e : TypeId) (i : TypeInfo) (z : Value) (size bytes : Nat) (ht : P.underlying t = some (.slice e)) (hi : P.info? e = some i) (hz : i.zero = some z)
    (hsize : i.size = size) (hby : i.bytes = bytes) (hzs : z.cells.size = size) (hsz : 0 < size)
    (v : Value) (n : Nat) (xs : List Value) (hs : a.eval s = v) (hown : w.ownsRow base e size v n xs)
    (sv : Value) (m : Nat) (news : List Value) (hx : a.eval x = sv) (hsrc : Src w sv m size news) (h1 : ∀ u ∈ news, u.oneCell' = true)
    (h63 : n + m ≤ maxLen) (hbytes : (n + m) * bytes ≤ 140737488355328) (hbase : base ≤ w.heap.size)
    (h : ∀ v' w', w'.ownsRow base e size v' (n + m) (xs ++ news) → w.grownBy w' v.ownBlock → (∀ k, v'.ownBlock = some k → v.ownBlock = some k ∨ w.heap.size ≤ k) → K (a.put o.dst v') w') :
    if Region.wanted o (yielded ops a.tmps) = true then Oper.wp P o a w K Q else E := by
  have hw : Region.wanted o (yielded ops a.tmps) = true := by simp [Region.wanted, hgd]
  rw [if_pos hw]
  have hl : wpList P ops (OnlyK K) [o] a w := wpList_append_src2 hgd s x t ho base e i z size bytes ht hi hz hsize hby hzs hsz v n xs hs hown sv m news hx hsrc h1 h63 hbytes hbase (fun v' w' a1 a2 a3 => h v' w' a1 a2 a3)
  unfold wpList at hl
  rw [if_pos hw] at hl
  rcases hl with hl | ⟨-, _, _, hl⟩
  · exact wp_onlyK hl
  · exact hl.elim

/-- Cells of what is told. -/
abbrev blkT (t : Td) (v : Value) : Obj := .cells #[.int .i64 t.e, .int .u64 t.w, .int .i64 t.k, v] 36
theorem info36 : (Try.prog.info? 36).map (fun i => i.size) = some 4 := by kernel_rfl
abbrev eT (n : Int) : Sn := ⟨0, 0, n, ⟨0, 0, 0, []⟩, .slice none 0 0, 0, 0, false⟩
abbrev dT (k n : Int) (t : Td) (v : Value) : Sn := ⟨k, 0, n, t, v, 0, 0, false⟩
def toldR (n n' : Int) (t t' : Td) : Int := if n = n' ∧ t = t' then -1 else 2
theorem told_run (n n' : Int) (t t' : Td) (v v' : Value) : (goE 1 [] 0 [eT n, dT 1 n t v, dT 2 n' t' v'] 0).1 = if n = n' ∧ t = t' then -1 else 2 := by
  have hc : ∀ k n t v, ¬ ((dT k n t v).c < 0 ∨ ((1 : Nat) : Int) ≤ (dT k n t v).c) := fun k n t v => by simp [dT]
  rw [goE_yes (E' := [en0 (eT n)]) (m' := 0) (by simp [eT]) rfl, goE_yes (E' := [en1 (en0 (eT n)) (dT 1 n t v)]) (m' := 0) (hc _ _ _ _) (mayE1_yes rfl rfl rfl rfl)]
  by_cases h : n = n' ∧ t = t'
  · rw [if_pos h, goE_yes (hc _ _ _ _) (mayE2_yes rfl rfl h.1 rfl h.2)]
    rfl
  · rw [if_neg h, goE_no (hc _ _ _ _) (mayE2_no rfl (fun x hx => by
      obtain rfl : en1 (en0 (eT n)) (dT 1 n t v) = x := Option.some.inj hx
      exact fun h' => h ⟨h'.2.1, h'.2.2.2⟩))]
    rfl

structure Tl (w0 : World) (p8 p9 p10 p11 : Nat) (n : Int) (t u : Td) (v : Value) (W : World) : Prop where
  new : New w0 W
  own : W.ownsRow w0.heap.size 78 4 v t.fg.length (t.fg.flatMap encL)
  t8 : W.heap[p8]? = some (blkT t v)
  t9 : W.heap[p9]? = some (blkT u v)
  e : W.heap[p10]? = some (blkS (eT n))
  d : W.heap[p11]? = some (blkS (dT 1 n t v))
theorem Tl.next {w0 W W' : World} {p8 p9 p10 p11 : Nat} {n : Int} {t u : Td} {v : Value} (h : Tl w0 p8 p9 p10 p11 n t u v W) (k : New W W') : Tl w0 p8 p9 p10 p11 n t u v W' :=
  ⟨h.new.trans k, own_same h.own k, k.heap h.t8 (fun h => h), k.heap h.t9 (fun h => h), k.heap h.e (fun h => h), k.heap h.d (fun h => h)⟩
/-- First, of the three things. -/
theorem told_first {w0 W : World} {p8 p9 p10 p11 : Nat} {n : Int} {t u : Td} {v : Value} (h : Tl w0 p8 p9 p10 p11 n t u v W) (h6 : t.fg.length ≤ 6) (n' : Int) (t' : Td) (hf : t'.fg = t.fg) (r : Int) (hr : toldR n n' t t' = r) :
    Calls Try.prog 11 #[.int .i64 1, .slice (some ⟨W.heap.size, 0, none⟩) 3 3] (W.alloc (.cells #[.int .i64 0, .int .i64 0, .int .i64 n, .int .i64 0, .int .u64 0, .int .i64 0, .slice none 0 0, .int .i64 0, .int .i64 0, .bool false, .int .i64 1, .int .i64 0, .int .i64 n, .int .i64 t.e, .int .u64 t.w, .int .i64 t.k, v, .int .i64 0, .int .i64 0, .bool false, .int .i64 2, .int .i64 0, .int .i64 n', .int .i64 t'.e, .int .u64 t'.w, .int .i64 t'.k, v, .int .i64 0, .int .i64 0, .bool false] 40)) fun e w' => e = .returned (.int .i64 r) ∧ New W w' := by
  show Calls Try.prog 11 _ (W.alloc (.cells ([eT n, dT 1 n t v, dT 2 n' t' v].flatMap encS).toArray 40)) _
  have kA : New W (W.alloc (.cells ([eT n, dT 1 n t v, dT 2 n' t' v].flatMap encS).toArray 40)) := (Kept.refl _ _).alloc _
  have hsrc := Src.lit W ([eT n, dT 1 n t v, dT 2 n' t' v].flatMap encS).toArray 40 3 10 rfl
  obtain ⟨E, m, hg⟩ : ∃ E m, goE 1 [] 0 [eT n, dT 1 n t v, dT 2 n' t' v] 0 = (r, E, m) := ⟨_, _, Prod.ext ((told_run n n' t t' v v).trans hr) rfl⟩
  refine (ofirst_any 1 _ [eT n, dT 1 n t v, dT 2 n' t' v] _ (by decide) (by decide) hsrc (fun s hs => ?_) (by simp) r E m hg).mono (fun e w' ⟨h1, h2⟩ => ⟨h1, kA.trans h2⟩)
  have hv := (Src.of_own h.own).same kA
  simp only [List.mem_cons, List.not_mem_nil, or_false] at hs
  rcases hs with rfl | rfl | rfl
  · exact ⟨⟨none, 0, rfl, fun _ => rfl, rfl, fun j v hj => by simp [eT] at hj⟩, by simp [eT]⟩
  · exact ⟨hv, by show t.fg.length ≤ _; omega⟩
  · refine ⟨?_, by show t'.fg.length ≤ _; rw [hf]; omega⟩
    show Src _ v t'.fg.length 4 (t'.fg.flatMap encL)
    rw [hf]; exact hv

set_option maxRecDepth 100000 in
set_option maxHeartbeats 8000000 in
theorem walkOrderTold (w : World) (cs : List Value) (hcs : Flat2Ok w ksSeen cs) (uw : Int) (_ : (Lit.int .u64 uw).wf = true) (n : Int) (hn : (Lit.int .i64 n).wf = true) :
    Calls Try.prog 7 #[.agg cs.toArray, .int .u64 uw, .int .i64 n] w fun e w' => e = .returned (.bool true) ∧ Below w.heap.size w w' := by
  obtain ⟨s, rfl, hsv, hfl, ⟨av, fl, cv, hvv, hcap⟩, -, -⟩ := sn_of_flat hcs
  clear hcs
  obtain ⟨sk, sc, sn, ⟨te, tw, tk, fg⟩, sv, sfr, srt, sis⟩ := s
  simp only at hvv hsv hfl
  subst hvv
  have hfle : fl = fg.length := by obtain ⟨_, _, e, _⟩ := hsv; injection e with _ e _
  rw [← hfle] at hsv hfl
  unfold maxLen at hfl
  have Hfl := Lib.hid hfle
  have Hfc : Hid (fl ≤ cv) := hcap
  clear hfle hcap
  have hw1 : IntKind.i64.wrap (n + 1) ≠ n := by
    have := i64_le hn
    rw [IntKind.wrap_i64]; omega
  obtain ⟨n1, hn1⟩ : ∃ n1, n1 = IntKind.i64.wrap (n + 1) := ⟨_, rfl⟩
  rw [← hn1] at hw1
  have hw2 := hn1.symm
  obtain ⟨i7, hi7, hy0, hy1, hy2⟩ := info_parts info78
  -- what is forgotten: at most six
  obtain ⟨mn, hmn⟩ : ∃ mn, mn = min fl 6 := ⟨_, rfl⟩
  have hG : (fg.take 6).length = mn := by rw [List.length_take, ← Hfl.out, hmn]; omega
  have Hmn := Lib.hid hmn
  have Hw1 := Lib.hid hw1
  clear hmn hn1 hw1
  simp only [encS]
  go_enter Try.func7, Try.ntmps7
  go_upto_region 1 with fail
  obtain ⟨W1, hW1⟩ : ∃ W, W = w.alloc (.cells #[.int .i64 sk, .int .i64 sc, .int .i64 sn, .int .i64 te, .int .u64 tw, .int .i64 tk, .slice av fl cv, .int .i64 sfr, .int .i64 srt, .bool sis] 40) := ⟨_, rfl⟩
  rw [← hW1]
  have k1 : New w W1 := by rw [hW1]; exact (Kept.refl _ _).alloc _
  obtain ⟨p3, hp3⟩ : ∃ p, p = w.heap.size := ⟨_, rfl⟩
  have hb : W1.heap[p3]? = some (.cells #[.int .i64 sk, .int .i64 sc, .int .i64 sn, .int .i64 te, .int .u64 tw, .int .i64 tk, .slice av fl cv, .int .i64 sfr, .int .i64 srt, .bool sis] 40 (0, 0)) := by rw [hW1, hp3]; exact heap_alloc_new _ _
  rw [← hp3]
  have hsv1 := hsv.same k1
  have d6 := cell_blk hb 6
  simp at d6
  have Hb := Lib.hid hb
  have Hsv := Lib.hid hsv1
  have K1 := Lib.hid k1
  clear hb hsv1 hsv k1 hW1 hp3
  go_cut [7] (fun s7 wx => ∃ ao c, s7 = .slice ao mn c ∧ wx = W1 ∧ Hid (Src W1 (.slice ao mn c) mn 4 ((fg.take 6).flatMap encL)))
  case first =>
    rcases av with _ | ⟨B2, O2, sp2⟩
    · have hf0 : fl = 0 ∧ cv = 0 := by
        obtain ⟨_, _, e, h0, _⟩ := Hsv.out
        injection e with e1 e2 e3
        have := h0 e1.symm
        have := Hfc.out
        omega
      obtain ⟨rfl, rfl⟩ := hf0
      have hm0 : mn = 0 := by rw [Hmn.out]; rfl
      subst hm0
      go_wp2_with fail
      go_meet
      exact ⟨none, 0, rfl, rfl, by rw [List.take_of_length_le (by rw [← Hfl.out]; omega)]; exact Hsv.out⟩
    · by_cases h6 : fl ≤ 6
      · have h6z : ¬ (6 : Int) < (fl : Int) := by omega
        have hcz : fl ≤ cv := Hfc.out
        have hm0 : mn = fl := by rw [Hmn.out]; omega
        subst hm0
        go_wp2_with fail
        go_meet
        exact ⟨_, _, rfl, rfl, by rw [List.take_of_length_le (by rw [← Hfl.out]; omega)]; exact Hsv.out⟩
      · have h6z : (6 : Int) < (fl : Int) := by omega
        have hcz : 6 ≤ cv := by have := Hfc.out; omega
        have hcz2 : (6 : Int) ≤ (cv : Int) := by omega
        have hm0 : mn = 6 := by rw [Hmn.out]; omega
        subst hm0
        go_wp2_with fail
        go_meet
        exact ⟨_, _, rfl, rfl, Src.takeL Hsv.out (by omega)⟩
  case rest =>
    obtain ⟨ao, c, rfl, rfl, HG⟩ := hcut
    go_upto_region 2 with fail
    have e3 := cell_blk Hb.out 3
    have e4 := cell_blk Hb.out 4
    have e5 := cell_blk Hb.out 5
    simp at e3 e4 e5
    have Hsk : Hid (∀ W', New wc W' → W'.cell? ⟨p3, 3, none⟩ = some (.int .i64 te) ∧ W'.cell? ⟨p3, 4, none⟩ = some (.int .u64 tw) ∧ W'.cell? ⟨p3, 5, none⟩ = some (.int .i64 tk)) := fun W' k => ⟨cell_kept k e3 (fun h => h), cell_kept k e4 (fun h => h), cell_kept k e5 (fun h => h)⟩
    have hd0 : New wc wc.drew := (Kept.refl _ _).drew
    clear e3 e4 e5 d6
    go_cut [8] (fun s8 wx => ∃ (p : Nat) (ao2 : Option Addr) (c2 : Nat), s8 = .pointer (some ⟨p, 0, none⟩) ∧ Hid (New w wx) ∧ Hid (wx.heap[p]? = some (.cells #[.int .i64 te, .int .u64 tw, .int .i64 tk, .slice ao2 mn c2] 36 (0, 0))) ∧ Hid (wx.ownsRow w.heap.size 78 4 (.slice ao2 mn c2) mn ((fg.take 6).flatMap encL)))
    case first =>
      obtain ⟨wd, hwd⟩ : ∃ X, X = wc.drew := ⟨_, rfl⟩
      refine wp_region_held_drew (S := fun W => W.cell? ⟨p3, 3, none⟩ = some (.int .i64 te) ∧ W.cell? ⟨p3, 4, none⟩ = some (.int .u64 tw) ∧ W.cell? ⟨p3, 5, none⟩ = some (.int .i64 tk)) (by kernel_rfl) (Hsk.out _ hd0) (fun hHeld => ?_)
      rw [← hwd] at hHeld hd0 ⊢
      clear hwd
      refine wpAnyH_take (i := 0) (v := .pointer (some ⟨p3, 3, none⟩)) rfl (by kernel_rfl) (by kernel_rfl) (by kernel_rfl) (fun _ _ _ h => h) (Or.inl ⟨by rfl, ?_⟩) hHeld ?_
      · intro W' hSW; clear hHeld; obtain ⟨z3, z4, z5⟩ := hSW; go_simp
      try simp only [Act.put, List.getElem_toArray, List.getElem_cons_zero, List.getElem_cons_succ, List.setIfInBounds_toArray, List.set_cons_zero, List.set_cons_succ]
      refine wpAnyH_take (i := 1) (v := .pointer (some ⟨p3, 3, none⟩)) rfl (by kernel_rfl) (by kernel_rfl) (by kernel_rfl) (fun _ _ _ h => h) (Or.inl ⟨by rfl, ?_⟩) hHeld ?_
      · intro W' hSW; clear hHeld; obtain ⟨z3, z4, z5⟩ := hSW; go_simp
      try simp only [Act.put, List.getElem_toArray, List.getElem_cons_zero, List.getElem_cons_succ, List.setIfInBounds_toArray, List.set_cons_zero, List.set_cons_succ]
      refine wpAnyH_take (i := 2) (v := .int .i64 te) rfl (by kernel_rfl) (by kernel_rfl) (by kernel_rfl) (fun _ _ _ h => h) (Or.inl ⟨by rfl, ?_⟩) hHeld ?_
      · intro W' hSW; clear hHeld; obtain ⟨z3, z4, z5⟩ := hSW; go_simp
      try simp only [Act.put, List.getElem_toArray, List.getElem_cons_zero, List.getElem_cons_succ, List.setIfInBounds_toArray, List.set_cons_zero, List.set_cons_succ]
      refine wpAnyH_take (i := 3) (v := .pointer (some ⟨p3, 3, none⟩)) rfl (by kernel_rfl) (by kernel_rfl) (by kernel_rfl) (fun _ _ _ h => h) (Or.inl ⟨by rfl, ?_⟩) hHeld ?_
      · intro W' hSW; clear hHeld; obtain ⟨z3, z4, z5⟩ := hSW; go_simp
      try simp only [Act.put, List.getElem_toArray, List.getElem_cons_zero, List.getElem_cons_succ, List.setIfInBounds_toArray, List.set_cons_zero, List.set_cons_succ]
      refine wpAnyH_take (i := 4) (v := .pointer (some ⟨p3, 4, none⟩)) rfl (by kernel_rfl) (by kernel_rfl) (by kernel_rfl) (fun _ _ _ h => h) (Or.inl ⟨by rfl, ?_⟩) hHeld ?_
      · intro W' hSW; clear hHeld; obtain ⟨z3, z4, z5⟩ := hSW; go_simp
      try simp only [Act.put, List.getElem_toArray, List.getElem_cons_zero, List.getElem_cons_succ, List.setIfInBounds_toArray, List.set_cons_zero, List.set_cons_succ]
      refine wpAnyH_take (i := 5) (v := .int .u64 tw) rfl (by kernel_rfl) (by kernel_rfl) (by kernel_rfl) (fun _ _ _ h => h) (Or.inl ⟨by rfl, ?_⟩) hHeld ?_
      · intro W' hSW; clear hHeld; obtain ⟨z3, z4, z5⟩ := hSW; go_simp
      try simp only [Act.put, List.getElem_toArray, List.getElem_cons_zero, List.getElem_cons_succ, List.setIfInBounds_toArray, List.set_cons_zero, List.set_cons_succ]
      refine wpAnyH_take (i := 6) (v := .pointer (some ⟨p3, 3, none⟩)) rfl (by kernel_rfl) (by kernel_rfl) (by kernel_rfl) (fun _ _ _ h => h) (Or.inl ⟨by rfl, ?_⟩) hHeld ?_
      · intro W' hSW; clear hHeld; obtain ⟨z3, z4, z5⟩ := hSW; go_simp
      try simp only [Act.put, List.getElem_toArray, List.getElem_cons_zero, List.getElem_cons_succ, List.setIfInBounds_toArray, List.set_cons_zero, List.set_cons_succ]
      refine wpAnyH_take (i := 7) (v := .pointer (some ⟨p3, 5, none⟩)) rfl (by kernel_rfl) (by kernel_rfl) (by kernel_rfl) (fun _ _ _ h => h) (Or.inl ⟨by rfl, ?_⟩) hHeld ?_
      · intro W' hSW; clear hHeld; obtain ⟨z3, z4, z5⟩ := hSW; go_simp
      try simp only [Act.put, List.getElem_toArray, List.getElem_cons_zero, List.getElem_cons_succ, List.setIfInBounds_toArray, List.set_cons_zero, List.set_cons_succ]
      refine wpAnyH_take (i := 8) (v := .int .i64 tk) rfl (by kernel_rfl) (by kernel_rfl) (by kernel_rfl) (fun _ _ _ h => h) (Or.inl ⟨by rfl, ?_⟩) hHeld ?_
      · intro W' hSW; clear hHeld; obtain ⟨z3, z4, z5⟩ := hSW; go_simp
      try simp only [Act.put, List.getElem_toArray, List.getElem_cons_zero, List.getElem_cons_succ, List.setIfInBounds_toArray, List.set_cons_zero, List.set_cons_succ]
      refine wpAnyH_take (i := 10) (v := .slice ao mn c) rfl (by kernel_rfl) (by kernel_rfl) (by kernel_rfl) (fun _ _ _ h => h) (Or.inl ⟨by rfl, ?_⟩) hHeld ?_
      · intro W' hSW; clear hHeld; obtain ⟨z3, z4, z5⟩ := hSW; go_simp
      try simp only [Act.put, List.getElem_toArray, List.getElem_cons_zero, List.getElem_cons_succ, List.setIfInBounds_toArray, List.set_cons_zero, List.set_cons_succ]
      have hszd := hd0.size
      refine wpAnyH_ready (rs := [9, 13]) (by kernel_rfl) (by simp) ?_
      refine AllReadyH.cons rfl (fun K hK => ?_) (AllReadyH.cons rfl (fun K hK => ?_) AllReadyH.nil)
      · go_simp
        refine hK.out _ _ (Hsk.out _ (hd0.alloc _)) (fun hHeld => ?_)
        clear hK K
        try simp only [Act.put, List.getElem_toArray, List.getElem_cons_zero, List.getElem_cons_succ, List.setIfInBounds_toArray, List.set_cons_zero, List.set_cons_succ]
        have hmk : (wd.alloc (.cells #[] 78)).ownsRow w.heap.size 78 4 (.slice (some ⟨wd.heap.size, 0, none⟩) 0 0) 0 (([] : List Ln).flatMap encL) := World.ownsRow_made wd #[] 0 (Nat.le_trans K1.out.size hszd) (by unfold maxLen; omega) rfl
        have hmc : (wd.alloc (.cells #[] 78)).ownsRow wc.heap.size 78 4 (.slice (some ⟨wd.heap.size, 0, none⟩) 0 0) 0 (([] : List Ln).flatMap encL) := World.ownsRow_made wd #[] 0 hszd (by unfold maxLen; omega) rfl
        refine wpAnyH_ready (rs := [11, 13]) (by kernel_rfl) (by simp) ?_
        refine AllReadyH.cons rfl (fun K hK => ?_) (AllReadyH.cons rfl (fun K hK => ?_) AllReadyH.nil)
        · skip
          refine step_append_src2 rfl _ _ 34 rfl w.heap.size 78 i7 _ 4 32 Try.underlying34 hi7 hy0 hy1 hy2 rfl (by decide) _ 0 _ rfl hmk _ mn _ rfl (HG.out.same (hd0.alloc _)) (lines_one _) (by unfold maxLen; have := Hmn.out; omega) (by have := Hmn.out; omega) (Nat.le_trans K1.out.size (hd0.alloc _).size) ?_
          intro v2 w2 hown2 hgr2 hid2
          obtain ⟨ao2, c2, hv2, -⟩ := Src.of_own hown2
          rw [Nat.zero_add] at hv2 hown2
          subst hv2
          have k2 : New wc w2 := (hd0.alloc _).grown hgr2 (fun i hi => .inl (own_block hmc hi))
          refine hK.out _ _ (Hsk.out _ (k2)) (fun hHeld => ?_)
          clear hK K
          try simp only [Act.put, List.getElem_toArray, List.getElem_cons_zero, List.getElem_cons_succ, List.setIfInBounds_toArray, List.set_cons_zero, List.set_cons_succ]
          refine wpAnyH_take (i := 12) (v := .agg #[.int .i64 te, .int .u64 tw, .int .i64 tk, .slice ao2 mn c2]) rfl (by kernel_rfl) (by kernel_rfl) (by kernel_rfl) (fun _ _ _ h => h) (Or.inl ⟨by rfl, ?_⟩) hHeld ?_
          · intro W' hSW; clear hHeld; obtain ⟨z3, z4, z5⟩ := hSW; go_simp
          try simp only [Act.put, List.getElem_toArray, List.getElem_cons_zero, List.getElem_cons_succ, List.setIfInBounds_toArray, List.set_cons_zero, List.set_cons_succ]
          refine wpAnyH_ready (rs := [13]) (by kernel_rfl) (by simp) ?_
          refine AllReadyH.cons rfl (fun K hK => ?_) AllReadyH.nil
          go_simp
          refine hK.out _ _ (Hsk.out _ (k2.alloc _)) (fun hHeld => ?_)
          clear hK K
          try simp only [Act.put, List.getElem_toArray, List.getElem_cons_zero, List.getElem_cons_succ, List.setIfInBounds_toArray, List.set_cons_zero, List.set_cons_succ]
          refine wpAnyH_ready (rs := [14]) (by kernel_rfl) (by simp) ?_
          refine AllReadyH.cons rfl (fun K hK => ?_) AllReadyH.nil
          go_simp
          refine hK.out _ _ (Hsk.out _ (k2.alloc _)) (fun hHeld => ?_)
          clear hK K
          try simp only [Act.put, List.getElem_toArray, List.getElem_cons_zero, List.getElem_cons_succ, List.setIfInBounds_toArray, List.set_cons_zero, List.set_cons_succ]
          refine wpAnyH_done (by kernel_rfl) ?_ _
          go_wp2_with fail
          go_meet
          exact ⟨_, _, _, rfl, K1.out.trans (k2.alloc _), heap_alloc_new _ _, own_same hown2 ((Kept.refl _ _).alloc _)⟩
        · go_simp
          refine hK.out _ _ (Hsk.out _ ((hd0.alloc _).alloc _)) (fun hHeld => ?_)
          clear hK K
          try simp only [Act.put, List.getElem_toArray, List.getElem_cons_zero, List.getElem_cons_succ, List.setIfInBounds_toArray, List.set_cons_zero, List.set_cons_succ]
          have hmk2 : ((wd.alloc (.cells #[] 78)).alloc (.cells #[.int .i64 0, .int .u64 0, .int .i64 0, .slice none 0 0] 36)).ownsRow w.heap.size 78 4 (.slice (some ⟨wd.heap.size, 0, none⟩) 0 0) 0 (([] : List Ln).flatMap encL) := own_same hmk ((Kept.refl _ _).alloc _)
          have hmc2 : ((wd.alloc (.cells #[] 78)).alloc (.cells #[.int .i64 0, .int .u64 0, .int .i64 0, .slice none 0 0] 36)).ownsRow wc.heap.size 78 4 (.slice (some ⟨wd.heap.size, 0, none⟩) 0 0) 0 (([] : List Ln).flatMap encL) := own_same hmc ((Kept.refl _ _).alloc _)
          have hz : ((wd.alloc (.cells #[] 78)).alloc (.cells #[.int .i64 0, .int .u64 0, .int .i64 0, .slice none 0 0] 36)).heap[wd.heap.size + 1]? = some (.cells #[.int .i64 0, .int .u64 0, .int .i64 0, .slice none 0 0] 36) := by rw [show wd.heap.size + 1 = (wd.alloc (.cells #[] 78)).heap.size from (Array.size_push ..).symm]; exact heap_alloc_new _ _
          obtain ⟨p, hp⟩ : ∃ p, p = wd.heap.size + 1 := ⟨_, rfl⟩
          rw [← hp] at hz ⊢
          have Hp := Lib.hid hp
          have hpc : wc.heap.size ≤ p := by omega
          clear hp hmk hmc
          refine wpAnyH_ready (rs := [11]) (by kernel_rfl) (by simp) ?_
          refine AllReadyH.cons rfl (fun K hK => ?_) AllReadyH.nil
          refine step_append_src2 rfl _ _ 34 rfl w.heap.size 78 i7 _ 4 32 Try.underlying34 hi7 hy0 hy1 hy2 rfl (by decide) _ 0 _ rfl hmk2 _ mn _ rfl (HG.out.same ((hd0.alloc _).alloc _)) (lines_one _) (by unfold maxLen; have := Hmn.out; omega) (by have := Hmn.out; omega) (Nat.le_trans K1.out.size ((hd0.alloc _).alloc _).size) ?_
          intro v2 w2 hown2 hgr2 hid2
          obtain ⟨ao2, c2, hv2, -⟩ := Src.of_own hown2
          rw [Nat.zero_add] at hv2 hown2
          subst hv2
          have k2 : New wc w2 := ((hd0.alloc _).alloc _).grown hgr2 (fun i hi => .inl (own_block hmc2 hi))
          have hz2 := (Kept.of_grown hgr2).heap hz (fun h => by have h9 : wd.heap.size = p := Option.some.inj h; have := Hp.out; omega)
          refine hK.out _ _ (Hsk.out _ (k2)) (fun hHeld => ?_)
          clear hK K
          try simp only [Act.put, List.getElem_toArray, List.getElem_cons_zero, List.getElem_cons_succ, List.setIfInBounds_toArray, List.set_cons_zero, List.set_cons_succ]
          refine wpAnyH_take (i := 12) (v := .agg #[.int .i64 te, .int .u64 tw, .int .i64 tk, .slice ao2 mn c2]) rfl (by kernel_rfl) (by kernel_rfl) (by kernel_rfl) (fun _ _ _ h => h) (Or.inl ⟨by rfl, ?_⟩) hHeld ?_
          · intro W' hSW; clear hHeld; obtain ⟨z3, z4, z5⟩ := hSW; go_simp
          try simp only [Act.put, List.getElem_toArray, List.getElem_cons_zero, List.getElem_cons_succ, List.setIfInBounds_toArray, List.set_cons_zero, List.set_cons_succ]
          have f0 := free_blk hz2 0
          have f1 := free_blk hz2 1
          have f2 := free_blk hz2 2
          have f3 := free_blk hz2 3
          have g0 := cell_blk hz2 0
          have g1 := cell_blk hz2 1
          have g2 := cell_blk hz2 2
          have g3 := cell_blk hz2 3
          simp at g0 g1 g2 g3
          have k3 : Kept (fun k => k = p) w2 ((((w2.setCell ⟨p, 0, none⟩ (.int .i64 te)).setCell ⟨p, 1, none⟩ (.int .u64 tw)).setCell ⟨p, 2, none⟩ (.int .i64 tk)).setCell ⟨p, 3, none⟩ (.slice ao2 mn c2)) := ((((Kept.refl (fun k => k = p) _).setCell (.inr rfl) _).setCell (.inr rfl) _).setCell (.inr rfl) _).setCell (.inr rfl) _
          have k4 : New wc ((((w2.setCell ⟨p, 0, none⟩ (.int .i64 te)).setCell ⟨p, 1, none⟩ (.int .u64 tw)).setCell ⟨p, 2, none⟩ (.int .i64 tk)).setCell ⟨p, 3, none⟩ (.slice ao2 mn c2)) := k2.new k3 (fun i hi => by omega)
          have hz3 : ((((w2.setCell ⟨p, 0, none⟩ (.int .i64 te)).setCell ⟨p, 1, none⟩ (.int .u64 tw)).setCell ⟨p, 2, none⟩ (.int .i64 tk)).setCell ⟨p, 3, none⟩ (.slice ao2 mn c2)).heap[p]? = some (.cells #[.int .i64 te, .int .u64 tw, .int .i64 tk, .slice ao2 mn c2] 36 (0, 0)) := heap_setCell_same _ _ 3 _ _ _ (heap_setCell_same _ _ 2 _ _ _ (heap_setCell_same _ _ 1 _ _ _ (heap_setCell_same _ _ 0 _ _ _ hz2)))
          have hown3 := own_kept hown2 k3 (fun i hi hj => by obtain ⟨c9, h9⟩ := own_type hown2 hi; rw [hj, hz2] at h9; cases h9)
          refine wpAnyH_ready (rs := [14]) (by kernel_rfl) (by simp) ?_
          refine AllReadyH.cons rfl (fun K hK => ?_) AllReadyH.nil
          go_simp
          refine hK.out _ _ (Hsk.out _ (k4)) (fun hHeld => ?_)
          clear hK K
          try simp only [Act.put, List.getElem_toArray, List.getElem_cons_zero, List.getElem_cons_succ, List.setIfInBounds_toArray, List.set_cons_zero, List.set_cons_succ]
          refine wpAnyH_done (by kernel_rfl) ?_ _
          clear f0 f1 f2 f3 g0 g1 g2 g3
          go_wp2_with fail
          go_meet
          exact ⟨_, _, _, rfl, K1.out.trans k4, hz3, hown3⟩
      · go_simp
        refine hK.out _ _ (Hsk.out _ (hd0.alloc _)) (fun hHeld => ?_)
        clear hK K
        try simp only [Act.put, List.getElem_toArray, List.getElem_cons_zero, List.getElem_cons_succ, List.setIfInBounds_toArray, List.set_cons_zero, List.set_cons_succ]
        refine wpAnyH_ready (rs := [9]) (by kernel_rfl) (by simp) ?_
        refine AllReadyH.cons rfl (fun K hK => ?_) AllReadyH.nil
        go_simp
        refine hK.out _ _ (Hsk.out _ ((hd0.alloc _).alloc _)) (fun hHeld => ?_)
        clear hK K
        try simp only [Act.put, List.getElem_toArray, List.getElem_cons_zero, List.getElem_cons_succ, List.setIfInBounds_toArray, List.set_cons_zero, List.set_cons_succ]
        have hs1 : (wd.alloc (.cells #[.int .i64 0, .int .u64 0, .int .i64 0, .slice none 0 0] 36)).heap.size = wd.heap.size + 1 := Array.size_push ..
        have hmk2 : ((wd.alloc (.cells #[.int .i64 0, .int .u64 0, .int .i64 0, .slice none 0 0] 36)).alloc (.cells #[] 78)).ownsRow w.heap.size 78 4 (.slice (some ⟨wd.heap.size + 1, 0, none⟩) 0 0) 0 (([] : List Ln).flatMap encL) := by
          rw [← hs1]; exact World.ownsRow_made (wd.alloc (.cells #[.int .i64 0, .int .u64 0, .int .i64 0, .slice none 0 0] 36)) #[] 0 (by have := K1.out.size; omega) (by unfold maxLen; omega) rfl
        have hmc2 : ((wd.alloc (.cells #[.int .i64 0, .int .u64 0, .int .i64 0, .slice none 0 0] 36)).alloc (.cells #[] 78)).ownsRow wc.heap.size 78 4 (.slice (some ⟨wd.heap.size + 1, 0, none⟩) 0 0) 0 (([] : List Ln).flatMap encL) := by
          rw [← hs1]; exact World.ownsRow_made (wd.alloc (.cells #[.int .i64 0, .int .u64 0, .int .i64 0, .slice none 0 0] 36)) #[] 0 (by omega) (by unfold maxLen; omega) rfl
        have hz : ((wd.alloc (.cells #[.int .i64 0, .int .u64 0, .int .i64 0, .slice none 0 0] 36)).alloc (.cells #[] 78)).heap[wd.heap.size]? = some (.cells #[.int .i64 0, .int .u64 0, .int .i64 0, .slice none 0 0] 36) := ((Kept.refl (fun _ => False) _).alloc _).heap (heap_alloc_new _ _) (fun h => h)
        obtain ⟨q, hq⟩ : ∃ q, q = wd.heap.size + 1 := ⟨_, rfl⟩
        obtain ⟨p, hp⟩ : ∃ p, p = wd.heap.size := ⟨_, rfl⟩
        rw [← hq] at hmk2 hmc2 ⊢
        rw [← hp] at hz hszd ⊢
        have Hp : Hid (q = p + 1) := by rw [hp]; exact hq
        have hpc : wc.heap.size ≤ p := hszd
        clear hp hq hs1
        refine wpAnyH_ready (rs := [11]) (by kernel_rfl) (by simp) ?_
        refine AllReadyH.cons rfl (fun K hK => ?_) AllReadyH.nil
        refine step_append_src2 rfl _ _ 34 rfl w.heap.size 78 i7 _ 4 32 Try.underlying34 hi7 hy0 hy1 hy2 rfl (by decide) _ 0 _ rfl hmk2 _ mn _ rfl (HG.out.same ((hd0.alloc _).alloc _)) (lines_one _) (by unfold maxLen; have := Hmn.out; omega) (by have := Hmn.out; omega) (Nat.le_trans K1.out.size ((hd0.alloc _).alloc _).size) ?_
        intro v2 w2 hown2 hgr2 hid2
        obtain ⟨ao2, c2, hv2, -⟩ := Src.of_own hown2
        rw [Nat.zero_add] at hv2 hown2
        subst hv2
        have k2 : New wc w2 := ((hd0.alloc _).alloc _).grown hgr2 (fun i hi => .inl (own_block hmc2 hi))
        have hz2 := (Kept.of_grown hgr2).heap hz (fun h => by have h9 : q = p := Option.some.inj h; have := Hp.out; omega)
        refine hK.out _ _ (Hsk.out _ (k2)) (fun hHeld => ?_)
        clear hK K
        try simp only [Act.put, List.getElem_toArray, List.getElem_cons_zero, List.getElem_cons_succ, List.setIfInBounds_toArray, List.set_cons_zero, List.set_cons_succ]
        refine wpAnyH_take (i := 12) (v := .agg #[.int .i64 te, .int .u64 tw, .int .i64 tk, .slice ao2 mn c2]) rfl (by kernel_rfl) (by kernel_rfl) (by kernel_rfl) (fun _ _ _ h => h) (Or.inl ⟨by rfl, ?_⟩) hHeld ?_
        · intro W' hSW; clear hHeld; obtain ⟨z3, z4, z5⟩ := hSW; go_simp
        try simp only [Act.put, List.getElem_toArray, List.getElem_cons_zero, List.getElem_cons_succ, List.setIfInBounds_toArray, List.set_cons_zero, List.set_cons_succ]
        have f0 := free_blk hz2 0
        have f1 := free_blk hz2 1
        have f2 := free_blk hz2 2
        have f3 := free_blk hz2 3
        have g0 := cell_blk hz2 0
        have g1 := cell_blk hz2 1
        have g2 := cell_blk hz2 2
        have g3 := cell_blk hz2 3
        simp at g0 g1 g2 g3
        have k3 : Kept (fun k => k = p) w2 ((((w2.setCell ⟨p, 0, none⟩ (.int .i64 te)).setCell ⟨p, 1, none⟩ (.int .u64 tw)).setCell ⟨p, 2, none⟩ (.int .i64 tk)).setCell ⟨p, 3, none⟩ (.slice ao2 mn c2)) := ((((Kept.refl (fun k => k = p) _).setCell (.inr rfl) _).setCell (.inr rfl) _).setCell (.inr rfl) _).setCell (.inr rfl) _
        have k4 : New wc ((((w2.setCell ⟨p, 0, none⟩ (.int .i64 te)).setCell ⟨p, 1, none⟩ (.int .u64 tw)).setCell ⟨p, 2, none⟩ (.int .i64 tk)).setCell ⟨p, 3, none⟩ (.slice ao2 mn c2)) := k2.new k3 (fun i hi => by omega)
        have hz3 : ((((w2.setCell ⟨p, 0, none⟩ (.int .i64 te)).setCell ⟨p, 1, none⟩ (.int .u64 tw)).setCell ⟨p, 2, none⟩ (.int .i64 tk)).setCell ⟨p, 3, none⟩ (.slice ao2 mn c2)).heap[p]? = some (.cells #[.int .i64 te, .int .u64 tw, .int .i64 tk, .slice ao2 mn c2] 36 (0, 0)) := heap_setCell_same _ _ 3 _ _ _ (heap_setCell_same _ _ 2 _ _ _ (heap_setCell_same _ _ 1 _ _ _ (heap_setCell_same _ _ 0 _ _ _ hz2)))
        have hown3 := own_kept hown2 k3 (fun i hi hj => by obtain ⟨c9, h9⟩ := own_type hown2 hi; rw [hj, hz2] at h9; cases h9)
        refine wpAnyH_ready (rs := [14]) (by kernel_rfl) (by simp) ?_
        refine AllReadyH.cons rfl (fun K hK => ?_) AllReadyH.nil
        go_simp
        refine hK.out _ _ (Hsk.out _ (k4)) (fun hHeld => ?_)
        clear hK K
        try simp only [Act.put, List.getElem_toArray, List.getElem_cons_zero, List.getElem_cons_succ, List.setIfInBounds_toArray, List.set_cons_zero, List.set_cons_succ]
        refine wpAnyH_done (by kernel_rfl) ?_ _
        clear f0 f1 f2 f3 g0 g1 g2 g3
        go_wp2_with fail
        go_meet
        exact ⟨_, _, _, rfl, K1.out.trans k4, hz3, hown3⟩
    case rest =>
      obtain ⟨p8, ao2, c2, rfl, HN, H8, HO⟩ := hcut
      clear Hsk hd0 Hb Hsv HG K1
      have c0 := cell_blk H8.out 0
      have c1 := cell_blk H8.out 1
      have c2' := cell_blk H8.out 2
      have c3 := cell_blk H8.out 3
      simp at c0 c1 c2' c3
      go_upto_region 6 with fail
      clear c0 c1 c2' c3
      obtain ⟨X1, hX1⟩ : ∃ X, X = (wc.alloc (.cells #[.int .i64 te, .int .u64 uw, .int .i64 tk, .slice ao2 mn c2] 36)).alloc (.cells #[.int .i64 0, .int .i64 0, .int .i64 n, .int .i64 0, .int .u64 0, .int .i64 0, .slice none 0 0, .int .i64 0, .int .i64 0, .bool false] 40) := ⟨_, rfl⟩
      rw [← hX1]
      have kA : New wc (wc.alloc (.cells #[.int .i64 te, .int .u64 uw, .int .i64 tk, .slice ao2 mn c2] 36)) := (Kept.refl _ _).alloc _
      have kB : New (wc.alloc (.cells #[.int .i64 te, .int .u64 uw, .int .i64 tk, .slice ao2 mn c2] 36)) X1 := by rw [hX1]; exact (Kept.refl _ _).alloc _
      have z1 : (wc.alloc (.cells #[.int .i64 te, .int .u64 uw, .int .i64 tk, .slice ao2 mn c2] 36)).heap.size = wc.heap.size + 1 := Array.size_push ..
      obtain ⟨p9, hp9⟩ : ∃ p, p = wc.heap.size := ⟨_, rfl⟩
      obtain ⟨p10, hp10⟩ : ∃ p, p = wc.heap.size + 1 := ⟨_, rfl⟩
      have h9 : X1.heap[p9]? = some (.cells #[.int .i64 te, .int .u64 uw, .int .i64 tk, .slice ao2 mn c2] 36 (0, 0)) := by rw [hp9]; exact kB.heap (heap_alloc_new _ _) (fun h => h)
      have h10 : X1.heap[p10]? = some (.cells #[.int .i64 0, .int .i64 0, .int .i64 n, .int .i64 0, .int .u64 0, .int .i64 0, .slice none 0 0, .int .i64 0, .int .i64 0, .bool false] 40 (0, 0)) := by rw [hp10, ← z1, hX1]; exact heap_alloc_new _ _
      have h8 := (kA.trans kB).heap H8.out (fun h => h)
      have hN := HN.out.trans (kA.trans kB)
      have hO := own_same HO.out (kA.trans kB)
      rw [← hp10, ← hp9]
      clear z1 hX1 hp9 hp10 kA kB
      have c0 := cell_blk h8 0
      have c1 := cell_blk h8 1
      have c2' := cell_blk h8 2
      have c3 := cell_blk h8 3
      simp at c0 c1 c2' c3
      go_upto_region 7 with fail
      clear c0 c1 c2' c3
      obtain ⟨X2, hX2⟩ : ∃ X, X = X1.alloc (.cells #[.int .i64 1, .int .i64 0, .int .i64 n, .int .i64 te, .int .u64 tw, .int .i64 tk, .slice ao2 mn c2, .int .i64 0, .int .i64 0, .bool false] 40) := ⟨_, rfl⟩
      rw [← hX2]
      have kA : New X1 X2 := by rw [hX2]; exact (Kept.refl _ _).alloc _
      obtain ⟨p11, hp11⟩ : ∃ p, p = X1.heap.size := ⟨_, rfl⟩
      have h11 : X2.heap[p11]? = some (.cells #[.int .i64 1, .int .i64 0, .int .i64 n, .int .i64 te, .int .u64 tw, .int .i64 tk, .slice ao2 mn c2, .int .i64 0, .int .i64 0, .bool false] 40 (0, 0)) := by rw [hp11, hX2]; exact heap_alloc_new _ _
      rw [← hp11]
      obtain ⟨t, ht⟩ : ∃ t : Td, t = ⟨te, tw, tk, fg.take 6⟩ := ⟨_, rfl⟩
      obtain ⟨u, hu⟩ : ∃ u : Td, u = ⟨te, uw, tk, fg.take 6⟩ := ⟨_, rfl⟩
      have hT : Tl w p8 p9 p10 p11 n t u (.slice ao2 mn c2) X2 := ⟨hN.trans kA, by rw [ht]; show X2.ownsRow _ 78 4 _ (fg.take 6).length _; rw [hG]; exact own_same hO kA, by rw [ht]; exact kA.heap h8 (fun h => h), by rw [hu]; exact kA.heap h9 (fun h => h), kA.heap h10 (fun h => h), by rw [ht]; exact h11⟩
      have h6 : t.fg.length ≤ 6 := by rw [ht]; show (fg.take 6).length ≤ 6; rw [List.length_take]; omega
      obtain ⟨rb, hrb⟩ : ∃ rb : Int, toldR n n t u = rb := ⟨_, rfl⟩
      have hrb2 : (uw = tw ∧ rb = -1) ∨ (uw ≠ tw ∧ rb = 2) := by
        by_cases h : uw = tw
        · exact .inl ⟨h, by rw [← hrb, toldR, if_pos ⟨rfl, by rw [ht, hu, h]⟩]⟩
        · exact .inr ⟨h, by rw [← hrb, toldR, if_neg (fun h' => h (by have := h'.2; rw [ht, hu] at this; injection this with _ h2; exact h2.symm))]⟩
      have hrc : toldR n n1 t t = (2 : Int) := by rw [toldR, if_neg (fun h => Hw1.out h.1.symm)]
      have hra : toldR n n t t = (-1 : Int) := by rw [toldR, if_pos ⟨rfl, rfl⟩]
      have huf : u.fg = t.fg := by rw [ht, hu]
      have HT := Lib.hid hT
      have Ht := Lib.hid ht
      have Hu := Lib.hid hu
      have Huf := Lib.hid huf
      have Hra := Lib.hid hra
      have Hrb := Lib.hid hrb
      have Hrc := Lib.hid hrc
      clear h8 h9 h10 h11 hN hO kA hp11 hX2 hT ht hu huf hra hrb hrc HN H8 HO
      have q8 := HT.out.t8
      have qe := HT.out.e
      have qd := HT.out.d
      rw [Ht.out] at qd
      rw [Ht.out] at q8
      have a0 := cell_blk qe 0
      have a1 := cell_blk qe 1
      have a2 := cell_blk qe 2
      have a3 := cell_blk qe 3
      have a4 := cell_blk qe 4
      have a5 := cell_blk qe 5
      have a6 := cell_blk qe 6
      have a7 := cell_blk qe 7
      have a8 := cell_blk qe 8
      have a9 := cell_blk qe 9
      have b0 := cell_blk qd 0
      have b1 := cell_blk qd 1
      have b2 := cell_blk qd 2
      have b3 := cell_blk qd 3
      have b4 := cell_blk qd 4
      have b5 := cell_blk qd 5
      have b6 := cell_blk qd 6
      have b7 := cell_blk qd 7
      have b8 := cell_blk qd 8
      have b9 := cell_blk qd 9
      have c0 := cell_blk q8 0
      have c1 := cell_blk q8 1
      have c2 := cell_blk q8 2
      have c3 := cell_blk q8 3
      simp at a0 a1 a2 a3 a4 a5 a6 a7 a8 a9 b0 b1 b2 b3 b4 b5 b6 b7 b8 b9 c0 c1 c2 c3
      have hcall := told_first HT.out h6 n t rfl _ Hra.out
      rw [Ht.out] at hcall
      have Hcall := Lib.hid hcall
      clear hcall q8 qe qd
      go_wp2_with fail
      refine Hcall.out.mono ?_
      rintro e X3 ⟨rfl, kx⟩
      clear Hcall a0 a1 a2 a3 a4 a5 a6 a7 a8 a9 b0 b1 b2 b3 b4 b5 b6 b7 b8 b9 c0 c1 c2 c3
      replace HT := Lib.hid (HT.out.next kx)
      clear kx
      have q8 := HT.out.t9
      have qe := HT.out.e
      have qd := HT.out.d
      rw [Ht.out] at qd
      rw [Hu.out] at q8
      have a0 := cell_blk qe 0
      have a1 := cell_blk qe 1
      have a2 := cell_blk qe 2
      have a3 := cell_blk qe 3
      have a4 := cell_blk qe 4
      have a5 := cell_blk qe 5
      have a6 := cell_blk qe 6
      have a7 := cell_blk qe 7
      have a8 := cell_blk qe 8
      have a9 := cell_blk qe 9
      have b0 := cell_blk qd 0
      have b1 := cell_blk qd 1
      have b2 := cell_blk qd 2
      have b3 := cell_blk qd 3
      have b4 := cell_blk qd 4
      have b5 := cell_blk qd 5
      have b6 := cell_blk qd 6
      have b7 := cell_blk qd 7
      have b8 := cell_blk qd 8
      have b9 := cell_blk qd 9
      have c0 := cell_blk q8 0
      have c1 := cell_blk q8 1
      have c2 := cell_blk q8 2
      have c3 := cell_blk q8 3
      simp at a0 a1 a2 a3 a4 a5 a6 a7 a8 a9 b0 b1 b2 b3 b4 b5 b6 b7 b8 b9 c0 c1 c2 c3
      have hcall := told_first HT.out h6 n u Huf.out _ Hrb.out
      rw [Ht.out, Hu.out] at hcall
      have Hcall := Lib.hid hcall
      clear hcall q8 qe qd
      go_wp2_with fail
      refine Hcall.out.mono ?_
      rintro e X4 ⟨rfl, kx⟩
      clear Hcall a0 a1 a2 a3 a4 a5 a6 a7 a8 a9 b0 b1 b2 b3 b4 b5 b6 b7 b8 b9 c0 c1 c2 c3
      replace HT := Lib.hid (HT.out.next kx)
      clear kx
      have q8 := HT.out.t8
      have qe := HT.out.e
      have qd := HT.out.d
      rw [Ht.out] at qd
      rw [Ht.out] at q8
      have a0 := cell_blk qe 0
      have a1 := cell_blk qe 1
      have a2 := cell_blk qe 2
      have a3 := cell_blk qe 3
      have a4 := cell_blk qe 4
      have a5 := cell_blk qe 5
      have a6 := cell_blk qe 6
      have a7 := cell_blk qe 7
      have a8 := cell_blk qe 8
      have a9 := cell_blk qe 9
      have b0 := cell_blk qd 0
      have b1 := cell_blk qd 1
      have b2 := cell_blk qd 2
      have b3 := cell_blk qd 3
      have b4 := cell_blk qd 4
      have b5 := cell_blk qd 5
      have b6 := cell_blk qd 6
      have b7 := cell_blk qd 7
      have b8 := cell_blk qd 8
      have b9 := cell_blk qd 9
      have c0 := cell_blk q8 0
      have c1 := cell_blk q8 1
      have c2 := cell_blk q8 2
      have c3 := cell_blk q8 3
      simp at a0 a1 a2 a3 a4 a5 a6 a7 a8 a9 b0 b1 b2 b3 b4 b5 b6 b7 b8 b9 c0 c1 c2 c3
      have hcall := told_first HT.out h6 n1 t rfl _ Hrc.out
      rw [Ht.out] at hcall
      have Hcall := Lib.hid hcall
      clear hcall q8 qe qd
      go_wp2_with fail
      refine Hcall.out.mono ?_
      rintro e X5 ⟨rfl, kx⟩
      clear Hcall a0 a1 a2 a3 a4 a5 a6 a7 a8 a9 b0 b1 b2 b3 b4 b5 b6 b7 b8 b9 c0 c1 c2 c3
      replace HT := Lib.hid (HT.out.next kx)
      clear kx

      have q8 := HT.out.t8
      rw [Ht.out] at q8
      have g1 := cell_blk q8 1
      simp at g1
      have HN := HT.out.new
      clear q8 HT
      rcases hrb2 with ⟨rfl, rfl⟩ | ⟨hne, rfl⟩
      · go_wp2_with fail
        refine (fixed_any _).mono ?_
        rintro e w9 ⟨rfl, k9⟩
        go_wp2_with fail
        go_ret
        exact ⟨rfl, none_below (HN.trans k9)⟩
      · have hne2 : (uw == tw) = false := by simpa using hne
        go_wp2_with fail
        refine (fixed_any _).mono ?_
        rintro e w9 ⟨rfl, k9⟩
        go_wp2_with fail
        go_ret
        exact ⟨rfl, none_below (HN.trans k9)⟩
end Go.Proofs.Ytjimjkfnpklhiaa

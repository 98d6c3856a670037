/- Package order: whether something may be. -/
import Derived.Test.YtjimjkfnpklhiaaOrdX
import Derived.BigQuiet
set_option linter.all false
namespace Go.Proofs.Ytjimjkfnpklhiaa
open Go.RowKit Go.Maps

/-- Something that is seen; v is the slice of what is to be forgotten. -/
structure Sn where
  k : Int
  c : Int
  n : Int
  t : Td
  v : Value
  fr : Int
  rt : Int
  is : Bool
def encS (s : Sn) : List Value := [.int .i64 s.k, .int .i64 s.c, .int .i64 s.n, .int .i64 s.t.e, .int .u64 s.t.w, .int .i64 s.t.k, s.v, .int .i64 s.fr, .int .i64 s.rt, .bool s.is]
abbrev snV (s : Sn) : Value := .agg #[.int .i64 s.k, .int .i64 s.c, .int .i64 s.n, .int .i64 s.t.e, .int .u64 s.t.w, .int .i64 s.t.k, s.v, .int .i64 s.fr, .int .i64 s.rt, .bool s.is]
abbrev blkS (s : Sn) : Obj := .cells #[.int .i64 s.k, .int .i64 s.c, .int .i64 s.n, .int .i64 s.t.e, .int .u64 s.t.w, .int .i64 s.t.k, s.v, .int .i64 s.fr, .int .i64 s.rt, .bool s.is] 40
abbrev en0 (s : Sn) : En := ⟨s.c, s.n, false, ⟨0, 0, 0, []⟩, .slice none 0 0, 0⟩
abbrev en1 (x : En) (s : Sn) : En := ⟨x.c, x.n, true, s.t, s.v, x.wt⟩
abbrev coreL (E : List En) : List Int := E.map En.c
def mayE (E : List En) (m : Nat) (s : Sn) : Bool × List En × Nat :=
  if s.k = 0 then (if s.c ∈ coreL E then (false, E, m) else (true, E ++ [en0 s], m))
  else if s.k = 1 then (match E with
    | [] => (false, [], m)
    | x :: r => if x.c = s.c ∧ x.n = s.n ∧ x.did = false then (true, en1 x s :: r, m) else (false, x :: r, m))
  else if s.k = 2 then (match E with
    | [] => (false, [], m)
    | x :: r => if x.c = s.c ∧ x.n = s.n ∧ x.did = true ∧ x.t = s.t then (true, r.map (more 1), max m x.wt) else (false, x :: r, m))
  else if s.k = 3 then (decide (s.c ∉ coreL E), E, m)
  else if s.k = 4 ∨ s.k = 5 then (E.isEmpty, E, m)
  else (false, E, m)

theorem Wt.lk {w0 w w2 : World} {b lb g mb n most : Nat} {Q : List (En × Nat)} (h : Wt w0 w b lb g mb n Q most) (k : Kept (fun k => w0.heap.size ≤ k ∧ Lt w k) w w2) :
    New w0 w2 ∧ w2.heap[b]? = some (.cells #[.pointer (some ⟨lb, 0, none⟩), .map (some mb), .int .i64 most] 50 (0, 0)) ∧ Mp w2 mb (blksE Q) ∧ ∀ x ∈ Q, w0.heap.size ≤ x.2 ∧ w2.heap[x.2]? = some (blkE x.1) := by
  have hno : ∀ k o, w.heap[k]? = some o → (∀ c T, o = .cells c T (0, 0) → T ≠ 62 ∧ T ≠ 59 ∧ T ≠ 64) → ¬ (w0.heap.size ≤ k ∧ Lt w k) := fun k o ho hT hk => by
    obtain ⟨c, T, e, ht⟩ := hk.2
    rw [ho] at e
    injection e with e
    have := hT c T e
    rcases ht with e' | e' | e'
    · exact this.1 e'
    · exact this.2.1 e'
    · exact this.2.2 e'
  refine ⟨Kept.new h.new k (fun i hi => hi.1), k.heap h.blk (hno _ _ h.blk (fun c T e => by injection e with _ e; subst e; decide)), h.map.kept k (by obtain ⟨es, ck, hh⟩ := h.map.blk; exact hno _ _ hh (fun c T e => by cases e)), fun y hy => ⟨(h.ent y hy).1, k.heap (h.ent y hy).2 (hno _ _ (h.ent y hy).2 (fun c T e => by injection e with _ e; subst e; decide))⟩⟩
theorem Wt.locked {w0 w w2 : World} {b lb g mb n most : Nat} {Q : List (En × Nat)} (h : Wt w0 w b lb g mb n Q most) (k : Kept (fun k => w0.heap.size ≤ k ∧ Lt w k) w w2) (l : Lock (fun k => w0.heap.size ≤ k ∨ w.heap.size ≤ k) w2 lb g n (coresE Q)) : Wt w0 w2 b lb g mb n Q most := by
  obtain ⟨h1, h2, h3, h4⟩ := h.lk k
  exact ⟨h1, h2, h.lo, l.mono (fun k hk => by have := h.new.size; omega), h3, h4, h.nodup, h.src⟩
theorem Wt.enter {w0 w' : World} {b lb g mb n most p : Nat} {Q : List (En × Nat)} {s : Sn} (hn : New w0 w') (hb : w'.heap[b]? = some (.cells #[.pointer (some ⟨lb, 0, none⟩), .map (some mb), .int .i64 most] 50 (0, 0))) (hlo : w0.heap.size ≤ b ∧ w0.heap.size ≤ mb)
    (hl : Lock (fun k => w0.heap.size ≤ k) w' lb g n (coresE Q ++ [s.c])) (hm : Mp w' mb (blksE Q ++ [(s.c, p)])) (he : ∀ x ∈ Q, w0.heap.size ≤ x.2 ∧ w'.heap[x.2]? = some (blkE x.1)) (hp : w0.heap.size ≤ p) (hpb : w'.heap[p]? = some (blkE (en0 s)))
    (hnd : (Q.map Prod.snd).Nodup) (hnp : ∀ x ∈ Q, ¬ x.2 = p) (hs : ∀ x ∈ Q, Src w0 x.1.v x.1.t.fg.length 4 (x.1.t.fg.flatMap encL)) : Wt w0 w' b lb g mb n (Q ++ [(en0 s, p)]) most := by
  refine ⟨hn, hb, hlo, by simpa [coresE] using hl, by simpa [blksE] using hm, fun x hx => ?_, ?_, fun x hx => ?_⟩
  · rcases List.mem_append.1 hx with h | h
    · exact he x h
    · obtain rfl := List.mem_singleton.1 h; exact ⟨hp, hpb⟩
  · rw [List.map_append, List.nodup_append]
    refine ⟨hnd, by simp, fun a ha c hc e => ?_⟩
    obtain ⟨x, hx, rfl⟩ := List.mem_map.1 ha
    simp at hc
    exact hnp x hx (e.trans hc)
  · rcases List.mem_append.1 hx with h | h
    · exact hs x h
    · obtain rfl := List.mem_singleton.1 h
      exact ⟨none, 0, rfl, fun _ => rfl, rfl, fun j v hj => by simp at hj⟩

theorem Wt.did {w0 w w' : World} {b lb g mb n most p : Nat} {x : En} {s : Sn} {Q : List (En × Nat)} (h : Wt w0 w b lb g mb n ((x, p) :: Q) most) (k : Kept (fun k => k = p) w w') (hp : w'.heap[p]? = some (blkE (en1 x s))) (hs : Src w0 s.v s.t.fg.length 4 (s.t.fg.flatMap encL)) : Wt w0 w' b lb g mb n ((en1 x s, p) :: Q) most := by
  obtain ⟨hlo, hpx⟩ := h.ent (x, p) (by simp)
  have hnd := h.nodup
  simp only [List.map_cons, List.nodup_cons] at hnd
  refine ⟨Kept.new h.new k (fun i e => by subst e; exact hlo), k.heap h.blk (fun e => ?_), h.lo, h.lock.kept4 k (fun i e c T fz hh => ?_), h.map.kept k (fun e => ?_), fun y hy => ?_, ?_, fun y hy => ?_⟩
  · skip
    have h9 := h.blk
    rw [e, hpx] at h9
    injection h9 with h9; injection h9 with _ h9; cases h9
  · subst e
    rw [hpx] at hh
    injection hh with hh; injection hh with _ hh; subst hh; decide
  · obtain ⟨es, ck, hm⟩ := h.map.blk
    rw [e, hpx] at hm
    cases hm
  · rcases List.mem_cons.1 hy with e | hy
    · subst e; exact ⟨hlo, hp⟩
    · refine ⟨(h.ent y (List.mem_cons_of_mem _ hy)).1, k.heap (h.ent y (List.mem_cons_of_mem _ hy)).2 (fun e => hnd.1 ?_)⟩
      rw [← e]; exact List.mem_map.2 ⟨y, hy, rfl⟩
  · simp only [List.map_cons, List.nodup_cons]; exact hnd
  · rcases List.mem_cons.1 hy with e | hy
    · subst e; exact hs
    · exact h.src y (List.mem_cons_of_mem _ hy)
theorem told_heap {w : World} {p : Nat} {x : En} (h : w.heap[p]? = some (blkE x)) (y : En) (s : Sn) : (((((w.setCell ⟨p, 1, none⟩ (.bool true)).setCell ⟨p, 2, none⟩ (.int .i64 s.t.e)).setCell ⟨p, 3, none⟩ (.int .u64 s.t.w)).setCell ⟨p, 4, none⟩ (.int .i64 s.t.k)).setCell ⟨p, 5, none⟩ s.v).heap[p]? = some (blkE ⟨x.c, x.n, true, s.t, s.v, x.wt⟩) := by
  have h1 := heap_setCell_same _ _ 1 _ _ (.bool true) h
  have h2 := heap_setCell_same _ _ 2 _ _ (.int .i64 s.t.e) h1
  have h3 := heap_setCell_same _ _ 3 _ _ (.int .u64 s.t.w) h2
  have h4 := heap_setCell_same _ _ 4 _ _ (.int .i64 s.t.k) h3
  exact heap_setCell_same _ _ 5 _ _ s.v h4
theorem mayE1_no {E : List En} {m : Nat} {s : Sn} (k1 : s.k = 1) (h : ∀ x, E.head? = some x → ¬ (x.c = s.c ∧ x.n = s.n ∧ x.did = false)) : mayE E m s = (false, E, m) := by
  unfold mayE
  rw [if_neg (by omega), if_pos k1]
  cases E with
  | nil => rfl
  | cons x r => simp only []; rw [if_neg (h x rfl)]
theorem mayE1_yes {x : En} {r : List En} {m : Nat} {s : Sn} (k1 : s.k = 1) (h1 : x.c = s.c) (h2 : x.n = s.n) (h3 : x.did = false) : mayE (x :: r) m s = (true, en1 x s :: r, m) := by
  unfold mayE
  rw [if_neg (by omega), if_pos k1]
  simp only []
  rw [if_pos ⟨h1, h2, h3⟩]
theorem mayE3 {E : List En} {m : Nat} {s : Sn} (k3 : s.k = 3) : mayE E m s = (decide (s.c ∉ coreL E), E, m) := by
  unfold mayE
  rw [if_neg (by omega), if_neg (by omega), if_neg (by omega), if_pos k3]
theorem mayE4 {E : List En} {m : Nat} {s : Sn} (k4 : s.k = 4 ∨ s.k = 5) : mayE E m s = (E.isEmpty, E, m) := by
  unfold mayE
  rw [if_neg (by omega), if_neg (by omega), if_neg (by omega), if_neg (by omega), if_pos k4]
theorem mayE6 {E : List En} {m : Nat} {s : Sn} (k0 : ¬ s.k = 0) (k1 : ¬ s.k = 1) (k2 : ¬ s.k = 2) (k3 : ¬ s.k = 3) (k4 : ¬ s.k = 4) (k5 : ¬ s.k = 5) : mayE E m s = (false, E, m) := by
  unfold mayE
  rw [if_neg k0, if_neg k1, if_neg k2, if_neg k3, if_neg (by omega)]
theorem mayE2_no {E : List En} {m : Nat} {s : Sn} (k2 : s.k = 2) (h : ∀ x, E.head? = some x → ¬ (x.c = s.c ∧ x.n = s.n ∧ x.did = true ∧ x.t = s.t)) : mayE E m s = (false, E, m) := by
  unfold mayE
  rw [if_neg (by omega), if_neg (by omega), if_pos k2]
  cases E with
  | nil => rfl
  | cons x r => simp only []; rw [if_neg (h x rfl)]
theorem mayE2_yes {x : En} {r : List En} {m : Nat} {s : Sn} (k2 : s.k = 2) (h1 : x.c = s.c) (h2 : x.n = s.n) (h3 : x.did = true) (h4 : x.t = s.t) : mayE (x :: r) m s = (true, r.map (more 1), max m x.wt) := by
  unfold mayE
  rw [if_neg (by omega), if_neg (by omega), if_pos k2]
  simp only []
  rw [if_pos ⟨h1, h2, h3, h4⟩]

set_option maxRecDepth 100000 in
set_option maxHeartbeats 8000000 in
theorem may_any {w0 w : World} {b lb g mb n most most' : Nat} {Q : List (En × Nat)} {E E' : List En} (s : Sn) (ok : Bool) (h : Wt w0 w b lb g mb n Q most) (hE : Q.map Prod.fst = E) (hc : 0 ≤ s.c ∧ s.c < n) (hwt : ∀ y ∈ Q, y.1.wt ≤ 1000000) (hlen : ∀ y ∈ Q, y.1.t.fg.length ≤ 1000000) (hsl : s.t.fg.length ≤ 1000000)
    (hsv : Src w0 s.v s.t.fg.length 4 (s.t.fg.flatMap encL)) (hm : mayE E most s = (ok, E', most')) :
    Calls Try.prog 28 #[.pointer (some ⟨b, 0, none⟩), snV s] w fun e w' => ∃ Q', e = .returned (.bool ok) ∧ Q'.map Prod.fst = E' ∧ Wt w0 w' b lb g mb n Q' most' := by
  have hwf := wf_core h hc
  have hsc : coreL E = coresE Q := by rw [← hE, coreL, coresE, List.map_map]; rfl
  obtain ⟨p, hp⟩ : ∃ p, byOf (blksE Q) s.c = p := ⟨_, rfl⟩
  obtain ⟨r, hr⟩ : ∃ r, decide ((coresE Q).head? = some s.c) = r := ⟨_, rfl⟩
  obtain ⟨inn, hin⟩ : ∃ inn, decide (s.c ∈ coresE Q) = inn := ⟨_, rfl⟩
  obtain ⟨W1, hW1⟩ : ∃ W, W = w.alloc (blkS s) := ⟨_, rfl⟩
  have kW : New w W1 := by rw [hW1]; exact (Kept.refl _ _).alloc _
  have h1 : Wt w0 W1 b lb g mb n Q most := h.same kW
  obtain ⟨q, hq⟩ : ∃ q, q = w.heap.size := ⟨_, rfl⟩
  have hqb : W1.heap[q]? = some (blkS s) := by rw [hW1, hq]; exact heap_alloc_new _ _
  have hcall := first_any s.c h1 hc p hp r hr
  have hlk := (h1.map.same ((Kept.refl _ W1).drew)).look_ok hwf inn (by rw [blks_cores]; exact hin)
  rw [hp] at hlk
  have c0 := cell_blk h1.blk 0
  have c1 := cell_blk h1.blk 1
  have s0 := cell_blk hqb 0
  have s1 := cell_blk hqb 1
  have s2 := cell_blk hqb 2
  have s3 := cell_blk hqb 3
  have s4 := cell_blk hqb 4
  have s5 := cell_blk hqb 5
  have s6 := cell_blk hqb 6
  have hqlo : w0.heap.size ≤ q := by rw [hq]; exact h.new.size
  have Hcall := Lib.hid hcall
  have H1 := Lib.hid h1
  have HW1 := Lib.hid hW1
  have Hq := Lib.hid hq
  have Hp := Lib.hid hp
  have Hr := Lib.hid hr
  have Hin := Lib.hid hin
  have HE := Lib.hid hE
  have Hsc := Lib.hid hsc
  have Hm := Lib.hid hm
  have Hwt := Lib.hid hwt
  have Hlen := Lib.hid hlen
  have Hsl := Lib.hid hsl
  have Hsv := Lib.hid hsv
  have Hqb := Lib.hid hqb
  have Hwf := Lib.hid hwf
  have Hqlo := Lib.hid hqlo
  clear hcall h1 hW1 hq hp hr hin hE hm hwt hlen hsl hsv h kW hqb hwf hqlo hsc
  go_enter Try.func28, Try.ntmps28
  go_wp2_with fail
  try rw [← HW1.out, ← Hq.out]
  refine Hcall.out.mono ?_
  rintro e w1 ⟨rfl, rfl⟩
  go_wp2_with fail
  go_region
  obtain ⟨W2, hW2⟩ : ∃ W, W = W1.drew := ⟨_, rfl⟩
  rw [← hW2]
  have kW2 : New W1 W2 := by rw [hW2]; exact (Kept.refl _ W1).drew
  have h2 := H1.out.same kW2
  have hqb := kW2.heap Hqb.out (fun h => h)
  have H2 := Lib.hid h2
  have Hqb2 := Lib.hid hqb
  clear c0 c1 s0 s1 s2 s3 s4 s5 s6 hlk H1 Hqb HW1 Hq
  have c0 := cell_blk h2.blk 0
  have c1 := cell_blk h2.blk 1
  have s0 := cell_blk hqb 0
  have s1 := cell_blk hqb 1
  have s2 := cell_blk hqb 2
  have s3 := cell_blk hqb 3
  have s4 := cell_blk hqb 4
  have s5 := cell_blk hqb 5
  have s6 := cell_blk hqb 6
  clear h2 hqb kW2 hW2 Hcall
  by_cases k0 : s.k = 0
  · rw [k0] at s0
    by_cases hi : s.c ∈ coresE Q
    · have hm := Hm.out
      unfold mayE at hm
      rw [if_pos k0, if_pos (by rw [Hsc.out]; exact hi)] at hm
      simp only [Prod.mk.injEq] at hm
      obtain ⟨rfl, rfl, rfl⟩ := hm
      have h3 := H2.out.same ((Kept.refl _ W2).drew)
      have hcall := lock_enter lb g n (coresE Q) s.c W2.drew h3.lock
      rw [show enterE n (coresE Q) s.c = (160, coresE Q) by unfold enterE; rw [if_neg (fun z => z hc), if_pos hi]] at hcall
      have Hcall2 := Lib.hid hcall
      clear hcall
      go_wp2_with fail
      go_region_with (go_at_call 32; refine Hcall2.out.mono ?_; rintro e w2 ⟨rfl, l2, k2⟩)
      all_goals
        go_wp2_with fail
        go_ret
        exact ⟨Q, rfl, HE.out, h3.locked k2 l2⟩
    · have hm := Hm.out
      unfold mayE at hm
      rw [if_pos k0, if_neg (by rw [Hsc.out]; exact hi)] at hm
      simp only [Prod.mk.injEq] at hm
      obtain ⟨rfl, rfl, rfl⟩ := hm
      have h3 := H2.out.same ((Kept.refl _ W2).drew)
      have hqb3 := ((Kept.refl (fun _ => False) W2).drew).heap Hqb2.out (fun h => h)
      have hcall := lock_enter lb g n (coresE Q) s.c W2.drew h3.lock
      rw [show enterE n (coresE Q) s.c = (0, coresE Q ++ [s.c]) by unfold enterE; rw [if_neg (fun z => z hc), if_neg hi]] at hcall
      have Hcall2 := Lib.hid hcall
      have H3 := Lib.hid h3
      have Hqb3 := Lib.hid hqb3
      clear hcall h3 hqb3
      go_wp2_with fail
      go_region_with (go_at_call 32; refine Hcall2.out.mono ?_; rintro e w2 ⟨rfl, l2, k2⟩)
      all_goals
        have H3' := H3.out.lk k2
        obtain ⟨n2, b2, m2, e2⟩ := H3'
        have q2 := k2.heap Hqb3.out (fun z => not_lt Hqb3.out (by decide) (by decide) (by decide) z.2)
        clear c0 c1 s0 s1 s2 s3 s4 s5 s6
        have c1 := cell_blk b2 1
        have s1 := cell_blk q2 1
        have s2 := cell_blk q2 2
        have kA : New w2 ((w2.alloc (.cells #[.int .i64 s.n, .bool false, .int .i64 0, .int .u64 0, .int .i64 0, .slice none 0 0, .int .i64 0] 71)).drew) := ((Kept.refl _ w2).alloc _).drew
        have kB : New w2 (w2.alloc (.cells #[.int .i64 s.n, .bool false, .int .i64 0, .int .u64 0, .int .i64 0, .slice none 0 0, .int .i64 0] 71)) := (Kept.refl _ w2).alloc _
        have c1' := cell_blk (kB.heap b2 (fun h => h)) 1
        have s1' := cell_blk (kB.heap q2 (fun h => h)) 1
        have s2' := cell_blk (kB.heap q2 (fun h => h)) 2
        have hput := (m2.same kA).put w2.heap.size Hwf.out (by rw [blks_cores]; exact hi) (by have := H3.out.len; simp only [List.length_map]; omega)
        obtain ⟨w5, hrun, hM5, hk5⟩ := hput
        have L2 := Lib.hid l2
        have N2 := Lib.hid n2
        have B2 := Lib.hid b2
        have E2 := Lib.hid e2
        have M5 := Lib.hid hM5
        have K5 := Lib.hid hk5
        have M2 := Lib.hid m2
        have KA := Lib.hid kA
        have hF : Wt w0 w5 b lb g mb n (Q ++ [(en0 s, w2.heap.size)]) most := by
          obtain ⟨es, ck, hmb⟩ := m2.blk
          have hbm : ¬ b = mb := fun e => by rw [← e, b2] at hmb; cases hmb
          have hml := lt_of_heap hmb
          have hqm : ∀ x ∈ Q, ¬ x.2 = mb := fun x hx e => by have h9 := (e2 x hx).2; rw [e, hmb] at h9; cases h9
          have hpn : ((w2.alloc (.cells #[.int .i64 s.n, .bool false, .int .i64 0, .int .u64 0, .int .i64 0, .slice none 0 0, .int .i64 0] 71)).drew).heap[w2.heap.size]? = some (blkE (en0 s)) := heap_alloc_new w2 _
          have hn2 := n2.size
          refine Wt.enter (Kept.new (n2.trans kA) hk5 (fun i e => by subst e; exact H3.out.lo.2)) (hk5.heap (kA.heap b2 (fun h => h)) hbm) H3.out.lo ((l2.mono (fun k hk => ?_)).same kA |>.kept4 hk5 (fun i e c T fz hh => ?_)) hM5 (fun x hx => ⟨(e2 x hx).1, hk5.heap (kA.heap (e2 x hx).2 (fun h => h)) (hqm x hx)⟩) hn2 (hk5.heap hpn (fun e => by omega)) H3.out.nodup (fun x hx e => ?_) H3.out.src
          · have : w0.heap.size ≤ W2.drew.heap.size := H3.out.new.size
            omega
          · subst e
            rw [kA.heap hmb (fun h => h)] at hh
            cases hh
          · have := lt_of_heap (e2 x hx).2
            omega
        have HF := Lib.hid hF
        clear l2 n2 b2 e2 hM5 hk5 q2 m2 kA k2 kB hF
        go_wp2_with fail
        go_region
        all_goals
          clear c1 s1 s2 c1' s1' s2' hrun
          go_wp2_with fail
          go_ret
          exact ⟨_, rfl, by rw [List.map_append, HE.out]; rfl, HF.out⟩
  · have kb0 : (s.k == 0) = false := by simpa using k0
    by_cases k1 : s.k = 1
    · rw [k1] at s0
      cases r with
      | false =>
        have hno : ∀ x, E.head? = some x → ¬ x.c = s.c := by
          intro x hx e
          have hr := Hr.out
          rw [← HE.out] at hx
          cases Q with
          | nil => simp at hx
          | cons y Q1 =>
            simp at hx hr
            subst hx
            exact hr e
        have hm := Hm.out
        rw [mayE1_no k1 (fun x hx z => hno x hx z.1)] at hm
        simp only [Prod.mk.injEq] at hm
        obtain ⟨rfl, rfl, rfl⟩ := hm
        go_wp2_with fail
        go_quiet (fail)
        go_wp2_with fail
        go_ret
        exact ⟨_, rfl, HE.out, H2.out.same (by first | exact (Kept.refl _ _).drew | exact (Kept.refl _ _).drewN _ | exact (Kept.refl _ _))⟩
      | true =>
        obtain ⟨x, px, Q1, rfl, hxc⟩ : ∃ x px Q1, Q = (x, px) :: Q1 ∧ x.c = s.c := by
          have hr := Hr.out
          cases Q with
          | nil => simp at hr
          | cons y Q1 => exact ⟨y.1, y.2, Q1, rfl, by simpa using hr⟩
        obtain rfl : p = some ⟨px, 0, none⟩ := by rw [← Hp.out, blksE, List.map_cons, byOf, if_pos hxc]
        obtain ⟨E1, rfl⟩ : ∃ E1, E = x :: E1 := ⟨_, HE.out.symm.trans (by rw [List.map_cons])⟩
        have hpx := (H2.out.ent (x, px) (by simp)).2
        have hplo := (H2.out.ent (x, px) (by simp)).1
        have p0 := cell_blk hpx 0
        have p1 := cell_blk hpx 1
        have Hpx := Lib.hid hpx
        have Hplo := Lib.hid hplo
        by_cases hn : x.n = s.n
        · by_cases hd : x.did = true
          · rw [hd] at p1
            have hne : (s.n != s.n) = false := by simp
            rw [hn] at p0
            have hm := Hm.out
            rw [mayE1_no k1 (fun y hy z => by simp at hy; subst hy; rw [hd] at z; exact absurd z.2.2 (by simp))] at hm
            simp only [Prod.mk.injEq] at hm
            obtain ⟨rfl, rfl, rfl⟩ := hm
            go_wp2_with fail
            go_quiet (fail)
            go_wp2_with fail
            go_ret
            exact ⟨_, rfl, HE.out, H2.out.same (by first | exact (Kept.refl _ _).drew | exact (Kept.refl _ _).drewN _ | exact (Kept.refl _ _))⟩
          · have hd' : x.did = false := by simpa using hd
            rw [hd'] at p1
            rw [hn] at p0
            have hm := Hm.out
            rw [mayE1_yes k1 hxc hn hd'] at hm
            simp only [Prod.mk.injEq] at hm
            obtain ⟨rfl, rfl, rfl⟩ := hm
            have p2 := cell_blk hpx 2
            have p3 := cell_blk hpx 3
            have p4 := cell_blk hpx 4
            have p5 := cell_blk hpx 5
            have f1 := free_blk hpx 1
            have f2 := free_blk hpx 2
            have f3 := free_blk hpx 3
            have f4 := free_blk hpx 4
            have f5 := free_blk hpx 5
            clear hpx
            obtain ⟨ao, cc, hv⟩ : ∃ ao cc, s.v = .slice ao s.t.fg.length cc := by obtain ⟨ao, cc, hv, _⟩ := Hsv.out; exact ⟨ao, cc, hv⟩
            rw [hv] at s6
            have Hv := Lib.hid hv
            clear hv
            go_wp2_with fail
            go_quiet (fail)
            go_wp2_with fail
            go_region
            all_goals
              rw [← Hv.out]
              go_wp2_with fail
              go_ret
              refine ⟨(en1 x s, px) :: Q1, rfl, by have := HE.out; simp at this; simp [this], ?_⟩
              exact Wt.did (H2.out.same (by first | exact (Kept.refl _ _).drew | exact (Kept.refl _ _).drewN _ | exact (Kept.refl _ _))) (((((Kept.refl (fun k => k = px) _).setCell (p := ⟨px, 1, none⟩) (.inr rfl) _).setCell (p := ⟨px, 2, none⟩) (.inr rfl) _).setCell (p := ⟨px, 3, none⟩) (.inr rfl) _).setCell (p := ⟨px, 4, none⟩) (.inr rfl) _ |>.setCell (p := ⟨px, 5, none⟩) (.inr rfl) _) (told_heap Hpx.out x s) Hsv.out
        · have hne : (x.n != s.n) = true := by simpa using hn
          have hm := Hm.out
          rw [mayE1_no k1 (fun y hy z => by simp at hy; subst hy; exact hn z.2.1)] at hm
          simp only [Prod.mk.injEq] at hm
          obtain ⟨rfl, rfl, rfl⟩ := hm
          go_wp2_with fail
          go_quiet (fail)
          go_wp2_with fail
          go_ret
          exact ⟨_, rfl, HE.out, H2.out.same (by first | exact (Kept.refl _ _).drew | exact (Kept.refl _ _).drewN _ | exact (Kept.refl _ _))⟩
    · have kb1 : (s.k == 1) = false := by simpa using k1
      by_cases k2 : s.k = 2
      · rw [k2] at s0
        cases r with
        | false =>
          have hno : ∀ x, E.head? = some x → ¬ x.c = s.c := by
            intro x hx e
            have hr := Hr.out
            rw [← HE.out] at hx
            cases Q with
            | nil => simp at hx
            | cons y Q1 =>
              simp at hx hr
              subst hx
              exact hr e
          have hm := Hm.out
          rw [mayE2_no k2 (fun x hx z => hno x hx z.1)] at hm
          simp only [Prod.mk.injEq] at hm
          obtain ⟨rfl, rfl, rfl⟩ := hm
          go_wp2_with fail
          go_quiet (fail)
          go_wp2_with fail
          go_ret
          exact ⟨_, rfl, HE.out, H2.out.same (by first | exact (Kept.refl _ _).drew | exact (Kept.refl _ _).drewN _ | exact (Kept.refl _ _))⟩
        | true =>
          obtain ⟨x, px, Q1, rfl, hxc⟩ : ∃ x px Q1, Q = (x, px) :: Q1 ∧ x.c = s.c := by
            have hr := Hr.out
            cases Q with
            | nil => simp at hr
            | cons y Q1 => exact ⟨y.1, y.2, Q1, rfl, by simpa using hr⟩
          obtain rfl : p = some ⟨px, 0, none⟩ := by rw [← Hp.out, blksE, List.map_cons, byOf, if_pos hxc]
          obtain ⟨E1, rfl⟩ : ∃ E1, E = x :: E1 := ⟨_, HE.out.symm.trans (by rw [List.map_cons])⟩
          have hpx := (H2.out.ent (x, px) (by simp)).2
          have hplo := (H2.out.ent (x, px) (by simp)).1
          have p0 := cell_blk hpx 0
          have p1 := cell_blk hpx 1
          have Hpx := Lib.hid hpx
          have Hplo := Lib.hid hplo
          by_cases hn : x.n = s.n
          · by_cases hd : x.did = true
            · rw [hd] at p1
              have hne : (s.n != s.n) = false := by simp
              rw [hn] at p0
              have p2 := cell_blk hpx 2
              have p3 := cell_blk hpx 3
              have p4 := cell_blk hpx 4
              have p5 := cell_blk hpx 5
              obtain ⟨r2, hr2⟩ : ∃ r2, decide (x.t = s.t) = r2 := ⟨_, rfl⟩
              have hcall : ∀ W, New W2 W → Calls Try.prog 33 #[toldV x.t x.v, toldV s.t s.v] W fun e w' => e = .returned (.bool r2) ∧ New W w' := fun W k =>
                same_any x.v s.v x.t s.t W ((H2.out.src (x, px) (by simp)).same (H2.out.new.trans k)) (Hsv.out.same (H2.out.new.trans k)) (Hlen.out (x, px) (by simp)) Hsl.out r2 hr2
              have Hcall2 := Lib.hid hcall
              have Hr2 := Lib.hid hr2
              have hwt1 : ∀ y ∈ Q1, y.1.wt ≤ 1000000 := fun y hy => Hwt.out y (List.mem_cons_of_mem _ hy)
              have Hwt1 := Lib.hid hwt1
              clear hpx hcall hr2 hwt1
              go_wp2_with fail
              go_still_tail 25, (by kernel_rfl)
              change wpList _ _ _ _ _ W2.drew
              go_wp2_with fail
              refine (Hcall2.out _ (Kept.refl _ W2).drew).mono ?_
              rintro e w3 ⟨rfl, k3⟩
              have h3 := H2.out.same (((Kept.refl _ W2).drew).trans k3)
              cases r2 with
              | false =>
                have hm := Hm.out
                rw [mayE2_no k2 (fun y hy z => by simp at hy; subst hy; exact (of_decide_eq_false Hr2.out) z.2.2.2)] at hm
                simp only [Prod.mk.injEq] at hm
                obtain ⟨rfl, rfl, rfl⟩ := hm
                have H3 := Lib.hid h3
                clear h3 k3
                go_wp2_with fail
                go_ret
                exact ⟨_, rfl, HE.out, H3.out⟩
              | true =>
                have hm := Hm.out
                rw [mayE2_yes k2 hxc hn hd (of_decide_eq_true Hr2.out)] at hm
                simp only [Prod.mk.injEq] at hm
                obtain ⟨rfl, rfl, hmx⟩ := hm
                have hcall := left_any h3 Hwt1.out most' hmx
                rw [hxc] at hcall
                have Hcall3 := Lib.hid hcall
                have s1' := cell_blk ((((Kept.refl (fun _ => False) W2).drew).trans k3).heap Hqb2.out (fun h => h)) 1
                clear hcall h3 k3 hmx Hcall2 c0 c1 s0 s1 s2 s3 s4 s5 s6 p0 p1 p2 p3 p4 p5 hxc hn hd
                go_wp2_with fail
                refine Hcall3.out.mono ?_
                rintro e w4 ⟨rfl, h4⟩
                have H4 := Lib.hid h4
                clear h4 s1' Hcall3
                go_wp2_with fail
                go_ret
                exact ⟨_, rfl, by have := HE.out; simp at this; simp [← this, List.map_map, Function.comp_def], H4.out⟩
            · have hd' : x.did = false := by simpa using hd
              rw [hd'] at p1
              rw [hn] at p0
              have hne : (s.n != s.n) = false := by simp
              have hm := Hm.out
              rw [mayE2_no k2 (fun y hy z => by simp at hy; subst hy; exact hd z.2.2.1)] at hm
              simp only [Prod.mk.injEq] at hm
              obtain ⟨rfl, rfl, rfl⟩ := hm
              go_wp2_with fail
              go_quiet (fail)
              go_wp2_with fail
              go_ret
              exact ⟨_, rfl, HE.out, H2.out.same (by first | exact (Kept.refl _ _).drew | exact (Kept.refl _ _).drewN _ | exact (Kept.refl _ _))⟩
          · have hne : (x.n != s.n) = true := by simpa using hn
            have hm := Hm.out
            rw [mayE2_no k2 (fun y hy z => by simp at hy; subst hy; exact hn z.2.1)] at hm
            simp only [Prod.mk.injEq] at hm
            obtain ⟨rfl, rfl, rfl⟩ := hm
            go_wp2_with fail
            go_quiet (fail)
            go_wp2_with fail
            go_ret
            exact ⟨_, rfl, HE.out, H2.out.same (by first | exact (Kept.refl _ _).drew | exact (Kept.refl _ _).drewN _ | exact (Kept.refl _ _))⟩
      · have kb2 : (s.k == 2) = false := by simpa using k2
        by_cases k3 : s.k = 3
        · rw [k3] at s0
          have hm := Hm.out
          rw [mayE3 k3, Hsc.out] at hm
          simp only [Prod.mk.injEq] at hm
          obtain ⟨h1, rfl, rfl⟩ := hm
          have hin := Hin.out
          cases inn with
          | false =>
            have : s.c ∉ coresE Q := of_decide_eq_false hin
            obtain rfl : ok = true := by rw [← h1]; exact decide_eq_true this
            clear h1 hin this
            go_wp2_with fail
            go_ret
            exact ⟨_, rfl, HE.out, H2.out⟩
          | true =>
            have : s.c ∈ coresE Q := of_decide_eq_true hin
            obtain rfl : ok = false := by rw [← h1]; exact decide_eq_false (fun z => z this)
            clear h1 hin this
            go_wp2_with fail
            go_ret
            exact ⟨_, rfl, HE.out, H2.out⟩
        · have kb3 : (s.k == 3) = false := by simpa using k3
          by_cases k4 : s.k = 4
          · rw [k4] at s0
            have hm := Hm.out
            rw [mayE4 (by omega)] at hm
            simp only [Prod.mk.injEq] at hm
            obtain ⟨h1, rfl, rfl⟩ := hm
            have hl := H2.out.map.len 3
            have hq : (blksE Q).length = Q.length := by simp
            rw [hq] at hl
            obtain ⟨len, hlen⟩ : ∃ len, len = Q.length := ⟨_, rfl⟩
            rw [← hlen] at hl
            have hE := HE.out
            by_cases h0 : len = 0
            · subst h0
              have : E = [] := by rw [← hE, List.eq_nil_of_length_eq_zero hlen.symm]; rfl
              obtain rfl : ok = true := by rw [← h1]; rw [this]; rfl
              clear h1 this hE hlen hq
              go_wp2_with fail
              go_ret
              exact ⟨_, rfl, HE.out, H2.out⟩
            · have : E ≠ [] := by rw [← hE]; intro z; rw [List.map_eq_nil_iff] at z; rw [z] at hlen; exact h0 hlen
              obtain rfl : ok = false := by rw [← h1]; simpa using this
              have hz : ((len : Int) == 0) = false := by simpa using h0
              clear h1 this hE hlen hq
              go_wp2_with fail
              go_ret
              exact ⟨_, rfl, HE.out, H2.out⟩
          · have kb4 : (s.k == 4) = false := by simpa using k4
            by_cases k5 : s.k = 5
            · rw [k5] at s0
              have hm := Hm.out
              rw [mayE4 (by omega)] at hm
              simp only [Prod.mk.injEq] at hm
              obtain ⟨h1, rfl, rfl⟩ := hm
              have hl := H2.out.map.len 3
              have hq : (blksE Q).length = Q.length := by simp
              rw [hq] at hl
              obtain ⟨len, hlen⟩ : ∃ len, len = Q.length := ⟨_, rfl⟩
              rw [← hlen] at hl
              have hE := HE.out
              by_cases h0 : len = 0
              · subst h0
                have : E = [] := by rw [← hE, List.eq_nil_of_length_eq_zero hlen.symm]; rfl
                obtain rfl : ok = true := by rw [← h1]; rw [this]; rfl
                clear h1 this hE hlen hq
                go_wp2_with fail
                go_ret
                exact ⟨_, rfl, HE.out, H2.out⟩
              · have : E ≠ [] := by rw [← hE]; intro z; rw [List.map_eq_nil_iff] at z; rw [z] at hlen; exact h0 hlen
                obtain rfl : ok = false := by rw [← h1]; simpa using this
                have hz : ((len : Int) == 0) = false := by simpa using h0
                clear h1 this hE hlen hq
                go_wp2_with fail
                go_ret
                exact ⟨_, rfl, HE.out, H2.out⟩
            · have kb5 : (s.k == 5) = false := by simpa using k5
              have hm := Hm.out
              rw [mayE6 k0 k1 k2 k3 k4 k5] at hm
              simp only [Prod.mk.injEq] at hm
              obtain ⟨rfl, rfl, rfl⟩ := hm
              go_wp2_with fail
              go_ret
              exact ⟨_, rfl, HE.out, H2.out⟩
end Go.Proofs.Ytjimjkfnpklhiaa

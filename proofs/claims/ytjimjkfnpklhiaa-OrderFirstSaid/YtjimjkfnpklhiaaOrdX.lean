/- Package order: one that leaves. -/
import Derived.Test.YtjimjkfnpklhiaaOrdW
set_option linter.all false
namespace Go.Proofs.Ytjimjkfnpklhiaa
open Go.RowKit Go.Maps

theorem ranges_kept {F : Nat → Prop} {w w' : World} {b r n cnt : Nat} {D : DataW Unit} {left : Lit → Bool} (h : w.ranges Try.prog 3 ptrR b r n D left cnt) (k : Kept F w w') (h1 : ¬ F b) (h2 : ¬ F r) : w'.ranges Try.prog 3 ptrR b r n D left cnt := by
  obtain ⟨es, clock, since, seen, c0, hb, F, hs, hD, hr, rest⟩ := h
  exact ⟨es, clock, since, seen, c0, k.heap hb h1, F, hs, hD, k.heap hr h2, rest⟩
theorem byOf_in {G : List (Int × Nat)} {c : Int} {p : Nat} (h : byOf G c = some ⟨p, 0, none⟩) : (c, p) ∈ G := by
  induction G with
  | nil => cases h
  | cons a l ih =>
    obtain ⟨c', p'⟩ := a
    rw [byOf] at h
    by_cases e : c' = c
    · rw [if_pos e] at h; injection h with h; injection h with h; subst e h; simp
    · rw [if_neg e] at h; exact List.mem_cons_of_mem _ (ih h)
theorem Holds.next {D : DataW Unit} {G : List (Int × Nat)} (h : Holds D G) {x : Int} {t : Option Addr} {y : DataW Unit × List MemPlace} (hx : x ∈ G.map Prod.fst) (hat : ∀ zd, D.atKey (ky x) zd = y.1) (hv : ptrR (.pointer t) = some y) : ∃ p, t = some ⟨p, 0, none⟩ ∧ (x, p) ∈ G := by
  rcases byOf_cases G x with ⟨_, e2⟩ | ⟨p, e1, e2⟩
  · exact (e2 hx).elim
  · have h1 := hat (.lit (.int .i64 0))
    rw [h.at_ x p e1] at h1
    rcases ptrR_inv hv with ⟨_, e⟩ | ⟨q, e0, e⟩
    · rw [e] at h1; injection h1 with h1; injection h1 with _ h1; omega
    · rw [e] at h1
      injection e0 with e0
      injection h1 with h1; injection h1 with _ h1
      exact ⟨p, by rw [e0, show q = p by omega], byOf_in e1⟩
theorem ptr_shape (v : Value) (y : DataW Unit × List MemPlace) (h : ptrR v = some y) : ∃ t, v = .pointer t := by
  rcases ptrR_inv h with ⟨e, _⟩ | ⟨q, e, _⟩
  · exact ⟨_, e⟩
  · exact ⟨_, e⟩
theorem int_shape (key : Value) (kl : Lit) (h : keyOf Try.prog 3 key = some kl) : ∃ x, key = .int .i64 x := by
  obtain ⟨x, e, _⟩ := keyOf_int_inv Try.underlying3 h
  exact ⟨x, e⟩
theorem inj_nodup {α β : Type} {f : α → β} : ∀ {l : List α}, (l.map f).Nodup → ∀ {x y : α}, x ∈ l → y ∈ l → f x = f y → x = y
  | [], _, _, _, hx, _, _ => by cases hx
  | a :: l, h, x, y, hx, hy, e => by
    simp only [List.map_cons, List.nodup_cons] at h
    rcases List.mem_cons.1 hx with h1 | h1 <;> rcases List.mem_cons.1 hy with h2 | h2
    · rw [h1, h2]
    · subst h1; exact (h.1 (e ▸ List.mem_map.2 ⟨y, h2, rfl⟩)).elim
    · subst h2; exact (h.1 (e ▸ List.mem_map.2 ⟨x, h1, rfl⟩)).elim
    · exact inj_nodup h.2 h1 h2 e
/-- One that waits on. -/
abbrev more (d : Nat) (x : En) : En := { x with wt := x.wt + d }
abbrev moreQ (Q : List (En × Nat)) : List (En × Nat) := Q.map fun y => (more 1 y.1, y.2)

set_option maxRecDepth 100000 in
set_option maxHeartbeats 4000000 in
theorem left_any {w0 w : World} {b lb g mb n most : Nat} {x : En} {p : Nat} {Q : List (En × Nat)} (h : Wt w0 w b lb g mb n ((x, p) :: Q) most) (hwt : ∀ y ∈ Q, y.1.wt ≤ 1000000) (m : Nat) (hm : max most x.wt = m) :
    Calls Try.prog 34 #[.pointer (some ⟨b, 0, none⟩), .int .i64 x.c, .pointer (some ⟨p, 0, none⟩)] w fun e w' => e = .returned (.tuple #[]) ∧ Wt w0 w' b lb g mb n (moreQ Q) m := by
  have hc : 0 ≤ x.c ∧ x.c < n := h.core (by simp)
  have hwf := wf_core h hc
  have hpx := (h.ent (x, p) (by simp)).2
  have hmax : (if most < x.wt then (x.wt : Int) else (most : Int)) = (m : Int) := by split <;> omega
  have c0 := cell_blk h.blk 0
  have c1 := cell_blk h.blk 1
  have c2 := cell_blk h.blk 2
  have f2 := free_blk h.blk 2
  have p6 := cell_blk hpx 6
  have H := Lib.hid h
  have Hwt := Lib.hid hwt
  have Hm := Lib.hid hmax
  clear hpx hmax h hwt hm
  go_enter Try.func34, Try.ntmps34
  go_wp2_with fail
  go_region
  rw [Hm.out]
  obtain ⟨W1, hW1⟩ : ∃ W, W = (w.setCell ⟨b, 2, none⟩ (.int .i64 m)).drew := ⟨_, rfl⟩
  rw [← hW1]
  have h := H.out
  have k1 : Kept (fun k => k = b) w W1 := by rw [hW1]; exact ((Kept.refl (fun k => k = b) w).setCell (p := ⟨b, 2, none⟩) (.inr rfl) _).drew
  have b1 : W1.heap[b]? = some (.cells #[.pointer (some ⟨lb, 0, none⟩), .map (some mb), .int .i64 m] 50 (0, 0)) := by rw [hW1]; exact heap_setCell_same w b 2 _ _ _ h.blk
  have l1 : Lock (fun k => w0.heap.size ≤ k) W1 lb g n (coresE ((x, p) :: Q)) := h.lock.kept4 k1 (fun i e c T fz hh => by subst e; rw [h.blk] at hh; injection hh with hh; injection hh with _ hh; subst hh; decide)
  have hbm : ¬ mb = b := fun e => by obtain ⟨es, ck, hh⟩ := h.map.blk; rw [e, h.blk] at hh; cases hh
  have m1 : Mp W1 mb (blksE ((x, p) :: Q)) := h.map.kept k1 hbm
  have hpb : ∀ y ∈ (x, p) :: Q, ¬ y.2 = b := fun y hy e => by have hh := (h.ent y hy).2; rw [e, h.blk] at hh; injection hh with hh; injection hh with _ hh; cases hh
  have e1 : ∀ y ∈ (x, p) :: Q, W1.heap[y.2]? = some (blkE y.1) := fun y hy => k1.heap (h.ent y hy).2 (hpb y hy)
  have hcall := lock_leave lb g n (coresE ((x, p) :: Q)) x.c W1 l1
  rw [show leaveE n (coresE ((x, p) :: Q)) x.c = (0, coresE Q) by unfold leaveE; rw [if_neg (fun z => z hc)]; simp] at hcall
  have d0 := cell_blk b1 0
  have Hcall := Lib.hid hcall
  have K1 := Lib.hid k1
  have B1 := Lib.hid b1
  have M1 := Lib.hid m1
  have E1 := Lib.hid e1
  have Hpb := Lib.hid hpb
  clear hcall k1 b1 l1 m1 e1 hW1 h c0 c1 c2 f2 p6 Hm hpb
  go_wp2_with fail
  refine Hcall.out.mono ?_
  rintro e w2 ⟨rfl, l2, k2⟩
  have hlt : ∀ k, (w0.heap.size ≤ k ∧ Lt W1 k) → ∃ c T, W1.heap[k]? = some (.cells c T (0, 0)) ∧ (T = 62 ∨ T = 59 ∨ T = 64) := fun k hk => hk.2
  have hno : ∀ k o, W1.heap[k]? = some o → (∀ c T, o = .cells c T (0, 0) → T ≠ 62 ∧ T ≠ 59 ∧ T ≠ 64) → ¬ (w0.heap.size ≤ k ∧ Lt W1 k) := fun k o ho hT hk => by
    obtain ⟨c, T, e, ht⟩ := hk.2
    rw [ho] at e
    injection e with e
    have := hT c T e
    rcases ht with e' | e' | e'
    · exact this.1 e'
    · exact this.2.1 e'
    · exact this.2.2 e'
  have b2 := k2.heap B1.out (hno _ _ B1.out (fun c T e => by injection e with _ e; subst e; decide))
  have m2 : Mp w2 mb (blksE ((x, p) :: Q)) := M1.out.kept k2 (by obtain ⟨es, ck, hh⟩ := M1.out.blk; exact hno _ _ hh (fun c T e => by cases e))
  have e2 : ∀ y ∈ (x, p) :: Q, w2.heap[y.2]? = some (blkE y.1) := fun y hy => k2.heap (E1.out y hy) (hno _ _ (E1.out y hy) (fun c T e => by injection e with _ e; subst e; decide))
  have K2 : Hid (New w0 w2) := Kept.new (Kept.new H.out.new K1.out (fun i e => by subst e; exact H.out.lo.1)) k2 (fun i hi => hi.1)
  have hD : ∃ D, w2.ownsMap Try.prog 3 ptrR mb (blksE ((x, p) :: Q)).length D ∧ Holds D ((x.c, p) :: blksE Q) := m2
  obtain ⟨D, hown, hD⟩ := hD
  have hD3 := hD.del (hown.tidy keys3)
  have hnd : (Q.map Prod.snd).Nodup := by have := H.out.nodup; simp only [List.map_cons, List.nodup_cons] at this; exact this.2
  have hmq : ∀ y ∈ Q, ¬ y.2 = mb ∧ ¬ y.2 = b := fun y hy => ⟨fun e => (by obtain ⟨es, ck, hh⟩ := M1.out.blk; have h9 := E1.out y (List.mem_cons_of_mem _ hy); rw [e, hh] at h9; cases h9), Hpb.out y (List.mem_cons_of_mem _ hy)⟩
  have d1 := cell_blk b2 1
  have B2 := Lib.hid b2
  have L2 := Lib.hid l2
  have E2 := Lib.hid (fun y hy => e2 y (List.mem_cons_of_mem _ hy) : ∀ y ∈ Q, w2.heap[y.2]? = some (blkE y.1))
  have HD3 := Lib.hid hD3
  have Hnd := Lib.hid hnd
  have Hmq := Lib.hid hmq
  obtain ⟨nn, hnn⟩ : ∃ nn, nn = (blksE ((x, p) :: Q)).length := ⟨_, rfl⟩
  rw [← hnn] at hown
  clear hnn
  have Own := Lib.hid hown
  obtain ⟨D3, hD3'⟩ : ∃ D3, D3 = D.del (ky x.c) := ⟨_, rfl⟩
  rw [← hD3'] at HD3
  have HD3' := Lib.hid hD3'
  clear hD3 hnd hmq b2 l2 e2 m2 k2 hlt hno hD hown hD3' d0 M1 E1 Hpb Hcall K1 B1
  go_wp2_with (first | (at_delete; refine wpList_delete_own _ rfl _ _ 48 3 rfl 66 keys3 Try.underlying48 ptrR mb nn D rfl Own.out _ _ rfl (key3 hwf) ?_; intro w3 hown3 hturn3; rw [← HD3'.out] at hown3; (have hk3 := Kept.of_turned hturn3); (have d3 := cell_blk (hk3.heap B2.out (fun e => hbm e.symm)) 1); (have Own3 := Lib.hid hown3); (have Hk3 := Lib.hid hk3); clear hown3 hturn3 d1 hk3) | (at_range; refine wpList_range_own _ rfl _ 48 rfl 3 66 keys3 Try.underlying48 ptrR mb nn D3 rfl Own3.out ?_; intro w4 hrg4 hg4 hs4; (have Hrg4 := Lib.hid hrg4); (have Hg4 := Lib.hid hg4); (have Hs4 := Lib.hid hs4); clear hrg4 hg4 hs4 d3))
  go_frame
  obtain ⟨ri, hri⟩ : ∃ ri, ri = w3.heap.size := ⟨_, rfl⟩
  have E3 : Hid (∀ y ∈ Q, w3.heap[y.2]? = some (blkE y.1)) := fun y hy => Hk3.out.heap (E2.out y hy) (Hmq.out y hy).1
  have Hlt : Hid (∀ y ∈ Q, y.2 < ri) := fun y hy => by rw [hri]; exact lt_of_heap (E3.out y hy)
  have hk4 : New w3 w4 := (Kept.refl _ w3).grown Hg4.out (fun k hk => by cases hk)
  have hs4 : w4.heap.size = ri + 1 := by rw [hri]; exact Hs4.out
  have E4 : Hid (∀ y ∈ Q, w4.heap[y.2]? = some (blkE y.1)) := fun y hy => hk4.heap (E3.out y hy) (fun h => h)
  have Hk4 := Lib.hid hk4
  have hrg4 := Hrg4.out
  rw [← hri] at hrg4 ⊢
  have Hrg := Lib.hid hrg4
  have Hri := Lib.hid hri
  have Hs4' := Lib.hid hs4
  clear hk4 hs4 hrg4 hri Hrg4 Hs4 Hg4
  go_loopw [7] (fun _ wr => ∃ left cnt, wr.ranges Try.prog 3 ptrR mb ri nn D3 left cnt ∧ (∀ c, left (ky c) = true → c ∈ coresE Q) ∧ Hid (∀ y ∈ Q, wr.heap[y.2]? = some (blkE (more (if left (ky y.1.c) then 0 else 1) y.1))) ∧ Kept (fun k => k = ri ∨ ∃ y ∈ Q, y.2 = k) w4 wr) (fun _ wr => wr.rangeLeft mb ri)
  case atStart =>
    refine ⟨_, _, Hrg.out, fun c hc => ?_, fun y hy => ?_, Kept.refl _ _⟩
    · rw [HD3.out.has, blks_cores] at hc; simpa using hc
    · rw [HD3.out.has, blks_cores, decide_eq_true (List.mem_map.2 ⟨y, hy, rfl⟩)]; exact E4.out y hy
  case round =>
    obtain ⟨left, cnt, hrg, hleft, hent, hkr⟩ := hrel
    have Hkr := Lib.hid hkr
    have Hleft := Lib.hid hleft
    have Hrg0 := Lib.hid hrg
    clear hkr hleft hrg
    go_wp2_with (at_next; refine wpList_next_ranges _ rfl _ rfl 3 keys3 ptrR (Value.int .i64) Value.pointer int_shape ptr_shape mb ri nn D3 left cnt rfl Hrg0.out ?_ ?_)
    · intro hc0 hl0
      have Hl0 := Lib.hid hl0
      clear hl0 hc0
      go_wp2_with fail
      go_end0
      refine ⟨rfl, ?_⟩
      have hri3 : w0.heap.size ≤ ri := by rw [Hri.out]; exact Nat.le_trans K2.out.size Hk3.out.size
      have n4 : New w0 w4 := (Kept.new K2.out Hk3.out (fun i e => by subst e; exact H.out.lo.2)).trans Hk4.out
      have hqlo : ∀ y ∈ Q, w0.heap.size ≤ y.2 := fun y hy => (H.out.ent y (List.mem_cons_of_mem _ hy)).1
      have hb3 := Hk3.out.heap B2.out (fun e => hbm e.symm)
      have hbri : ¬ b = ri := by have := lt_of_heap hb3; rw [Hri.out]; omega
      have hit : ∃ o, w4.heap[ri]? = some o ∧ ∀ c T fz, o ≠ .cells c T fz := by
        obtain ⟨es, clock, since, seen, c0, _, _, _, _, hr, _⟩ := Hrg.out
        exact ⟨_, hr, fun c T fz e => by cases e⟩
      have l3 := L2.out.kept4 Hk3.out (fun i e c T fz hh => by
        subst e
        obtain ⟨es, ck, hm, _⟩ := Own.out
        rw [hm] at hh; cases hh)
      have l5 := (l3.same Hk4.out).kept4 Hkr.out (fun i e c T fz hh => by
        rcases e with e | ⟨y, hy, e⟩
        · subst e
          obtain ⟨o, ho, hne⟩ := hit
          rw [ho] at hh; injection hh with hh; exact (hne c T fz hh).elim
        · subst e
          rw [E4.out y hy] at hh; injection hh with hh; injection hh with _ hh; subst hh; decide)
      have hent' : ∀ y ∈ Q, wr.heap[y.2]? = some (blkE (more 1 y.1)) := fun y hy => by
        have h9 := hent.out y hy
        rw [Hl0.out] at h9
        exact h9
      refine ⟨Kept.new n4 Hkr.out (fun i e => ?_), Hkr.out.heap (Hk4.out.heap hb3 (fun h => h)) ?_, H.out.lo, ?_, ?_, ?_, ?_, ?_⟩
      · rcases e with e | ⟨y, hy, e⟩
        · omega
        · have := hqlo y hy; omega
      · rintro (e | ⟨y, hy, e⟩)
        · exact hbri e
        · exact (Hmq.out y hy).2 e
      · rw [show coresE (moreQ Q) = coresE Q by simp [List.map_map, Function.comp_def]]; exact l5
      · rw [show blksE (moreQ Q) = blksE Q by simp [List.map_map, Function.comp_def]]
        exact ⟨D3, HD3.out.size ▸ tight Hrg0.out.owns, HD3.out⟩
      · intro x hx
        obtain ⟨y, hy, rfl⟩ := List.mem_map.1 hx
        exact ⟨hqlo y hy, hent' y hy⟩
      · rw [show (moreQ Q).map Prod.snd = Q.map Prod.snd by simp [List.map_map, Function.comp_def]]; exact Hnd.out
      · intro x hx
        obtain ⟨y, hy, rfl⟩ := List.mem_map.1 hx
        exact H.out.src y (List.mem_cons_of_mem _ hy)
    · intro xx tt kl y1 y2 w5 cnt5 hkey hlk hv hat hrg5 hlt5 hg5 hs5 hen
      obtain ⟨x', e, rfl, hwx⟩ := keyOf_int_inv Try.underlying3 hkey
      cases e
      have hxq := Hleft.out _ hlk
      obtain ⟨p', rfl, hpq⟩ := HD3.out.next (by rw [blks_cores]; exact hxq) hat hv
      obtain ⟨y, hy, hye⟩ := List.mem_map.1 hpq
      simp only [Prod.mk.injEq] at hye
      obtain ⟨rfl, rfl⟩ := hye
      have hw := hent.out y hy
      rw [hlk] at hw
      have k5 : Kept (fun k => k = ri) wr w5 := (Kept.refl _ wr).grown hg5 (fun k hk => by cases hk; exact .inr rfl)
      have hyri : ¬ y.2 = ri := by have := Hlt.out y hy; omega
      have hw5 : w5.heap[y.2]? = some (blkE y.1) := k5.heap hw hyri
      have q6 := cell_blk hw5 6
      have g6 := free_blk hw5 6
      have hwr : IntKind.i64.wrap ((y.1.wt : Int) + 1) = (y.1.wt : Int) + 1 := by have := Hwt.out y hy; rw [IntKind.wrap_i64]; omega
      have Hw5 := Lib.hid hw5
      have K5 := Lib.hid k5
      have Hrg5 := Lib.hid hrg5
      have Hlk := Lib.hid hlk
      have Hlt5 := Lib.hid hlt5
      clear hat hv hkey hpq hw hrg5 hlt5 hg5 hs5 hw5 k5 hlk hxq
      go_wp2_with fail
      have kk : Kept (fun k => k = y.2) w5 (w5.setCell ⟨y.2, 6, none⟩ (.int .i64 ((y.1.wt : Int) + 1))) := (Kept.refl (fun k => k = y.2) w5).setCell (p := ⟨y.2, 6, none⟩) (.inr rfl) _
      have hrg6 := ranges_kept Hrg5.out kk (fun e => (Hmq.out y hy).1 e.symm) (fun e => hyri e.symm)
      refine ⟨⟨_, cnt5, hrg6, fun c hc => ?_, fun z hz => ?_, ?_⟩, ?_⟩
      · simp only [Bool.and_eq_true] at hc; exact Hleft.out c hc.1
      · by_cases hzy : z = y
        · subst hzy
          rw [show (left (ky z.1.c) && !(ky z.1.c).sameKey (ky z.1.c)) = false by rw [WideAt.sameKey_self (keys3.key (key3 hwx))]; simp]
          exact heap_setCell_same w5 z.2 6 _ _ _ Hw5.out
        · have h2 : ¬ z.2 = y.2 := fun e => hzy (inj_nodup Hnd.out hz hy e)
          have h1 : ¬ z.1.c = y.1.c := fun e => hzy (inj_nodup (f := fun x : En × Nat => x.1.c) (by have := HD3.out.nodup; rwa [blks_cores] at this) hz hy e)
          have h3 : ¬ z.2 = ri := by have := Hlt.out z hz; omega
          rw [show (left (ky z.1.c) && !(ky z.1.c).sameKey (ky y.1.c)) = left (ky z.1.c) by rw [sameKey_ne (ky_ne h1)]; simp]
          exact kk.heap (K5.out.heap (hent.out z hz) h3) h2
      · exact (Hkr.out.trans (K5.out.mono (fun _ _ e => .inl e))).trans (kk.mono (fun _ _ e => .inr ⟨y, hy, e.symm⟩))
      · rw [hrg6.left_eq, Hrg0.out.left_eq]; exact Hlt5.out
end Go.Proofs.Ytjimjkfnpklhiaa

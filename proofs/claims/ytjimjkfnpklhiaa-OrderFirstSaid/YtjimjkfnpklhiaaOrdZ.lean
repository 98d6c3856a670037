/- Package order: what is watched, one thing after the other. -/
import Derived.Test.YtjimjkfnpklhiaaOrdY
set_option linter.all false
namespace Go.Proofs.Ytjimjkfnpklhiaa
open Go.RowKit Go.Maps

theorem encS_len (x : Sn) : (encS x).length = 10 := rfl
theorem seen_len (L : List Sn) : (L.flatMap encS).length = L.length * 10 := by rw [enc_length encS_len, Nat.mul_comm]
theorem Src.seen {w : World} {v : Value} {n : Nat} {L : List Sn} (h : Src w v n 10 (L.flatMap encS)) : L.length = n ∧ ∃ ao c, v = .slice ao n c ∧ ∀ i z, L[i]? = some z → ∃ B Of, ao = some ⟨B, Of, none⟩ ∧
    w.cell? ⟨B, Of + i * 10, none⟩ = some (.int .i64 z.k) ∧ w.cell? ⟨B, Of + i * 10 + 1, none⟩ = some (.int .i64 z.c) ∧ w.cell? ⟨B, Of + i * 10 + 2, none⟩ = some (.int .i64 z.n) ∧ w.cell? ⟨B, Of + i * 10 + 3, none⟩ = some (.int .i64 z.t.e) ∧ w.cell? ⟨B, Of + i * 10 + 4, none⟩ = some (.int .u64 z.t.w) ∧ w.cell? ⟨B, Of + i * 10 + 5, none⟩ = some (.int .i64 z.t.k) ∧ w.cell? ⟨B, Of + i * 10 + 6, none⟩ = some (z.v) ∧ w.cell? ⟨B, Of + i * 10 + 7, none⟩ = some (.int .i64 z.fr) ∧ w.cell? ⟨B, Of + i * 10 + 8, none⟩ = some (.int .i64 z.rt) ∧ w.cell? ⟨B, Of + i * 10 + 9, none⟩ = some (.bool z.is) := by
  obtain ⟨ao, c, rfl, _, hl, h3⟩ := h
  rw [seen_len] at hl
  refine ⟨by omega, ao, c, rfl, fun i x hx => ?_⟩
  have key : ∀ i x, L[i]? = some x → ∀ j v, j < 10 → (encS x)[j]? = some v → ∃ ad, ao = some ad ∧ w.cell? (ad.add (i * 10 + j)) = some v := by
    intro i x hx j v hj hv
    have := enc_get encS_len hx hj
    rw [hv] at this
    exact h3 _ _ this
  obtain ⟨⟨B, Of, sp⟩, rfl, h0⟩ := key i x hx 0 _ (by omega) rfl
  obtain ⟨x0, hx0⟩ : ∃ x0, L[0]? = some x0 := ⟨_, List.getElem?_eq_getElem (by have := lt_of_some hx; omega)⟩
  obtain ⟨ad, e, h00⟩ := key 0 x0 hx0 0 _ (by omega) rfl
  cases e
  have hsp : sp = none := by
    have := spot_of_cell h00
    simpa [Addr.add] using this
  subst hsp
  have k2 : ∀ j v, j < 10 → (encS x)[j]? = some v → w.cell? ⟨B, Of + i * 10 + j, none⟩ = some v := by
    intro j v hj hv
    obtain ⟨ad, e, h⟩ := key i x hx j v hj hv
    cases e
    rw [addr_add, ← Nat.add_assoc] at h
    exact h
  exact ⟨B, Of, rfl, by simpa using k2 0 _ (by omega) rfl, k2 1 _ (by omega) rfl, k2 2 _ (by omega) rfl, k2 3 _ (by omega) rfl, k2 4 _ (by omega) rfl, k2 5 _ (by omega) rfl, k2 6 _ (by omega) rfl, k2 7 _ (by omega) rfl, k2 8 _ (by omega) rfl, k2 9 _ (by omega) rfl⟩


def goE (n : Nat) : List En → Nat → List Sn → Nat → Int × List En × Nat
  | E, m, [], _ => (-1, E, m)
  | E, m, s :: r, i => if s.c < 0 ∨ (n : Int) ≤ s.c then ((i : Int), E, m) else
    if (mayE E m s).1 = true then goE n (mayE E m s).2.1 (mayE E m s).2.2 r (i + 1) else ((i : Int), (mayE E m s).2.1, (mayE E m s).2.2)
theorem mayE_mem {E E' : List En} {m m' : Nat} {s : Sn} {ok : Bool} (h : mayE E m s = (ok, E', m')) : ∀ x ∈ E', (∃ y ∈ E, x.t = y.t ∧ x.wt ≤ y.wt + 1) ∨ (x.t = s.t ∧ ∃ y ∈ E, x.wt ≤ y.wt + 1) ∨ (x.t = ⟨0, 0, 0, []⟩ ∧ x.wt = 0) := by
  have same : ∀ {F : List En} {x : En}, x ∈ F → ∃ y ∈ F, x.t = y.t ∧ x.wt ≤ y.wt + 1 := fun hx => ⟨_, hx, rfl, by omega⟩
  unfold mayE at h
  intro x hx
  split at h
  · split at h
    · injection h with _ h; injection h with h _; subst h; exact .inl (same hx)
    · injection h with _ h; injection h with h _; subst h
      rcases List.mem_append.1 hx with hx | hx
      · exact .inl (same hx)
      · obtain rfl := List.mem_singleton.1 hx; exact .inr (.inr ⟨rfl, rfl⟩)
  · split at h
    · cases E with
      | nil => injection h with _ h; injection h with h _; subst h; cases hx
      | cons a r =>
        simp only [] at h
        split at h
        · injection h with _ h; injection h with h _; subst h
          rcases List.mem_cons.1 hx with hx | hx
          · subst hx; exact .inr (.inl ⟨rfl, a, by simp, by simp⟩)
          · exact .inl (same (List.mem_cons_of_mem _ hx))
        · injection h with _ h; injection h with h _; subst h; exact .inl (same hx)
    · split at h
      · cases E with
        | nil => injection h with _ h; injection h with h _; subst h; cases hx
        | cons a r =>
          simp only [] at h
          split at h
          · injection h with _ h; injection h with h _; subst h
            obtain ⟨y, hy, rfl⟩ := List.mem_map.1 hx
            exact .inl ⟨y, List.mem_cons_of_mem _ hy, rfl, Nat.le_refl _⟩
          · injection h with _ h; injection h with h _; subst h; exact .inl (same hx)
      · split at h
        · injection h with _ h; injection h with h _; subst h; exact .inl (same hx)
        · split at h
          · injection h with _ h; injection h with h _; subst h; exact .inl (same hx)
          · injection h with _ h; injection h with h _; subst h; exact .inl (same hx)

set_option maxRecDepth 100000 in
set_option maxHeartbeats 4000000 in
theorem watched_any (n : Nat) (lv : Value) (L : List Sn) (w : World) (h1 : 1 ≤ n) (h8 : n ≤ 8) (hs : Src w lv L.length 10 (L.flatMap encS)) (hv : ∀ s ∈ L, Src w s.v s.t.fg.length 4 (s.t.fg.flatMap encL) ∧ s.t.fg.length ≤ 1000000) (hl : L.length ≤ 1000) (r : Int) (E : List En) (m : Nat) (hg : goE n [] 0 L 0 = (r, E, m)) :
    Calls Try.prog 21 #[.int .i64 n, lv] w fun e w' => ∃ b lb g mb Q, e = .returned (.tuple #[.pointer (some ⟨b, 0, none⟩), .int .i64 r]) ∧ Q.map Prod.fst = E ∧ Wt w w' b lb g mb n Q m := by
  obtain ⟨-, ao, cc, rfl, -⟩ := hs.seen
  obtain ⟨len, hlen⟩ : ∃ len, len = L.length := ⟨_, rfl⟩
  rw [← hlen] at hl ⊢
  have hcall := lock_new n w (by omega) (by omega)
  rw [Int.toNat_natCast] at hcall
  have Hcall := Lib.hid hcall
  have Hv := Lib.hid hv
  have Hg := Lib.hid hg
  rw [← hlen] at hs
  have Hs := Lib.hid hs
  have Hlen := Lib.hid hlen
  clear hcall hv hg hs hlen
  have hmm := @run_makeMap Try.prog
  go_enter Try.func21, Try.ntmps21
  go_wp2_with fail
  refine Hcall.out.mono ?_
  rintro e w1 ⟨rfl, l1, k1⟩
  have L1 := Lib.hid l1
  have K1 := Lib.hid k1
  clear l1 k1 Hcall
  go_wp2_with fail
  obtain ⟨b, hb⟩ : ∃ b, b = w1.heap.size + 1 := ⟨_, rfl⟩
  obtain ⟨mb, hmb⟩ : ∃ mb, mb = w1.heap.size := ⟨_, rfl⟩
  obtain ⟨lb, hlb⟩ : ∃ lb, lb = w.heap.size + 1 := ⟨_, rfl⟩
  rw [← hb, ← hmb, ← hlb]
  obtain ⟨W, hW⟩ : ∃ W, W = (w1.alloc (.map #[] 0)).alloc (.cells #[.pointer (some ⟨lb, 0, none⟩), .map (some mb), .int .i64 0] 50) := ⟨_, rfl⟩
  rw [← hW]
  have hT : Wt w W b lb w.heap.size mb n [] 0 := by
    have kA : New w1 (w1.alloc (.map #[] 0)) := (Kept.refl _ _).alloc _
    have kB : New (w1.alloc (.map #[] 0)) W := by rw [hW]; exact (Kept.refl _ _).alloc _
    have hs1 : w.heap.size ≤ w1.heap.size := K1.out.size
    have hb' : b = (w1.alloc (.map #[] 0)).heap.size := by rw [hb]; exact (Array.size_push ..).symm
    refine ⟨(K1.out.trans kA).trans kB, ?_, by omega, ?_, ?_, fun x hx => (by cases hx), (by simp), fun x hx => (by cases hx)⟩
    · rw [hW, hb']; exact heap_alloc_new _ _
    · have := L1.out; rw [← hlb] at this; exact (this.same kA).same kB
    · rw [hmb]; exact (Mp.made w1).same kB
  have HT := Lib.hid hT
  have HL0 : Hid (goE n (([] : List (En × Nat)).map Prod.fst) 0 (L.drop 0) 0 = (r, E, m)) := Hg.out
  obtain ⟨gg, hgg⟩ : ∃ gg, gg = w.heap.size := ⟨_, rfl⟩
  rw [← hgg] at HT
  clear hT hW hb hmb hlb L1 K1 hgg hmm
  go_loopw [22] (fun i wr => ∃ (k : Nat) (Q : List (En × Nat)) (mm : Nat), k ≤ len ∧ i = .int .i64 k ∧ Hid (Wt w wr b lb gg mb n Q mm) ∧ Hid (goE n (Q.map Prod.fst) mm (L.drop k) k = (r, E, m)) ∧ Hid (∀ y ∈ Q, y.1.wt ≤ k ∧ y.1.t.fg.length ≤ 1000000)) (fun i _ => len - (intOf i).toNat)
  case atStart => exact ⟨0, [], 0, by omega, rfl, HT, HL0, fun y hy => by cases hy⟩
  case round =>
    clear HT HL0
    obtain ⟨k, Q, mm, hk, rfl, HT, HG, HQ⟩ := hrel
    by_cases hlt : k < len
    · obtain ⟨s, hs⟩ : ∃ s, L[k]? = some s := ⟨_, List.getElem?_eq_getElem (by have := Hlen.out; omega)⟩
      obtain ⟨-, ao', c', he, hcl⟩ := (Hs.out.same HT.out.new).seen
      cases he
      obtain ⟨B, Of, rfl, c0, c1, c2, c3, c4, c5, c6, c7, c8, c9⟩ := hcl k s hs
      have hdrop : L.drop k = s :: L.drop (k + 1) := by
        obtain ⟨hx, rfl⟩ := List.getElem?_eq_some_iff.1 hs
        exact List.drop_eq_getElem_cons hx
      obtain ⟨hsv, hsl⟩ := Hv.out s (List.mem_of_getElem? hs)
      obtain ⟨av, cv, hvv⟩ : ∃ av cv, s.v = .slice av s.t.fg.length cv := by obtain ⟨av, cv, e, _⟩ := hsv; exact ⟨av, cv, e⟩
      obtain ⟨sk, sc, sn, st, sv, sfr, srt, sis⟩ := s
      simp only at hvv
      subst hvv
      simp only at c0 c1 c2 c3 c4 c5 c6 c7 c8 c9 hsv hsl
      have hG := HG.out
      rw [hdrop, goE] at hG
      simp only at hG
      by_cases hr : sc < 0
      · rw [if_pos (.inl hr)] at hG
        simp only [Prod.mk.injEq] at hG
        obtain ⟨rfl, rfl, rfl⟩ := hG
        clear hcl hs hdrop
        go_wp2_with fail
        go_ret2
        first
            | exact ⟨b, lb, gg, mb, Q, rfl, rfl, HT.out.same ((Kept.refl _ _).alloc _)⟩
            | exact ⟨b, rfl, lb, gg, mb, Q, rfl, HT.out.same ((Kept.refl _ _).alloc _)⟩
      · by_cases hr2 : (n : Int) ≤ sc
        · rw [if_pos (.inr hr2)] at hG
          simp only [Prod.mk.injEq] at hG
          obtain ⟨rfl, rfl, rfl⟩ := hG
          clear hcl hs hdrop
          go_wp2_with fail
          go_ret2
          first
            | exact ⟨b, lb, gg, mb, Q, rfl, rfl, HT.out.same ((Kept.refl _ _).alloc _)⟩
            | exact ⟨b, rfl, lb, gg, mb, Q, rfl, HT.out.same ((Kept.refl _ _).alloc _)⟩
        · rw [if_neg (by omega)] at hG
          obtain ⟨⟨ok, E', m'⟩, hmy⟩ : ∃ x, mayE (Q.map Prod.fst) mm ⟨sk, sc, sn, st, .slice av st.fg.length cv, sfr, srt, sis⟩ = x := ⟨_, rfl⟩
          rw [hmy] at hG
          simp only [] at hG
          have hT2 := HT.out.same ((Kept.refl (fun _ => False) wr).alloc (.cells #[.int .i64 sk, .int .i64 sc, .int .i64 sn, .int .i64 st.e, .int .u64 st.w, .int .i64 st.k, .slice av st.fg.length cv, .int .i64 sfr, .int .i64 srt, .bool sis] 40))
          have hcall := may_any ⟨sk, sc, sn, st, .slice av st.fg.length cv, sfr, srt, sis⟩ ok hT2 rfl (show 0 ≤ sc ∧ sc < (n : Int) by omega) (fun y hy => by have := (HQ.out y hy).1; omega) (fun y hy => (HQ.out y hy).2) hsl hsv hmy
          have Hcall := Lib.hid hcall
          have HG2 := Lib.hid hG
          have Hmy := Lib.hid hmy
          have Hsl := Lib.hid hsl
          clear hcl hs hdrop hcall hG hmy hT2 hsv hsl HG HT
          go_wp2_with fail
          refine Hcall.out.mono ?_
          rintro e w3 ⟨Q', rfl, hQ', h3⟩
          have H3 := Lib.hid h3
          have HQ' := Lib.hid hQ'
          clear h3 hQ'
          cases ok with
          | false =>
            have hG := HG2.out
            rw [if_neg (by simp)] at hG
            simp only [Prod.mk.injEq] at hG
            obtain ⟨rfl, rfl, rfl⟩ := hG
            go_wp2_with fail
            go_ret2
            first
            | exact ⟨b, lb, gg, mb, Q', rfl, HQ'.out, H3.out⟩
            | exact ⟨b, rfl, lb, gg, mb, Q', HQ'.out, H3.out⟩
          | true =>
            have hG := HG2.out
            rw [if_pos rfl] at hG
            have Hf : Hid (∀ y ∈ Q', y.1.wt ≤ k + 1 ∧ y.1.t.fg.length ≤ 1000000) := by
              intro y hy
              have hy' : y.1 ∈ E' := by rw [← HQ'.out]; exact List.mem_map.2 ⟨y, hy, rfl⟩
              rcases mayE_mem Hmy.out y.1 hy' with ⟨z, hz, e1, e2⟩ | ⟨e1, z, hz, e2⟩ | ⟨e1, e2⟩
              · obtain ⟨q, hq, rfl⟩ := List.mem_map.1 hz
                have := HQ.out q hq
                rw [e1]; omega
              · obtain ⟨q, hq, rfl⟩ := List.mem_map.1 hz
                have := HQ.out q hq
                refine ⟨by omega, ?_⟩
                rw [e1]; exact Hsl.out
              · rw [e1, e2]; simp
            have HG3 : Hid (goE n (Q'.map Prod.fst) m' (L.drop (k + 1)) (k + 1) = (r, E, m)) := by rw [HQ'.out]; exact hG
            clear hG
            go_wp2_with fail
            go_roundw
            case rel => exact ⟨k + 1, Q', m', by omega, by go_num, H3, HG3, Hf⟩
            case measure => simp [intOf]; omega
    · have hG := HG.out
      rw [List.drop_eq_nil_of_le (by have := Hlen.out; omega), goE] at hG
      simp only [Prod.mk.injEq] at hG
      obtain ⟨rfl, rfl, rfl⟩ := hG
      go_wp2_with fail
      go_ret2
      first
            | exact ⟨b, lb, gg, mb, Q, rfl, rfl, HT.out⟩
            | exact ⟨b, rfl, lb, gg, mb, Q, rfl, HT.out⟩
end Go.Proofs.Ytjimjkfnpklhiaa

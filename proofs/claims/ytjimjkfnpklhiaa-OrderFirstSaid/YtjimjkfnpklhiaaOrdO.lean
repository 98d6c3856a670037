/- The reference of package order: First, Line, Waits. -/
import Derived.Test.YtjimjkfnpklhiaaOrdR
set_option linter.all false
namespace Go.Proofs.Ytjimjkfnpklhiaa
open Go.RowKit Go.Maps

set_option maxRecDepth 100000 in
set_option maxHeartbeats 4000000 in
theorem rmay_no {w : World} {ao : Option Addr} {len c : Nat} {L : List Sn} (h : Sd w (.slice ao len c) L) (n : Int) (hn : n < 1 ∨ 8 < n) (k : Nat) (s : Sn) (hs : L[k]? = some s) :
    Calls Try.prog 22 #[.int .i64 n, .slice ao len c, .int .i64 k] w fun e w' => e = .returned (.bool false) ∧ New w w' := by
  have hlen := h.num
  have hl61 := h.len
  have hk := lt_of_some hs
  have hkl : k < len := by omega
  have hklz : (k : Int) < (len : Int) := by omega
  have hk0 : (0 : Int) ≤ (k : Int) := by omega
  obtain ⟨B, Of, rfl, d0, d1, d2, d3, d4, d5, d6, d7, d8, d9⟩ := h.cells hs
  obtain ⟨av, fl, cv, hvv⟩ : ∃ av fl cv, s.v = .slice av fl cv := by obtain ⟨av, cv, e, -⟩ := (h.all s (List.mem_of_getElem? hs)).1; exact ⟨av, _, cv, e⟩
  rw [hvv] at d6
  clear h hs hlen hl61 hk hvv
  go_enter Try.func22, Try.ntmps22
  go_upto_region 2 with fail
  obtain ⟨W1, hW1⟩ : ∃ X, X = w.alloc (.cells #[.int .i64 s.k, .int .i64 s.c, .int .i64 s.n, .int .i64 s.t.e, .int .u64 s.t.w, .int .i64 s.t.k, .slice av fl cv, .int .i64 s.fr, .int .i64 s.rt, .bool s.is] 40) := ⟨_, rfl⟩
  rw [← hW1]
  have k1 : New w W1 := by rw [hW1]; exact (Kept.refl _ _).alloc _
  have K1 := Lib.hid k1
  clear d0 d1 d2 d3 d4 d5 d6 d7 d8 d9 hW1 k1
  by_cases h1 : n < 1
  · go_wp2_with fail
    go_ret
    exact ⟨rfl, K1.out⟩
  · have h8 : 8 < n := by omega
    go_wp2_with fail
    go_ret
    exact ⟨rfl, K1.out⟩

set_option maxRecDepth 100000 in
set_option maxHeartbeats 4000000 in
theorem rfirst_no {w : World} {ao : Option Addr} {len c : Nat} {L : List Sn} (h : Sd w (.slice ao len c) L) (n : Int) (hn : n < 1 ∨ 8 < n) (r : Int) (hr : (if L.length = 0 then -1 else 0) = r) :
    Calls Try.prog 12 #[.int .i64 n, .slice ao len c] w fun e w' => e = .returned (.int .i64 r) ∧ New w w' := by
  have hlen := h.num
  have hl61 := h.len
  rcases Nat.eq_zero_or_pos len with h0 | h0
  · subst h0
    rw [if_pos hlen.symm] at hr
    have Hr := Lib.hid hr
    clear hr h hlen hl61 hn
    go_enter Try.func12, Try.ntmps12
    go_wp2_with fail
    go_loopw [5] (fun i wr => i = .int .i64 0 ∧ wr = w) (fun _ _ => 0)
    case atStart => exact ⟨rfl, rfl⟩
    case round =>
      obtain ⟨rfl, rfl⟩ := hrel
      go_wp2_with fail
      go_ret
      exact ⟨by rw [← Hr.out]; rfl, Kept.refl _ _⟩
  · obtain ⟨s, hs⟩ : ∃ s, L[0]? = some s := ⟨_, List.getElem?_eq_getElem (by omega)⟩
    rw [if_neg (by omega)] at hr
    have hmay := rmay_no h n hn 0 s hs
    have Hmay := Lib.hid hmay
    have Hr := Lib.hid hr
    have h0z : (0 : Int) < (len : Int) := by omega
    clear hr h hlen hl61 hn hmay hs
    go_enter Try.func12, Try.ntmps12
    go_wp2_with fail
    go_loopw [5] (fun i wr => i = .int .i64 0 ∧ wr = w) (fun _ _ => 0)
    case atStart => exact ⟨rfl, rfl⟩
    case round =>
      obtain ⟨rfl, rfl⟩ := hrel
      go_wp2_with fail
      refine Hmay.out.mono ?_
      rintro e w2 ⟨rfl, hk2⟩
      go_wp2_with fail
      go_ret
      exact ⟨by rw [← Hr.out]; rfl, hk2⟩

set_option maxRecDepth 100000 in
set_option maxHeartbeats 4000000 in
theorem rfirst_any {w : World} {ao : Option Addr} {len c : Nat} {L : List Sn} (h : Sd w (.slice ao len c) L) (n : Nat) (hn1 : 1 ≤ n) (hn8 : n ≤ 8) (r : Int) (hr : (goE n [] 0 L 0).1 = r) :
    Calls Try.prog 12 #[.int .i64 n, .slice ao len c] w fun e w' => e = .returned (.int .i64 r) ∧ New w w' := by
  have hlen := h.num
  have hl61 := h.len
  have H := Lib.hid h
  have Hlen := Lib.hid hlen
  have Hr := Lib.hid hr
  have hk61 : len ≤ 61 := by omega
  clear h hlen hl61 hr
  go_enter Try.func12, Try.ntmps12
  go_wp2_with fail
  go_loopw [5] (fun i wr => ∃ (j : Nat) (E : List En) (m : Nat), j ≤ len ∧ i = .int .i64 j ∧ Hid (Ok n L j E m) ∧ Hid (New w wr)) (fun i _ => len - (intOf i).toNat)
  case atStart => exact ⟨0, [], 0, by omega, rfl, Ok.start hn1 L, Kept.refl _ _⟩
  case round =>
    obtain ⟨j, E, m, hj, rfl, HO, HN⟩ := hrel
    by_cases h1 : j < len
    · have h1z : (j : Int) < (len : Int) := by omega
      obtain ⟨s, hs⟩ : ∃ s, L[j]? = some s := ⟨_, List.getElem?_eq_getElem (by have := Hlen.out; omega)⟩
      obtain ⟨b, hb⟩ : ∃ b, (decide (¬ (s.c < 0 ∨ (n : Int) ≤ s.c)) && (mayE E m s).1) = b := ⟨_, rfl⟩
      have hmay := rmay_any (H.out.same HN.out) n hn1 hn8 j E m HO.out s hs b hb
      have Hmay := Lib.hid hmay
      have Hb := Lib.hid hb
      have Hs := Lib.hid hs
      clear hmay hb hs
      go_wp2_with fail
      refine Hmay.out.mono ?_
      rintro e w2 ⟨rfl, hk2⟩
      cases b with
      | false =>
        have hres : r = (j : Int) := by
          rw [← Hr.out, HO.out.stop Hs.out (by
            have := Hb.out
            rw [Bool.and_eq_false_iff] at this
            rcases this with h | h
            · left; exact Decidable.not_not.1 (of_decide_eq_false h)
            · right; exact h)]
        have Hres := Lib.hid hres
        clear hres
        go_wp2_with fail
        go_ret
        exact ⟨by rw [Hres.out]; rfl, HN.out.trans hk2⟩
      | true =>
        have hstep : ∃ E' m', Ok n L (j + 1) E' m' := by
          have := Hb.out
          rw [Bool.and_eq_true] at this
          obtain ⟨h2, h3⟩ := this
          obtain ⟨ok, E', m', he⟩ : ∃ ok E' m', mayE E m s = (ok, E', m') := ⟨_, _, _, rfl⟩
          rw [he] at h3
          simp only at h3
          subst h3
          exact ⟨E', m', HO.out.step Hs.out (of_decide_eq_true h2) he⟩
        obtain ⟨E', m', hO'⟩ := hstep
        have HO' := Lib.hid hO'
        clear hO'
        go_wp2_with fail
        go_roundw
        case rel => exact ⟨j + 1, E', m', by omega, by go_num, HO', HN.out.trans hk2⟩
        case measure => simp [intOf] <;> omega
    · obtain rfl : len = j := by omega
      have hres : r = -1 := by
        have h9 := HO.out
        rw [Hlen.out] at h9
        rw [← Hr.out, h9.whole]
      have Hres := Lib.hid hres
      clear hres
      go_wp2_with fail
      go_ret
      exact ⟨by rw [Hres.out]; rfl, HN.out⟩

set_option maxRecDepth 100000 in
set_option maxHeartbeats 4000000 in
theorem rLine_any {w : World} {ao : Option Addr} {len c : Nat} {L : List Sn} (h : Sd w (.slice ao len c) L) (n : Nat) (hn1 : 1 ≤ n) (hn8 : n ≤ 8) (E : List En) (hE : (goE n [] 0 L 0).2.1 = E) :
    Calls Try.prog 15 #[.int .i64 n, .slice ao len c] w fun e w' => ∃ v, e = .returned v ∧ w'.ownsRow w.heap.size 3 1 v (coreL E).length ((coreL E).map (Value.int .i64)) ∧ New w w' := by
  have hlen := h.num
  obtain ⟨r, hr⟩ : ∃ r, (goE n [] 0 L 0).1 = r := ⟨_, rfl⟩
  have hfirst := rfirst_any h n hn1 hn8 r hr
  obtain ⟨k, E2, m2, hk, hok, hend⟩ := Ok.ends hn1 L
  have hgo : goE n [] 0 L 0 = (r, E, (goE n [] 0 L 0).2.2) := Prod.ext hr (Prod.ext hE rfl)
  have hcase : E2 = E ∧ ((r = -1 ∧ k = len) ∨ r = (k : Int)) := by
    rcases hend with ⟨h1, h2⟩ | ⟨s, -, -, h2⟩
    · rw [hgo] at h2; injection h2 with h3 h4; injection h4 with h4 _; exact ⟨h4.symm, .inl ⟨h3, by omega⟩⟩
    · rw [hgo] at h2; injection h2 with h3 h4; injection h4 with h4 _; exact ⟨h4.symm, .inr h3⟩
  obtain ⟨rfl, hc2⟩ := hcase
  have hline : ∀ W, New w W → Calls Try.prog 24 #[.slice ao len c, .int .i64 k] W fun e w' => ∃ v, e = .returned v ∧ w'.ownsRow w.heap.size 3 1 v (coreL E2).length ((coreL E2).map (Value.int .i64)) ∧ New w w' := fun W kW => by
    refine (rline_any (h.same kW) n hn1 hn8 k (by omega) E2 m2 hok.go).mono ?_
    rintro e w' ⟨v, rfl, h1, h2⟩
    exact ⟨v, rfl, own_mono h1 kW.size, kW.trans h2⟩
  have Hline := Lib.hid hline
  have Hfirst := Lib.hid hfirst
  clear hlen hr hfirst hok hend hgo hline hE hk h
  go_enter Try.func15, Try.ntmps15
  go_wp2_with fail
  refine Hfirst.out.mono ?_
  rintro e w2 ⟨rfl, hk2⟩
  rcases hc2 with ⟨rfl, rfl⟩ | rfl
  · go_wp2_with fail
    refine (Hline.out _ hk2).mono ?_
    rintro e w3 ⟨v, rfl, h1, h2⟩
    have H1 := Lib.hid h1
    clear h1
    go_wp2_with fail
    go_ret
    exact ⟨_, rfl, H1.out, h2⟩
  · have hneg : ¬ (k : Int) < 0 := by omega
    go_wp2_with fail
    refine (Hline.out _ hk2).mono ?_
    rintro e w3 ⟨v, rfl, h1, h2⟩
    have H1 := Lib.hid h1
    clear h1
    go_wp2_with fail
    go_ret
    exact ⟨_, rfl, H1.out, h2⟩
theorem rLine_no {w : World} {ao : Option Addr} {len c : Nat} {L : List Sn} (h : Sd w (.slice ao len c) L) (n : Int) (hn : n < 1 ∨ 8 < n) :
    Calls Try.prog 15 #[.int .i64 n, .slice ao len c] w fun e w' => ∃ v, e = .returned v ∧ w'.ownsRow w.heap.size 3 1 v 0 (([] : List Int).map (Value.int .i64)) ∧ New w w' := by
  have hlen := h.num
  obtain ⟨r, hr⟩ : ∃ r : Int, (if L.length = 0 then -1 else 0) = r := ⟨_, rfl⟩
  have hfirst := rfirst_no h n hn r hr
  have hline : ∀ W, New w W → Calls Try.prog 24 #[.slice ao len c, .int .i64 0] W fun e w' => ∃ v, e = .returned v ∧ w'.ownsRow w.heap.size 3 1 v 0 (([] : List Int).map (Value.int .i64)) ∧ New w w' := fun W kW => by
    refine (rline_any (h.same kW) 1 (by decide) (by decide) 0 (by omega) [] 0 (by rw [List.take_zero]; rfl)).mono ?_
    rintro e w' ⟨v, rfl, h1, h2⟩
    exact ⟨v, rfl, own_mono h1 kW.size, kW.trans h2⟩
  have hc2 : (r = -1 ∧ len = 0) ∨ r = 0 := by
    by_cases h0 : L.length = 0
    · rw [if_pos h0] at hr; left; exact ⟨hr.symm, by omega⟩
    · rw [if_neg h0] at hr; right; exact hr.symm
  have Hline := Lib.hid hline
  have Hfirst := Lib.hid hfirst
  clear hlen hr hfirst hline h hn
  go_enter Try.func15, Try.ntmps15
  go_wp2_with fail
  refine Hfirst.out.mono ?_
  rintro e w2 ⟨rfl, hk2⟩
  rcases hc2 with ⟨rfl, rfl⟩ | rfl
  · go_wp2_with fail
    refine (Hline.out _ hk2).mono ?_
    rintro e w3 ⟨v, rfl, h1, h2⟩
    have H1 := Lib.hid h1
    clear h1
    go_wp2_with fail
    go_ret
    exact ⟨_, rfl, H1.out, h2⟩
  · go_wp2_with fail
    refine (Hline.out _ hk2).mono ?_
    rintro e w3 ⟨v, rfl, h1, h2⟩
    have H1 := Lib.hid h1
    clear h1
    go_wp2_with fail
    go_ret
    exact ⟨_, rfl, H1.out, h2⟩
end Go.Proofs.Ytjimjkfnpklhiaa

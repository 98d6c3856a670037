/- The reference of package order: Waits. -/
import Derived.Test.YtjimjkfnpklhiaaOrdO
import Derived.Deep.DeepCutAuto
set_option linter.all false
namespace Go.Proofs.Ytjimjkfnpklhiaa
open Go.RowKit Go.Maps

set_option maxRecDepth 100000 in
set_option maxHeartbeats 8000000 in
theorem rWaits_any {w : World} {ao : Option Addr} {len c : Nat} {L : List Sn} (h : Sd w (.slice ao len c) L) (n : Nat) (hn1 : 1 ≤ n) (hn8 : n ≤ 8) (mw : Nat) (hm : (goE n [] 0 L 0).2.2 = mw) :
    Calls Try.prog 19 #[.int .i64 n, .slice ao len c] w fun e w' => e = .returned (.int .i64 mw) ∧ New w w' := by
  have hlen := h.num
  have hl61 := h.len
  obtain ⟨r, hr⟩ : ∃ r, (goE n [] 0 L 0).1 = r := ⟨_, rfl⟩
  have hfirst := rfirst_any h n hn1 hn8 r hr
  obtain ⟨K, EK, mK, hK, hokK, hend⟩ := Ok.ends hn1 L
  have hgo : goE n [] 0 L 0 = (r, (goE n [] 0 L 0).2.1, mw) := Prod.ext hr (Prod.ext rfl hm)
  have hc2 : (r = -1 ∧ K = len) ∨ r = (K : Int) := by
    rcases hend with ⟨h1, h2⟩ | ⟨s, -, -, h2⟩
    · rw [hgo] at h2; injection h2 with h3 h4; exact .inl ⟨h3, by omega⟩
    · rw [hgo] at h2; injection h2 with h3 h4; exact .inr h3
  have hmK : mK = mw := by
    rcases hend with ⟨h1, h2⟩ | ⟨s, -, -, h2⟩
    · rw [hgo] at h2; injection h2 with h3 h4; injection h4 with _ h4; exact h4.symm
    · rw [hgo] at h2; injection h2 with h3 h4; injection h4 with _ h4; exact h4.symm
  have hstep : ∀ i E m s, i < K → Ok n L i E m → L[i]? = some s → ∃ E' m', mayE E m s = (true, E', m') ∧ Ok n L (i + 1) E' m' := by
    intro i E m s hi hO hs
    by_cases hbad : (s.c < 0 ∨ (n : Int) ≤ s.c) ∨ (mayE E m s).1 = false
    · have := hO.stop hs hbad
      rcases hend with ⟨h1, h2⟩ | ⟨s2, -, -, h2⟩
      · rw [this] at h2; injection h2 with h3 _; omega
      · rw [this] at h2; injection h2 with h3 _; omega
    · have h1 : ¬ (s.c < 0 ∨ (n : Int) ≤ s.c) := fun h => hbad (.inl h)
      obtain ⟨ok, E', m', he⟩ : ∃ ok E' m', mayE E m s = (ok, E', m') := ⟨_, _, _, rfl⟩
      cases ok with
      | false => exact absurd (.inr (by rw [he])) hbad
      | true => exact ⟨E', m', he, hO.step hs h1 he⟩
  have hlast : ∀ E m, Ok n L K E m → m = mw := by
    intro E m hO
    have h1 := hO.go
    rw [hokK.go] at h1
    injection h1 with _ h1; injection h1 with _ h1; rw [← h1]; exact hmK
  have H := Lib.hid h
  have Hlen := Lib.hid hlen
  have Hfirst := Lib.hid hfirst
  have Hstep := Lib.hid hstep
  have Hlast := Lib.hid hlast
  have hk61 : len ≤ 61 := by omega
  have hKl : K ≤ len := by omega
  clear h hlen hl61 hr hfirst hokK hend hgo hmK hstep hlast hm hK
  go_enter Try.func19, Try.ntmps19
  go_wp2_with fail
  refine Hfirst.out.mono ?_
  rintro e w2 ⟨rfl, hk2⟩
  go_upto_if 14 with fail
  go_cut [5] (fun s5 wx => s5 = .int .i64 K ∧ wx = w2)
  case first =>
    rcases hc2 with ⟨rfl, rfl⟩ | rfl
    · go_wp2_with fail
      go_meet
      exact ⟨rfl, rfl⟩
    · have hneg : ¬ (K : Int) < 0 := by omega
      go_wp2_with fail
      go_meet
      exact ⟨rfl, rfl⟩
  case rest =>
    obtain ⟨rfl, rfl⟩ := hcut
    clear hc2 Hfirst
    go_wp2_with fail
    go_loopw [6, 7] (fun mo i wr => ∃ (j : Nat) (E : List En) (m : Nat), j ≤ K ∧ mo = .int .i64 m ∧ i = .int .i64 j ∧ Hid (Ok n L j E m) ∧ Hid (New w wr)) (fun _ i _ => K - (intOf i).toNat)
    case atStart => exact ⟨0, [], 0, by omega, rfl, rfl, Ok.start hn1 L, hk2⟩
    case round =>
      obtain ⟨j, E, m, hj, rfl, rfl, HO, HN⟩ := hrel
      by_cases h1 : j < K
      · have h1z : (j : Int) < (K : Int) := by omega
        have hjl : (j : Int) < (len : Int) := by omega
        have hjl2 : j < len := by omega
        have hj0 : (0 : Int) ≤ (j : Int) := by omega
        obtain ⟨s, hs⟩ : ∃ s, L[j]? = some s := ⟨_, List.getElem?_eq_getElem (by have := Hlen.out; omega)⟩
        obtain ⟨E', m', hmay, hO'⟩ := Hstep.out j E m s h1 HO.out hs
        obtain ⟨hm2, hmx⟩ := most_step HO.out hs hmay
        have hS := H.out.same HN.out
        obtain ⟨B, Of, rfl, d0, -⟩ := hS.cells hs
        obtain ⟨sk, hsk⟩ : ∃ x, x = s.k := ⟨_, rfl⟩
        rw [← hsk] at d0 hm2 hmx
        have HO' := Lib.hid hO'
        by_cases k2 : sk = 2
        · have b2 : (sk == 2) = true := by simpa using k2
          have b2' : (sk != 2) = false := by simpa using k2
          have hm3 := hm2 k2
          obtain ⟨en, hen⟩ : ∃ x, lastF L s.c 0 j = x := ⟨_, rfl⟩
          have hel := lastF_lt L s.c 0 j
          rw [hen] at hel hm3
          obtain ⟨e1, he1⟩ : ∃ e1 : Nat, (e1 : Int) = en + 1 := ⟨(en + 1).toNat, by omega⟩
          have hw : IntKind.i64.wrap (en + 1) = (e1 : Int) := by rw [he1, IntKind.wrap_i64]; omega
          have Hl := Lib.hid (rlast_any hS j s hs 0 en hen)
          have Hm3 := Lib.hid hm3
          have hk0 : lfN L en e1 = 0 := lfN_zero L en e1 (by omega)
          have Hk0 := Lib.hid hk0
          have He1 := Lib.hid he1
          have hej : e1 ≤ j := by omega
          clear hs hmay hO' hm2 hmx hS hsk k2 hen hel hm3 he1 hk0
          go_wp2_with fail
          refine Hl.out.mono ?_
          rintro e w3 ⟨rfl, hk3⟩
          have HN3 := Lib.hid (HN.out.trans hk3)
          clear hk3 HN d0 Hl
          go_wp2_with fail
          go_loopw [8, 9] (fun kc ji wx => ∃ (t kk : Nat), t ≤ j ∧ kk ≤ t ∧ kc = .int .i64 kk ∧ ji = .int .i64 t ∧ e1 ≤ t ∧ Hid (lfN L en t = kk) ∧ wx = w3) (fun _ ji _ => j - (intOf ji).toNat)
          case atStart => exact ⟨e1, 0, hej, by omega, rfl, rfl, Nat.le_refl _, Hk0, rfl⟩
          case round =>
            obtain ⟨t, kk, ht, hkt, rfl, rfl, het, Hkk, rfl⟩ := hrel
            by_cases h2 : t < j
            · have h2z : (t : Int) < (j : Int) := by omega
              have htl : t < len := by omega
              have htlz : (t : Int) < (len : Int) := by omega
              obtain ⟨z, hz⟩ : ∃ z, L[t]? = some z := ⟨_, List.getElem?_eq_getElem (by have := Hlen.out; omega)⟩
              obtain ⟨B2, Of2, he, d0, -⟩ := (H.out.same HN3.out).cells hz
              simp only [Option.some.injEq, Addr.mk.injEq, and_true] at he
              obtain ⟨rfl, rfl⟩ := he
              have hnext := lfN_succ (e := en) hz
              rw [Hkk.out] at hnext
              obtain ⟨zk, hzk⟩ : ∃ x, x = z.k := ⟨_, rfl⟩
              rw [← hzk] at d0 hnext
              have Hnext := Lib.hid hnext
              clear hz hnext hzk
              by_cases k3 : zk = 2
              · have b3 : (zk == 2) = true := by simpa using k3
                have K3 := Lib.hid k3
                clear k3
                go_wp2_with fail
                go_roundw
                case rel => exact ⟨t + 1, kk + 1, by omega, by omega, by go_num, by go_num, by omega, (by rw [Hid, Hnext.out, if_pos ⟨by have := He1.out; omega, K3.out⟩]), by trivial⟩
                case measure => simp [intOf] <;> omega
              · have b3 : (zk == 2) = false := by simpa using k3
                have K3 := Lib.hid k3
                clear k3
                go_wp2_with fail
                go_roundw
                case rel => exact ⟨t + 1, kk, by omega, by omega, rfl, by go_num, by omega, (by rw [Hid, Hnext.out, if_neg (fun h => K3.out h.2), Nat.add_zero]), by trivial⟩
                case measure => simp [intOf] <;> omega
            · obtain rfl : j = t := by omega
              have hm4 := Hm3.out
              rw [Hkk.out] at hm4
              by_cases h3 : m < kk
              · have h3z : (m : Int) < (kk : Int) := by omega
                have hm5 : m' = kk := by omega
                subst hm5
                clear hm4
                go_wp2_with fail
                go_roundw
                case rel => exact ⟨j + 1, E', m', by omega, rfl, by go_num, HO', HN3⟩
                case measure => simp [intOf] <;> omega
              · have h3z : ¬ (m : Int) < (kk : Int) := by omega
                have hm5 : m' = m := by omega
                subst hm5
                clear hm4
                go_wp2_with fail
                go_roundw
                case rel => exact ⟨j + 1, E', m', by omega, rfl, by go_num, HO', HN3⟩
                case measure => simp [intOf] <;> omega
        · have b2 : (sk == 2) = false := by simpa using k2
          have b2' : (sk != 2) = true := by simpa using k2
          obtain rfl := hmx k2
          clear hs hmay hO' hm2 hmx hS hsk k2
          go_wp2_with fail
          go_roundw
          case rel => exact ⟨j + 1, E', m', by omega, rfl, by go_num, HO', HN⟩
          case measure => simp [intOf] <;> omega
      · obtain rfl : K = j := by omega
        have hres := Hlast.out E m HO.out
        have Hres := Lib.hid hres
        clear hres
        go_wp2_with fail
        go_ret
        exact ⟨by rw [← Hres.out]; rfl, HN.out⟩
set_option maxRecDepth 100000 in
set_option maxHeartbeats 4000000 in
theorem rWaits_no {w : World} {ao : Option Addr} {len c : Nat} {L : List Sn} (h : Sd w (.slice ao len c) L) (n : Int) (hn : n < 1 ∨ 8 < n) :
    Calls Try.prog 19 #[.int .i64 n, .slice ao len c] w fun e w' => e = .returned (.int .i64 0) ∧ New w w' := by
  have hlen := h.num
  obtain ⟨r, hr⟩ : ∃ r : Int, (if L.length = 0 then -1 else 0) = r := ⟨_, rfl⟩
  have hfirst := rfirst_no h n hn r hr
  have hc2 : (r = -1 ∧ len = 0) ∨ r = 0 := by
    by_cases h0 : L.length = 0
    · rw [if_pos h0] at hr; left; exact ⟨hr.symm, by omega⟩
    · rw [if_neg h0] at hr; right; exact hr.symm
  have Hfirst := Lib.hid hfirst
  clear hlen hr hfirst h hn
  go_enter Try.func19, Try.ntmps19
  go_wp2_with fail
  refine Hfirst.out.mono ?_
  rintro e w2 ⟨rfl, hk2⟩
  rcases hc2 with ⟨rfl, rfl⟩ | rfl
  · go_wp2_with fail
    go_loopw [6, 7] (fun mo i wr => mo = .int .i64 0 ∧ i = .int .i64 0 ∧ wr = w2) (fun _ _ _ => 0)
    case atStart => exact ⟨rfl, rfl, rfl⟩
    case round =>
      obtain ⟨rfl, rfl, rfl⟩ := hrel
      go_wp2_with fail
      go_ret
      exact ⟨rfl, hk2⟩
  · go_wp2_with fail
    go_loopw [6, 7] (fun mo i wr => mo = .int .i64 0 ∧ i = .int .i64 0 ∧ wr = w2) (fun _ _ _ => 0)
    case atStart => exact ⟨rfl, rfl, rfl⟩
    case round =>
      obtain ⟨rfl, rfl, rfl⟩ := hrel
      go_wp2_with fail
      go_ret
      exact ⟨rfl, hk2⟩
end Go.Proofs.Ytjimjkfnpklhiaa

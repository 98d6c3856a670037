/- The walk of the law OrderWaits. -/
import Derived.Test.YtjimjkfnpklhiaaWalkOrderLoads
set_option linter.all false
namespace Go.Proofs.Ytjimjkfnpklhiaa
open Go.RowKit Go.Maps

theorem left_take {L : List Sn} {k : Nat} {s : Sn} (h : L[k]? = some s) : leftN (L.take (k + 1)) = leftN (L.take k) + (if s.k = 2 then 1 else 0) := by
  rw [List.take_succ, h, leftN, leftN, List.filter_append, List.length_append]
  by_cases h1 : s.k = 2
  · simp [h1]
  · simp [h1]
theorem left_le (L : List Sn) : leftN L ≤ L.length := List.length_filter_le _ _

set_option maxRecDepth 100000 in
set_option maxHeartbeats 8000000 in
theorem walkOrderWaits (w : World) (cores : Int) (_ : (Lit.int .i64 cores).wf = true) (v : Value) (rows : List (List Value)) (hs : Src w v rows.length 10 rows.flatten) (hr : ∀ x ∈ rows, Flat2Ok w ksSeen x) (hm : rows.length ≤ maxLen) :
    Calls Try.prog 5 #[.int .i64 cores, v] w fun e w' => e = .returned (.bool true) ∧ Below w.heap.size w w' := by
  obtain ⟨ao0, c0, rfl, -⟩ := id hs
  have hbound := bound_rows w _ rows hs hr hm
  have Hbound := Lib.hid hbound
  clear hbound hr hm hs
  obtain ⟨m, hmm, a0, a1⟩ := and_small cores 3 (by decide)
  simp only [Int.reducePow, Int.reduceSub] at hmm a1
  obtain ⟨m, rfl⟩ := Int.eq_ofNat_of_zero_le a0
  obtain ⟨n, hn⟩ : ∃ n : Nat, n = 1 + m := ⟨_, rfl⟩
  have hw1 : IntKind.i64.wrap (1 + (m : Int)) = (n : Int) := by rw [IntKind.wrap_i64]; omega
  have hn1 : 1 ≤ n := by omega
  have hn2 : n ≤ 8 := by omega
  clear hn a0 a1
  go_enter Try.func5, Try.ntmps5
  go_wp2_with fail
  refine Hbound.out.mono ?_
  rintro e w1 ⟨ao, len, c, M, rfl, hlen, hlc, hl60, hS, hk1⟩
  obtain ⟨len2, hlen2⟩ : ∃ l, l = (cutM n M).length := ⟨_, rfl⟩
  obtain ⟨M2, hM2⟩ : ∃ X, X = cutM n M := ⟨_, rfl⟩
  obtain ⟨ra, hra⟩ : ∃ ra, (goE n [] 0 M 0).1 = ra := ⟨_, rfl⟩
  have hgo := cutM_go n M
  rw [← hM2] at hgo hlen2
  obtain ⟨E, hE⟩ : ∃ E, (goE n [] 0 M2 0).2.1 = E := ⟨_, rfl⟩
  obtain ⟨mw, hmw⟩ : ∃ mw, (goE n [] 0 M2 0).2.2 = mw := ⟨_, rfl⟩
  have hg2 : goE n [] 0 M2 0 = (-1, E, mw) := Prod.ext hgo (Prod.ext hE hmw)
  have hS2 : Sd w1 (.slice ao len2 c) M2 ∧ len2 ≤ 60 ∧ len2 ≤ c := by
    rcases cutM_cases n M with ⟨-, h2⟩ | ⟨k, -, h2, h3⟩
    · rw [hlen2, hM2, h2, ← hlen]; exact ⟨hS, hl60, hlc⟩
    · have hk : M2.length = k := by rw [hM2, h3, List.length_take]; omega
      rw [hlen2, hk, hM2, h3]
      exact ⟨hS.take (by omega), by omega, by omega⟩
  have hcut : (ra = -1 ∧ len2 = len) ∨ (ra = (len2 : Int) ∧ len2 < len) := by
    rcases cutM_cases n M with ⟨h1, h2⟩ | ⟨k, h1, h2, h3⟩
    · left; rw [← hra, hlen2, hM2, h2]; exact ⟨h1, hlen.symm⟩
    · right
      have hk : M2.length = k := by rw [hM2, h3, List.length_take]; omega
      rw [← hra, hlen2, hk]
      exact ⟨h1, by omega⟩
  have hf1 := hS.first (Kept.refl _ _) n hn1 hn2 ra hra
  have Hf1 := Lib.hid hf1
  have HS2 := Lib.hid hS2.1
  have hl2 := hS2.2.1
  have hl2c := hS2.2.2
  have Hcut := Lib.hid hcut
  have Hg2 := Lib.hid hg2
  have Hlen2 := Lib.hid hlen2
  have HE := Lib.hid hE
  have Hmw := Lib.hid hmw
  have HK := Lib.hid hk1
  clear Hbound hlen hS hk1 hra hM2 hgo hS2 hf1 hcut hg2 hlen2 hE hmw
  go_wp2_with fail
  refine Hf1.out.mono ?_
  rintro e w2 ⟨rfl, hk2⟩
  go_upto_if 23 with fail
  go_cut [5] (fun s7 wx => s7 = .slice ao len2 c ∧ wx = w2)
  case first =>
    rcases Hcut.out with ⟨rfl, rfl⟩ | ⟨rfl, hlt⟩
    · go_wp2_with fail
      go_meet
      exact ⟨rfl, rfl⟩
    · have hltz : (len2 : Int) < (len : Int) := by omega
      have hle : ¬ (len : Int) < (len2 : Int) := by omega
      go_wp2_with fail
      go_meet
      exact ⟨rfl, rfl⟩
  case rest =>
    obtain ⟨rfl, rfl⟩ := hcut
    have HS3 := Lib.hid (HS2.out.same hk2)
    have HK2 := Lib.hid (HK.out.trans hk2)
    have Hlaw := Lib.hid (waits_law hn1 Hg2.out)
    clear hk2 Hf1 HK HS2 Hcut
    go_wp2_with fail
    go_loopw [8, 9] (fun l i wr => ∃ (j lf : Nat), j ≤ len2 ∧ l = .int .i64 lf ∧ i = .int .i64 j ∧ Hid (leftN (M2.take j) = lf) ∧ lf ≤ j ∧ wr = wc) (fun _ i _ => len2 - (intOf i).toNat)
    case atStart => exact ⟨0, 0, by omega, rfl, rfl, rfl, by omega, rfl⟩
    case round =>
      obtain ⟨j, lf, hj, rfl, rfl, Hlf, hlj, rfl⟩ := hrel
      by_cases h1 : j < len2
      · have h1z : (j : Int) < (len2 : Int) := by omega
        obtain ⟨s, hs⟩ : ∃ s, M2[j]? = some s := ⟨_, List.getElem?_eq_getElem (by have := Hlen2.out; omega)⟩
        obtain ⟨-, ao', c', he, hcl⟩ := HS3.out.src.seen
        simp only [Value.slice.injEq] at he
        obtain ⟨rfl, -, rfl⟩ := he
        obtain ⟨B, Of, rfl, d0, -⟩ := hcl j s hs
        have hnext := left_take hs
        rw [Hlf.out] at hnext
        have Hnext := Lib.hid hnext
        obtain ⟨sk, hsk⟩ : ∃ k, k = s.k := ⟨_, rfl⟩
        rw [← hsk] at d0
        have Hsk := Lib.hid hsk
        clear hcl hs hnext hsk
        by_cases h2 : sk = 2
        · have hb : (sk == 2) = true := by simpa using h2
          have H2 := Lib.hid h2
          clear h2
          go_wp2_with fail
          go_roundw
          case rel => exact ⟨j + 1, lf + 1, by omega, by go_num, by go_num, by rw [Hid, Hnext.out, if_pos (by rw [← Hsk.out]; exact H2.out)], by omega, by trivial⟩
          case measure => simp [intOf]; omega
        · have hb : (sk == 2) = false := by simpa using h2
          have H2 := Lib.hid h2
          clear h2
          go_wp2_with fail
          go_roundw
          case rel => exact ⟨j + 1, lf, by omega, rfl, by go_num, by rw [Hid, Hnext.out, if_neg (by rw [← Hsk.out]; exact H2.out), Nat.add_zero], by omega, by trivial⟩
          case measure => simp [intOf]; omega
      · obtain rfl : len2 = j := by omega
        have hlf := Hlf.out
        rw [List.take_of_length_le (by have := Hlen2.out; omega)] at hlf
        have HlfM := Lib.hid hlf
        clear Hlf hlf
        go_wp2_with fail
        refine (HS3.out.line (Kept.refl _ _) n hn1 hn2 E HE.out).mono ?_
        rintro e w3 ⟨aoL, cL, rfl, hsL, hk3⟩
        obtain ⟨eL, heL⟩ : ∃ l, l = E.length := ⟨_, rfl⟩
        obtain ⟨C, hC⟩ : ∃ C, C = coreL E := ⟨_, rfl⟩
        rw [← heL, ← hC] at hsL
        rw [← heL]
        obtain ⟨dn, hdn⟩ : ∃ dn, dn = (callsE M2).length := ⟨_, rfl⟩
        have Hdn := Lib.hid hdn
        have Hcalls := Lib.hid ((HS3.out.same hk3).calls (Kept.refl _ _) _ rfl)
        have HsL := Lib.hid hsL
        have HeL := Lib.hid heL
        have HC := Lib.hid hC
        clear hsL heL hC hdn
        go_wp2_with fail
        refine Hcalls.out.mono ?_
        rintro e w4 ⟨aoC, cC, rfl, -, hk4⟩
        rw [← Hdn.out]
        have heL8 : eL ≤ n := by have := Hlaw.out.2.1; rw [← HeL.out] at this; exact this
        have hmwn : mw < n := Hlaw.out.2.2.1
        have hdl : dn = lf ∨ dn = lf + 1 := by have := Hlaw.out.2.2.2; rw [← Hdn.out, HlfM.out] at this; exact this
        have hnd : C.Nodup := by rw [HC.out]; exact Hlaw.out.1
        obtain ⟨hCl, aoL', cL', hv, hcell⟩ := HsL.out.intsA
        simp only [Value.slice.injEq, true_and] at hv
        obtain ⟨rfl, rfl⟩ := hv
        have HK4 := Lib.hid (HK2.out.trans (hk3.trans hk4))
        have hcell4 : ∀ i, i < eL → ∃ B O, aoL = some ⟨B, O, none⟩ ∧ w4.cell? ⟨B, O + i, none⟩ = some (.int .i64 (C.getD i 0)) := fun i hi => by
          obtain ⟨B, O, e, hc⟩ := hcell i hi
          exact ⟨B, O, e, cell_kept hk4 hc (fun h => h)⟩
        have Hcell := Lib.hid hcell4
        have HS4 := Lib.hid (HS3.out.same (hk3.trans hk4))
        have Hnd : Hid (∀ i j, i < eL → j < i → C.getD i 0 ≠ C.getD j 0) := fun i j hi hj e => by
          have h1 : i < C.length := by omega
          have h2 : j < C.length := by omega
          simp only [List.getD_eq_getElem?_getD, List.getElem?_eq_getElem h1, List.getElem?_eq_getElem h2, Option.getD_some] at e
          exact (List.pairwise_iff_getElem.1 hnd) j i h2 h1 hj e.symm
        clear Hcalls HsL HeL HC hnd hcell hcell4 hk3 hk4 HS3 HK2
        go_wp2_with fail
        go_loopw [12] (fun i wx => ∃ j : Nat, j ≤ eL ∧ i = .int .i64 j ∧ Hid (New w4 wx)) (fun i _ => eL - (intOf i).toNat)
        case atStart => exact ⟨0, by omega, rfl, Kept.refl _ _⟩
        case round =>
          obtain ⟨j, hj, rfl, HNj⟩ := hrel
          by_cases h1 : j < eL
          · have h1z : (j : Int) < (eL : Int) := by omega
            obtain ⟨wj, hwj⟩ : ∃ x, x = wr := ⟨_, rfl⟩
            rw [← hwj] at HNj ⊢
            clear hwj
            go_wp2_with fail
            go_loopw [13] (fun i wx => ∃ k : Nat, k ≤ j ∧ i = .int .i64 k ∧ Hid (New w4 wx)) (fun i _ => j - (intOf i).toNat)
            case atStart => exact ⟨0, by omega, rfl, HNj⟩
            case round =>
              obtain ⟨k, hk, rfl, HNk⟩ := hrel
              by_cases h2 : k < j
              · have h2z : (k : Int) < (j : Int) := by omega
                have h3z : (k : Int) < (eL : Int) := by omega
                have hne := Hnd.out j k h1 h2
                obtain ⟨B, Of, rfl, hc1⟩ := Hcell.out j h1
                obtain ⟨B2, Of2, he, hc2⟩ := Hcell.out k (by omega)
                simp only [Option.some.injEq, Addr.mk.injEq, and_true] at he
                obtain ⟨rfl, rfl⟩ := he
                replace hc1 := cell_kept HNk.out hc1 (fun h => h)
                replace hc2 := cell_kept HNk.out hc2 (fun h => h)
                obtain ⟨x, hx⟩ : ∃ x, x = C.getD j 0 := ⟨_, rfl⟩
                obtain ⟨y, hy⟩ : ∃ y, y = C.getD k 0 := ⟨_, rfl⟩
                rw [← hx] at hc1 hne
                rw [← hy] at hc2 hne
                have hb : (x == y) = false := by simpa using hne
                clear hx hy hne
                go_wp2_with fail
                go_quiet (fail)
                go_wp2_with fail
                go_roundw
                case rel => exact ⟨k + 1, by omega, by go_num, HNk.out.drewN _⟩
                case measure => simp [intOf]; omega
              · obtain rfl : j = k := by omega
                go_wp2_with fail
                go_roundw
                case rel => exact ⟨j + 1, by omega, by go_num, HNk⟩
                case measure => simp [intOf]; omega
          · obtain rfl : eL = j := by omega
            have hlez : ¬ (n : Int) < (eL : Int) := by omega
            have hmz : (mw : Int) < (n : Int) := by omega
            have hwl : IntKind.i64.wrap ((lf : Int) + 1) = ((lf + 1 : Nat) : Int) := by rw [IntKind.wrap_i64]; omega
            obtain ⟨lf1, hlf1⟩ : ∃ x, x = lf + 1 := ⟨_, rfl⟩
            rw [← hlf1] at hwl hdl
            have Hlf1 := Lib.hid hlf1
            clear hlf1
            have hk5 := HNj.out
            go_wp2_with fail
            refine ((HS4.out.same hk5).waits hk5 n hn1 hn2 mw Hmw.out).mono ?_
            rintro e w6 ⟨rfl, hk6⟩
            have hfix := Lib.hid (fixed_new hk6)
            rcases hdl with rfl | rfl
            · go_wp2_with fail
              refine hfix.out.mono ?_
              rintro e w8 ⟨rfl, hk8⟩
              go_wp2_with fail
              go_ret
              exact ⟨rfl, none_below (HK4.out.trans hk8)⟩
            · have hne : ((dn : Int) == (lf : Int)) = false := by have := Hlf1.out; simp; omega
              go_wp2_with fail
              refine hfix.out.mono ?_
              rintro e w8 ⟨rfl, hk8⟩
              go_wp2_with fail
              go_ret
              exact ⟨rfl, none_below (HK4.out.trans hk8)⟩
end Go.Proofs.Ytjimjkfnpklhiaa

/- The reference of package order: May. -/
import Derived.Test.YtjimjkfnpklhiaaOrdQ
import Derived.Deep.DeepCutAuto
set_option linter.all false
namespace Go.Proofs.Ytjimjkfnpklhiaa
open Go.RowKit Go.Maps

theorem mem_take_next {l : List Int} {j : Nat} {x k : Int} (h : l[j]? = some x) : decide (k ∈ l.take (j + 1)) = (decide (k ∈ l.take j) || x == k) := by
  rw [List.take_succ, h]
  simp only [Option.toList_some, List.mem_append, List.mem_singleton, Bool.decide_or]
  by_cases e : x = k
  · simp [e]
  · have : ¬ k = x := fun e' => e e'.symm
    simp [e, this]
theorem core_head {E : List En} {x : En} (h : E.head? = some x) : (coreL E).head? = some x.c := by
  cases E with
  | nil => cases h
  | cons y l => obtain rfl : y = x := by simpa using h
                rfl
theorem head_core {E : List En} {c : Int} (h : (coreL E).head? = some c) : ∃ x l, E = x :: l ∧ x.c = c := by
  cases E with
  | nil => cases h
  | cons y l => exact ⟨y, l, rfl, Option.some.inj h⟩

set_option maxRecDepth 100000 in
set_option maxHeartbeats 8000000 in
theorem rmay_any {w : World} {ao : Option Addr} {len c : Nat} {L : List Sn} (h : Sd w (.slice ao len c) L) (n : Nat) (hn1 : 1 ≤ n) (hn8 : n ≤ 8) (k : Nat) (E : List En) (m : Nat) (hok : Ok n L k E m) (s : Sn) (hs : L[k]? = some s) (r : Bool) (hr : (decide (¬ (s.c < 0 ∨ (n : Int) ≤ s.c)) && (mayE E m s).1) = r) :
    Calls Try.prog 22 #[.int .i64 n, .slice ao len c, .int .i64 k] w fun e w' => e = .returned (.bool r) ∧ New w w' := by
  have hlen := h.num
  have hl61 := h.len
  have hk := lt_of_some hs
  have H := Lib.hid h
  have Hs := Lib.hid hs
  have Hok := Lib.hid hok
  have Hlen := Lib.hid hlen
  have Hr := Lib.hid hr
  have hkl : k < len := by omega
  have hklz : (k : Int) < (len : Int) := by omega
  have hk0 : (0 : Int) ≤ (k : Int) := by omega
  have hk61 : k < 61 := by omega
  obtain ⟨B, Of, rfl, d0, d1, d2, d3, d4, d5, d6, d7, d8, d9⟩ := h.cells hs
  obtain ⟨av, fl, cv, hvv⟩ : ∃ av fl cv, s.v = .slice av fl cv := by obtain ⟨av, cv, e, -⟩ := (h.all s (List.mem_of_getElem? hs)).1; exact ⟨av, _, cv, e⟩
  obtain ⟨sk, hsk⟩ : ∃ x, x = s.k := ⟨_, rfl⟩
  obtain ⟨sc, hsc⟩ : ∃ x, x = s.c := ⟨_, rfl⟩
  obtain ⟨sn, hsn⟩ : ∃ x, x = s.n := ⟨_, rfl⟩
  obtain ⟨te, hte⟩ : ∃ x, x = s.t.e := ⟨_, rfl⟩
  obtain ⟨tw, htw⟩ : ∃ x, x = s.t.w := ⟨_, rfl⟩
  obtain ⟨tk, htk⟩ : ∃ x, x = s.t.k := ⟨_, rfl⟩
  obtain ⟨sfr, hsfr⟩ : ∃ x, x = s.fr := ⟨_, rfl⟩
  obtain ⟨srt, hsrt⟩ : ∃ x, x = s.rt := ⟨_, rfl⟩
  obtain ⟨sis, hsis⟩ : ∃ x, x = s.is := ⟨_, rfl⟩
  rw [← hsk] at d0
  rw [← hsc] at d1
  rw [← hsn] at d2
  rw [← hte] at d3
  rw [← htw] at d4
  rw [← htk] at d5
  rw [hvv] at d6
  rw [← hsfr] at d7
  rw [← hsrt] at d8
  rw [← hsis] at d9
  have Hsk := Lib.hid hsk
  have Hsc := Lib.hid hsc
  have Hsn := Lib.hid hsn
  have Hte := Lib.hid hte
  have Htw := Lib.hid htw
  have Htk := Lib.hid htk
  have Hvv := Lib.hid hvv
  have hnz1 : ¬ (n : Int) < 1 := by omega
  have hnz8 : ¬ (8 : Int) < (n : Int) := by omega
  clear h hs hok hlen hr hl61 hk hsk hsc hsn hte htw htk hvv hsfr hsrt hsis
  go_enter Try.func22, Try.ntmps22
  go_upto_region 2 with fail
  obtain ⟨W1, hW1⟩ : ∃ X, X = w.alloc (.cells #[.int .i64 sk, .int .i64 sc, .int .i64 sn, .int .i64 te, .int .u64 tw, .int .i64 tk, .slice av fl cv, .int .i64 sfr, .int .i64 srt, .bool sis] 40) := ⟨_, rfl⟩
  rw [← hW1]
  have k1 : New w W1 := by rw [hW1]; exact (Kept.refl _ _).alloc _
  obtain ⟨p, hp⟩ : ∃ p, p = w.heap.size := ⟨_, rfl⟩
  have hb : W1.heap[p]? = some (.cells #[.int .i64 sk, .int .i64 sc, .int .i64 sn, .int .i64 te, .int .u64 tw, .int .i64 tk, .slice av fl cv, .int .i64 sfr, .int .i64 srt, .bool sis] 40 (0, 0)) := by rw [hW1, hp]; exact heap_alloc_new _ _
  rw [← hp]
  have Hb := Lib.hid hb
  have K1 := Lib.hid k1
  have e1 := cell_blk hb 1
  simp at e1
  clear d0 d1 d2 d3 d4 d5 d6 d7 d8 d9 hW1 hp hb k1
  by_cases hc0 : sc < 0
  · have hres : r = false := by rw [← Hr.out, decide_eq_false (fun h => h (.inl (by rw [← Hsc.out]; exact hc0)))]; rfl
    have Hres := Lib.hid hres
    clear hres
    go_wp2_with fail
    go_ret
    exact ⟨by rw [Hres.out]; rfl, K1.out⟩
  · by_cases hcn : (n : Int) ≤ sc
    · have hres : r = false := by rw [← Hr.out, decide_eq_false (fun h => h (.inr (by rw [← Hsc.out]; exact hcn)))]; rfl
      have Hres := Lib.hid hres
      clear hres
      go_wp2_with fail
      go_ret
      exact ⟨by rw [Hres.out]; rfl, K1.out⟩
    · have hr2 : (mayE E m s).1 = r := by
        have := Hr.out
        rw [decide_eq_true (by rw [← Hsc.out]; omega), Bool.true_and] at this
        exact this
      have Hr2 := Lib.hid hr2
      have hline := rline_any (H.out.same K1.out) n hn1 hn8 k (by omega) E m Hok.out.go
      have Hline := Lib.hid hline
      clear hr2 hline Hr
      go_wp2_with fail
      refine Hline.out.mono ?_
      rintro e w2 ⟨vL, rfl, hown, hk2⟩
      obtain ⟨C, hC⟩ : ∃ x, x = coreL E := ⟨_, rfl⟩
      rw [← hC] at hown
      obtain ⟨aoL, cL, rfl, -, hsL, -⟩ := own_row hown
      obtain ⟨hCl, aoL', cL', hv, hcell⟩ := hsL.intsA
      simp only [Value.slice.injEq, true_and] at hv
      obtain ⟨rfl, rfl⟩ := hv
      obtain ⟨eL, heL⟩ : ∃ x, x = C.length := ⟨_, rfl⟩
      rw [← heL] at hcell ⊢
      have heL8 : eL ≤ 8 := by
        have h9 : E.length ≤ n := (waits_law hn1 Hok.out.go).2.1
        have h10 : C.length = E.length := by rw [hC]; simp [coreL]
        omega
      have Hcell := Lib.hid hcell
      have HeL := Lib.hid heL
      have HC := Lib.hid hC
      have hbp := hk2.heap Hb.out (fun h => h)
      have HB := Lib.hid hbp
      have HK := Lib.hid (K1.out.trans hk2)
      clear hsL hcell hCl heL hC hown Hline hk2 Hb K1 hbp e1
      obtain ⟨fst, hfst⟩ : ∃ f, f = decide (C.head? = some sc) := ⟨_, rfl⟩
      have Hfst := Lib.hid hfst
      clear hfst
      go_upto_region 5 with fail
      go_cut [9, 10] (fun s9 s10 wx => s9 = .bool false ∧ s10 = .bool fst ∧ Hid (New w2 wx))
      case first =>
        have e1 := cell_blk HB.out 1
        simp at e1
        rcases Nat.eq_zero_or_pos eL with h0 | h0
        · have hf : fst = false := by
            have : C = [] := List.eq_nil_of_length_eq_zero (by rw [← HeL.out]; exact h0)
            rw [Hfst.out, this]; rfl
          subst h0
          have Hf := Lib.hid hf
          clear hf
          go_quiet (fail)
          go_wp2_with fail
          go_meet
          exact ⟨rfl, by rw [Hf.out], (Kept.refl _ _).drewN _⟩
        · obtain ⟨B2, O2, rfl, hc0'⟩ := Hcell.out 0 h0
          obtain ⟨a, ha⟩ : ∃ x, x = C.getD 0 0 := ⟨_, rfl⟩
          rw [← ha, Nat.add_zero] at hc0'
          have hf : fst = (a == sc) := by
            obtain ⟨a', l, hl⟩ : ∃ a' l, C = a' :: l := by
              cases hC0 : C with
              | nil => have := HeL.out; rw [hC0] at this; simp at this; omega
              | cons a' l => exact ⟨a', l, rfl⟩
            rw [Hfst.out, ha, hl]
            by_cases e : a' = sc
            · simp [e]
            · simp [e]
          have Hf := Lib.hid hf
          have h0z : (0 : Int) < (eL : Int) := by omega
          clear hf ha
          go_quiet (fail)
          go_wp2_with fail
          go_meet
          exact ⟨rfl, by rw [Hf.out], (Kept.refl _ _).drewN _⟩
      case rest =>
        obtain ⟨rfl, rfl, HN⟩ := hcut
        go_wp2_with fail
        go_loopw [9, 11] (fun t i wr => ∃ (j : Nat) (th : Bool), j ≤ eL ∧ t = .bool th ∧ i = .int .i64 j ∧ Hid (decide (sc ∈ C.take j) = th) ∧ Hid (New w2 wr)) (fun _ i _ => eL - (intOf i).toNat)
        case atStart => exact ⟨0, false, by omega, rfl, rfl, by simp [Hid], HN⟩
        case round =>
          obtain ⟨j, th, hj, rfl, rfl, Hth, HNr⟩ := hrel
          by_cases h1 : j < eL
          · have h1z : (j : Int) < (eL : Int) := by omega
            obtain ⟨B2, O2, rfl, hcj⟩ := Hcell.out j h1
            obtain ⟨x, hx⟩ : ∃ x, x = C.getD j 0 := ⟨_, rfl⟩
            rw [← hx] at hcj
            replace hcj := cell_kept HNr.out hcj (fun h => h)
            have e1 := cell_blk (HNr.out.heap HB.out (fun h => h)) 1
            simp at e1
            have hxj : C[j]? = some x := by rw [hx, List.getD_eq_getElem?_getD, List.getElem?_eq_getElem (by have := HeL.out; omega)]; rfl
            have hnext := mem_take_next (k := sc) hxj
            rw [Hth.out] at hnext
            have Hnext := Lib.hid hnext
            clear hnext hxj hx
            cases th with
            | true =>
              go_wp2_with fail
              go_quiet (fail)
              go_wp2_with fail
              go_roundw
              case rel => exact ⟨j + 1, true, by omega, rfl, by go_num, by rw [Hid, Hnext.out]; rfl, HNr.out.drewN _⟩
              case measure => simp [intOf] <;> omega
            | false =>
              by_cases hxq : x = sc
              · have hb : (x == sc) = true := by simpa using hxq
                have Hxq := Lib.hid hxq
                clear hxq
                go_wp2_with fail
                go_quiet (fail)
                go_wp2_with fail
                go_roundw
                case rel => exact ⟨j + 1, true, by omega, rfl, by go_num, by rw [Hid, Hnext.out, hb]; rfl, HNr.out.drewN _⟩
                case measure => simp [intOf] <;> omega
              · have hb : (x == sc) = false := by simpa using hxq
                have Hxq := Lib.hid hxq
                clear hxq
                go_wp2_with fail
                go_quiet (fail)
                go_wp2_with fail
                go_roundw
                case rel => exact ⟨j + 1, false, by omega, rfl, by go_num, by rw [Hid, Hnext.out, hb]; rfl, HNr.out.drewN _⟩
                case measure => simp [intOf] <;> omega
          · obtain rfl : eL = j := by omega
            have hth := Hth.out
            rw [List.take_of_length_le (by have := HeL.out; omega)] at hth
            have Hin := Lib.hid hth
            obtain ⟨en, hen⟩ : ∃ x, lastF L s.c 0 k = x := ⟨_, rfl⟩
            obtain ⟨di, hdi⟩ : ∃ x, lastF L s.c 1 k = x := ⟨_, rfl⟩
            have hS0 := H.out.same (HK.out.trans HNr.out)
            have hl1 := rlast_any hS0 k s Hs.out 0 en hen
            have Hl1 := Lib.hid hl1
            have HS0 := Lib.hid hS0
            have Hen := Lib.hid hen
            have Hdi := Lib.hid hdi
            clear Hth hth hl1 hS0 hen hdi Hcell
            go_wp2_with fail
            refine Hl1.out.mono ?_
            rintro e w4 ⟨rfl, hk4⟩
            have Hl2 := Lib.hid (rlast_any (HS0.out.same hk4) k s Hs.out 1 di Hdi.out)
            go_wp2_with fail
            refine Hl2.out.mono ?_
            rintro e w5 ⟨rfl, hk5⟩
            have HS5 := Lib.hid (HS0.out.same (hk4.trans hk5))
            have HK5 := Lib.hid (HK.out.trans (HNr.out.trans (hk4.trans hk5)))
            have HB5 := Lib.hid ((HNr.out.trans (hk4.trans hk5)).heap HB.out (fun h => h))
            clear Hl1 Hl2 hk4 hk5 HS0 HB HNr HN HK H
            have c0 := cell_blk HB5.out 0
            have c1 := cell_blk HB5.out 1
            have c2 := cell_blk HB5.out 2
            have c3 := cell_blk HB5.out 3
            have c4 := cell_blk HB5.out 4
            have c5 := cell_blk HB5.out 5
            have c6 := cell_blk HB5.out 6
            simp at c0 c1 c2 c3 c4 c5 c6
            by_cases q0 : sk = 0 ∨ sk = 3
            · have hres : r = !th := by
                rw [← Hr2.out, ← Hin.out, HC.out, Hsc.out]
                rcases q0 with q0 | q0
                · unfold mayE
                  rw [if_pos (by rw [← Hsk.out]; exact q0)]
                  by_cases hin : s.c ∈ coreL E
                  · rw [if_pos hin]; simp [hin]
                  · rw [if_neg hin]; simp [hin]
                · rw [mayE3 (by rw [← Hsk.out]; exact q0)]
                  show decide (s.c ∉ coreL E) = !decide (s.c ∈ coreL E)
                  by_cases hin : s.c ∈ coreL E
                  · rw [decide_eq_true hin, decide_eq_false (fun h' => h' hin)]; rfl
                  · rw [decide_eq_false hin, decide_eq_true hin]; rfl
              have Hres := Lib.hid hres
              clear hres
              rcases q0 with rfl | rfl
              · go_wp2_with fail
                go_ret
                exact ⟨by rw [Hres.out]; rfl, HK5.out⟩
              · go_wp2_with fail
                go_ret
                exact ⟨by rw [Hres.out]; rfl, HK5.out⟩
            · have n0 : ¬ sk = 0 := fun h => q0 (.inl h)
              have n3 : ¬ sk = 3 := fun h => q0 (.inr h)
              clear q0
              by_cases q4 : sk = 4 ∨ sk = 5
              · have hres : r = ((eL : Int) == 0) := by
                  rw [← Hr2.out, mayE4 (by rw [← Hsk.out]; exact q4)]
                  have h9 : eL = E.length := by rw [HeL.out, HC.out]; simp [coreL]
                  cases E with
                  | nil => simp at h9; simp [h9]
                  | cons x l => simp at h9; simp; omega
                have Hres := Lib.hid hres
                clear hres
                rcases q4 with rfl | rfl
                · go_wp2_with fail
                  go_ret
                  exact ⟨by rw [Hres.out]; rfl, HK5.out⟩
                · go_wp2_with fail
                  go_ret
                  exact ⟨by rw [Hres.out]; rfl, HK5.out⟩
              · have n4 : ¬ sk = 4 := fun h => q4 (.inl h)
                have n5 : ¬ sk = 5 := fun h => q4 (.inr h)
                clear q4
                by_cases q1 : sk = 1
                · subst q1
                  have hsk1 : s.k = 1 := Hsk.out.symm
                  cases hf : fst with
                  | false =>
                    have hres : r = false := by
                      rw [← Hr2.out, mayE1_no hsk1 (fun x hx h' => by
                        have h9 := Hfst.out
                        rw [hf, HC.out, core_head hx, h'.1, ← Hsc.out] at h9
                        simp at h9)]
                    have Hres := Lib.hid hres
                    subst hf
                    clear hres
                    go_wp2_with fail
                    go_quiet (fail)
                    go_wp2_with fail
                    go_ret
                    exact ⟨by rw [Hres.out]; rfl, HK5.out.drewN _⟩
                  | true =>
                    subst hf
                    obtain ⟨x, l, hE, hxc⟩ := head_core (by rw [← HC.out]; exact of_decide_eq_true Hfst.out.symm)
                    obtain ⟨e, z, g1, g2, g3, g4, -, g6, g7⟩ := Hok.out.hist.ent x (by rw [hE]; simp)
                    rw [hxc, Hsc.out] at g1 g6 g7
                    obtain rfl : (e : Int) = en := by rw [← Hen.out]; exact g1.symm
                    obtain ⟨B2, Of2, he, -, -, b2, -⟩ := HS5.out.cells g3
                    simp only [Option.some.injEq, Addr.mk.injEq, and_true] at he
                    obtain ⟨rfl, rfl⟩ := he
                    obtain ⟨zn, hzn⟩ : ∃ y, y = z.n := ⟨_, rfl⟩
                    rw [← hzn] at b2 g4
                    have he0 : (0 : Int) ≤ (e : Int) := by omega
                    have hel : (e : Int) < (len : Int) := by omega
                    rw [Hdi.out] at g6
                    have Hg4 := Lib.hid g4
                    have HEx := Lib.hid hE
                    have Hxc := Lib.hid hxc
                    have G6 := Lib.hid g6
                    have G7 := Lib.hid g7
                    clear g1 g3 g4 g6 g7 hE hxc hzn
                    by_cases hnn : zn = sn
                    · have bn : (zn == sn) = true := by simpa using hnn
                      have Hnn := Lib.hid hnn
                      clear hnn
                      cases hd : x.did with
                      | false =>
                        have hlt : di < (e : Int) := G6.out hd
                        have hltb : decide (di < (e : Int)) = true := decide_eq_true hlt
                        have hres : r = true := by
                          rw [← Hr2.out, HEx.out, mayE1_yes hsk1 (by rw [Hxc.out, Hsc.out]) (by rw [← Hg4.out, Hnn.out, Hsn.out]) hd]
                        have Hres := Lib.hid hres
                        clear hres hd
                        go_wp2_with fail
                        go_quiet (fail)
                        go_wp2_with fail
                        go_ret
                        exact ⟨by rw [Hres.out]; rfl, HK5.out.drewN _⟩
                      | true =>
                        obtain ⟨d, z', g8, g9, -, -⟩ := G7.out hd
                        rw [Hdi.out] at g8
                        have hlt : ¬ di < (e : Int) := by omega
                        have hltb : decide (di < (e : Int)) = false := decide_eq_false hlt
                        have hres : r = false := by
                          rw [← Hr2.out, HEx.out, mayE1_no hsk1 (fun y hy h' => by
                            obtain rfl : x = y := Option.some.inj hy
                            rw [hd] at h'; exact absurd h'.2.2 (by decide))]
                        have Hres := Lib.hid hres
                        clear hres hd g8 g9
                        go_wp2_with fail
                        go_quiet (fail)
                        go_wp2_with fail
                        go_ret
                        exact ⟨by rw [Hres.out]; rfl, HK5.out.drewN _⟩
                    · have bn : (zn == sn) = false := by simpa using hnn
                      have hres : r = false := by
                        rw [← Hr2.out, HEx.out, mayE1_no hsk1 (fun y hy h' => by
                          obtain rfl : x = y := Option.some.inj hy
                          exact hnn (by rw [Hg4.out, h'.2.1, Hsn.out]))]
                      have Hres := Lib.hid hres
                      clear hres hnn
                      go_wp2_with fail
                      go_quiet (fail)
                      go_wp2_with fail
                      go_ret
                      exact ⟨by rw [Hres.out]; rfl, HK5.out.drewN _⟩
                · by_cases q2 : sk = 2
                  · subst q2
                    have hsk1 : s.k = 2 := Hsk.out.symm
                    cases hf : fst with
                    | false =>
                      have hres : r = false := by
                        rw [← Hr2.out, mayE2_no hsk1 (fun x hx h' => by
                          have h9 := Hfst.out
                          rw [hf, HC.out, core_head hx, h'.1, ← Hsc.out] at h9
                          simp at h9)]
                      have Hres := Lib.hid hres
                      subst hf
                      clear hres
                      go_wp2_with fail
                      go_quiet (fail)
                      go_wp2_with fail
                      go_ret
                      exact ⟨by rw [Hres.out]; rfl, HK5.out.drewN _⟩
                    | true =>
                      subst hf
                      obtain ⟨x, l, hE, hxc⟩ := head_core (by rw [← HC.out]; exact of_decide_eq_true Hfst.out.symm)
                      obtain ⟨e, z, g1, g2, g3, g4, -, g6, g7⟩ := Hok.out.hist.ent x (by rw [hE]; simp)
                      rw [hxc, Hsc.out] at g1 g6 g7
                      obtain rfl : (e : Int) = en := by rw [← Hen.out]; exact g1.symm
                      obtain ⟨B2, Of2, he, -, -, b2, -⟩ := HS5.out.cells g3
                      simp only [Option.some.injEq, Addr.mk.injEq, and_true] at he
                      obtain ⟨rfl, rfl⟩ := he
                      obtain ⟨zn, hzn⟩ : ∃ y, y = z.n := ⟨_, rfl⟩
                      rw [← hzn] at b2 g4
                      have he0 : (0 : Int) ≤ (e : Int) := by omega
                      have hel : (e : Int) < (len : Int) := by omega
                      rw [Hdi.out] at g6
                      have Hg4 := Lib.hid g4
                      have HEx := Lib.hid hE
                      have Hxc := Lib.hid hxc
                      have G6 := Lib.hid g6
                      have G7 := Lib.hid g7
                      clear g1 g3 g4 g6 g7 hE hxc hzn
                      by_cases hnn : zn = sn
                      · have bn : (zn == sn) = true := by simpa using hnn
                        have Hnn := Lib.hid hnn
                        clear hnn
                        cases hd : x.did with
                        | false =>
                          have hlt0 : di < (e : Int) := G6.out hd
                          have hlt : ¬ (e : Int) < di := by omega
                          have hltb : decide ((e : Int) < di) = false := decide_eq_false hlt
                          have hres : r = false := by
                            rw [← Hr2.out, HEx.out, mayE2_no hsk1 (fun y hy h' => by
                              obtain rfl : x = y := Option.some.inj hy
                              rw [hd] at h'; exact absurd h'.2.2.1 (by decide))]
                          have Hres := Lib.hid hres
                          clear hres hd hlt0
                          go_wp2_with fail
                          go_quiet (fail)
                          go_wp2_with fail
                          go_ret
                          exact ⟨by rw [Hres.out]; rfl, HK5.out.drewN _⟩
                        | true =>
                          obtain ⟨d, z', g8, g9, g10, g11⟩ := G7.out hd
                          rw [Hdi.out] at g8
                          subst g8
                          have hres : r = decide (x.t = s.t) := by
                            rw [← Hr2.out, HEx.out]
                            by_cases ht : x.t = s.t
                            · rw [mayE2_yes hsk1 (by rw [Hxc.out, Hsc.out]) (by rw [← Hg4.out, Hnn.out, Hsn.out]) hd ht, decide_eq_true ht]
                            · rw [mayE2_no hsk1 (fun y hy h' => by
                                obtain rfl : x = y := Option.some.inj hy
                                exact ht h'.2.2.2), decide_eq_false ht]
                          have Hres := Lib.hid hres
                          have hdl : d < len := by have := lt_of_some g10; have := HS5.out.num; omega
                          have hd0 : (0 : Int) ≤ (d : Int) := by omega
                          have hdlz : (d : Int) < (len : Int) := by omega
                          obtain ⟨B2, Of2, he, -, -, -, f3, f4, f5, f6, -⟩ := HS5.out.cells g10
                          simp only [Option.some.injEq, Addr.mk.injEq, and_true] at he
                          obtain ⟨rfl, rfl⟩ := he
                          have hltb : decide ((e : Int) < (d : Int)) = true := decide_eq_true g9
                          have hS5 := HS5.out
                          have hsame : ∀ W, New w5 W → Calls Try.prog 29 #[.agg #[.int .i64 z'.t.e, .int .u64 z'.t.w, .int .i64 z'.t.k, z'.v], .agg #[.int .i64 te, .int .u64 tw, .int .i64 tk, .slice av fl cv]] W fun e w' => e = .returned (.bool r) ∧ New w5 w' := fun W kW => by
                            have a1 := (hS5.same kW).all z' (List.mem_of_getElem? g10)
                            have a2 := (hS5.same kW).all s (List.mem_of_getElem? Hs.out)
                            have := rsame_any z'.v s.v z'.t s.t W a1.1 a2.1 (by omega) (by omega) r (by rw [g11]; exact hres.symm)
                            simp only [toldV] at this
                            rw [← Hte.out, ← Htw.out, ← Htk.out, Hvv.out] at this
                            exact this.mono (fun e w' ⟨h1, h2⟩ => ⟨h1, kW.trans h2⟩)
                          have Hsame := Lib.hid hsame
                          have hsk : ∀ W, New w5 W → W.cell? ⟨B, Of + e * 10 + 2, none⟩ = some (.int .i64 zn) ∧ W.cell? ⟨B, Of + d * 10 + 3, none⟩ = some (.int .i64 z'.t.e) ∧ W.cell? ⟨B, Of + d * 10 + 4, none⟩ = some (.int .u64 z'.t.w) ∧ W.cell? ⟨B, Of + d * 10 + 5, none⟩ = some (.int .i64 z'.t.k) ∧ W.cell? ⟨B, Of + d * 10 + 6, none⟩ = some z'.v ∧ W.cell? ⟨p, 2, none⟩ = some (.int .i64 sn) ∧ W.cell? ⟨p, 3, none⟩ = some (.int .i64 te) ∧ W.cell? ⟨p, 4, none⟩ = some (.int .u64 tw) ∧ W.cell? ⟨p, 5, none⟩ = some (.int .i64 tk) ∧ W.cell? ⟨p, 6, none⟩ = some (.slice av fl cv) := fun W kW =>
                            ⟨cell_kept kW b2 (fun h => h), cell_kept kW f3 (fun h => h), cell_kept kW f4 (fun h => h), cell_kept kW f5 (fun h => h), cell_kept kW f6 (fun h => h), cell_kept kW c2 (fun h => h), cell_kept kW c3 (fun h => h), cell_kept kW c4 (fun h => h), cell_kept kW c5 (fun h => h), cell_kept kW c6 (fun h => h)⟩
                          have Hsk9 := Lib.hid hsk
                          have hd0' : New w5 w5.drew := (Kept.refl _ _).drew
                          clear hsk hsame hS5 hres hd g11 g10 Hres b2 f3 f4 f5 f6 c3 c4 c5 c6
                          go_wp2_with fail
                          go_region_held3 (fun W => W.cell? ⟨B, Of + e * 10 + 2, none⟩ = some (.int .i64 zn) ∧ W.cell? ⟨B, Of + d * 10 + 3, none⟩ = some (.int .i64 z'.t.e) ∧ W.cell? ⟨B, Of + d * 10 + 4, none⟩ = some (.int .u64 z'.t.w) ∧ W.cell? ⟨B, Of + d * 10 + 5, none⟩ = some (.int .i64 z'.t.k) ∧ W.cell? ⟨B, Of + d * 10 + 6, none⟩ = some z'.v ∧ W.cell? ⟨p, 2, none⟩ = some (.int .i64 sn) ∧ W.cell? ⟨p, 3, none⟩ = some (.int .i64 te) ∧ W.cell? ⟨p, 4, none⟩ = some (.int .u64 tw) ∧ W.cell? ⟨p, 5, none⟩ = some (.int .i64 tk) ∧ W.cell? ⟨p, 6, none⟩ = some (.slice av fl cv)) ((refine Hsk9.out _ ?_; with_reducible assumption))
                            (first
                              | (go_at_call 29; with_reducible refine (Hsame.out _ hd0').mono ?_; rintro e w' ⟨rfl, hk⟩))
                          go_wp2_with fail
                          go_ret
                          exact ⟨rfl, HK5.out.trans (by with_reducible assumption)⟩
                      · have bn : (zn == sn) = false := by simpa using hnn
                        have hres : r = false := by
                          rw [← Hr2.out, HEx.out, mayE2_no hsk1 (fun y hy h' => by
                            obtain rfl : x = y := Option.some.inj hy
                            exact hnn (by rw [Hg4.out, h'.2.1, Hsn.out]))]
                        have Hres := Lib.hid hres
                        clear hres hnn
                        go_wp2_with fail
                        go_quiet (fail)
                        go_wp2_with fail
                        go_ret
                        exact ⟨by rw [Hres.out]; rfl, HK5.out.drewN _⟩
                  · have hres : r = false := by rw [← Hr2.out, mayE6 (by rw [← Hsk.out]; exact n0) (by rw [← Hsk.out]; exact q1) (by rw [← Hsk.out]; exact q2) (by rw [← Hsk.out]; exact n3) (by rw [← Hsk.out]; exact n4) (by rw [← Hsk.out]; exact n5)]
                    have Hres := Lib.hid hres
                    clear hres
                    go_wp2_with fail
                    go_ret
                    exact ⟨by rw [Hres.out]; rfl, HK5.out⟩
end Go.Proofs.Ytjimjkfnpklhiaa

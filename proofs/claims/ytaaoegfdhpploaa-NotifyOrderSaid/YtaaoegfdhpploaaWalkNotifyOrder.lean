/- The walk of the law NotifyOrder. -/
import Derived.Test.YtaaoegfdhpploaaNotF
set_option linter.all false
namespace Go.Proofs.Ytaaoegfdhpploaa
open Go.RowKit

set_option maxRecDepth 100000 in
set_option maxHeartbeats 8000000 in
theorem walkNotifyOrder (w : World) (v : Value) (rows : List (List Value)) (hs : Src w v rows.length 1 rows.flatten) (hr : ∀ x ∈ rows, FlatOk [.int .i64] x) (hm : rows.length ≤ maxLen) (who : Int) (hwho : (Lit.int .i64 who).wf = true) :
    Calls Try.prog 4 #[v, .int .i64 who] w fun e w' => e = .returned (.bool true) ∧ Below w.heap.size w w' := by
  obtain ⟨L, hfl, hll, -⟩ := ints_of_rows hr
  rw [hfl] at hs
  obtain ⟨len, hlen⟩ : ∃ len, len = rows.length := ⟨_, rfl⟩
  rw [← hlen] at hs hm hll
  clear hr hfl hlen
  have Hs := Lib.hid hs
  obtain ⟨-, ao, c, rfl, hcells⟩ := Src.nums hs
  have Hll := Lib.hid hll
  have hlenm : len ≤ 9223372036854775807 := by have : maxLen = 9223372036854775807 := rfl; omega
  clear hs hll hcells hm
  clear hwho
  go_enter Try.func4, Try.ntmps4
  go_wp2_with fail
  refine (new_any w).mono ?_
  rintro e w1 ⟨rfl, hN, hk1⟩
  obtain ⟨b, hb⟩ : ∃ b, b = w.heap.size := ⟨_, rfl⟩
  have hN1 : Nt (fun k => w.heap.size ≤ k) w1 b 0 false [] := by rw [hb]; exact hN
  rw [← hb]
  clear hb hN
  go_wp2_with fail
  go_loopw [6] (fun i wr => ∃ k : Nat, k ≤ 30 ∧ k ≤ len ∧ i = .int .i64 k ∧ New w wr ∧ Nt (fun k => w.heap.size ≤ k) wr b 0 false (linesE (L.take k))) (fun i _ => 30 - (intOf i).toNat)
  case atStart => exact ⟨0, by omega, by omega, rfl, hk1, hN1⟩
  case round =>
    clear hN1 hk1
    obtain ⟨k, hk6, hk, rfl, hkr, hN⟩ := hrel
    by_cases h1 : k < len ∧ k < 30
    · obtain ⟨h1, h2⟩ := h1
      have h2' : (k : Int) < 30 := by omega
      obtain ⟨x, hx⟩ : ∃ x, L[k]? = some x := ⟨_, List.getElem?_eq_getElem (by have := Hll.out; omega)⟩
      obtain ⟨ao', c', he, hcl⟩ := (Src.nums (Hs.out.same hkr)).2
      cases he
      obtain ⟨B, Of, rfl, c0⟩ := hcl k x hx
      have hln := linesE_length k L
      have Hx := Lib.hid hx
      clear hcl hx
      go_wp2_with fail
      refine (wait_in b 0 (linesE (L.take k)) x wr hN (by omega)).mono ?_
      rintro e w3 ⟨y, rfl, hN3, hk3⟩
      have hN3' := hN3.mono (O' := fun k => w.heap.size ≤ k) (fun k h => by have := hkr.size; omega)
      have hkr3 := hkr.new hk3 (fun i hi => hi)
      rw [← linesE_take Hx.out] at hN3'
      have c0' := cell_kept hkr3 (show w.cell? ⟨B, Of + k, none⟩ = some (.int .i64 x) from by
        obtain ⟨ao9, c9, he9, hcl9⟩ := (Src.nums Hs.out).2
        cases he9
        obtain ⟨B9, Of9, he8, c8⟩ := hcl9 k x Hx.out
        cases he8
        exact c8) (fun h => h)
      clear hN3 hk3 c0
      clear c0'
      go_wp2_with fail
      go_roundw
      case rel => exact ⟨k + 1, by omega, by omega, by go_num, hkr3, hN3'⟩
      case measure => simp [intOf]; omega
    · obtain ⟨F, hF⟩ : ∃ F, F = linesE (L.take k) := ⟨_, rfl⟩
      have hF20 : F.length ≤ 30 := by have := linesE_length k L; rw [hF]; omega
      have hF8 : F.length ≤ 1000 := by omega
      rw [← hF] at hN
      clear hF
      obtain ⟨mF, hmF⟩ : ∃ mF, mF = F.length := ⟨_, rfl⟩
      have HmF := Lib.hid hmF
      have hmF20 : mF ≤ 30 := by omega
      clear hmF
      obtain ⟨M, hM⟩ : ∃ M, M = F.filter (fun y => !(y == who)) := ⟨_, rfl⟩
      have hMl : M.length ≤ F.length := by rw [hM]; exact List.length_filter_le _ _
      obtain ⟨ml, hml⟩ : ∃ ml, ml = M.length := ⟨_, rfl⟩
      obtain ⟨rb, hrb⟩ : ∃ rb, rb = decide (M.length < F.length) := ⟨_, rfl⟩
      have hrb2 : rb = decide (ml < mF) := by rw [hrb, hml, HmF.out]
      have hml30 : ml ≤ mF := by rw [hml, HmF.out]; exact hMl
      have HM := Lib.hid hM
      have Hml := Lib.hid hml
      have Hrb := Lib.hid hrb
      have Hrb2 := Lib.hid hrb2
      clear hM hMl hml hrb hrb2
      by_cases h3 : k < len
      · have h2' : ¬ ((k : Int) < 30) := by omega
        go_wp2_with fail
        refine (waits_any b 0 false F _ hN hF8).mono ?_
        rintro e w4 ⟨v4, rfl, hown, hkx⟩
        obtain ⟨ao4, c4, hv4, -⟩ := Src.of_own hown
        have hS := Sep.fresh (N := LQ v4 F) (NP.ok b 0 false F) (show NP b 0 false F (fun k => w.heap.size ≤ k) _ from hN) (LQ.fresh hown) hkx (fun k hk => Nat.le_trans hkr.size hk)
        have hkw := hkr.trans hkx
        rw [← HmF.out] at hv4
        subst hv4
        clear hown hkx hN hkr
        obtain ⟨O1, O2, g1, g2, g3, g4⟩ := hS.swap
        have G3 := Lib.hid g3
        have G4 := Lib.hid g4
        clear g3 g4 hS
        go_wp2_with fail
        refine (cancel_any b 0 false F M who rb _ g1 hF8 HM.out.symm Hrb.out).mono ?_
        rintro e w5 ⟨rfl, hA, hkx⟩
        obtain ⟨hS5, hkst⟩ := Sep.step (P' := NP b 0 false M) (LQ.ok _ F) g2 G3.out G4.out (Nt.mono hA (fun _ h => .inl h)) hkx (fun k hk => Nat.le_trans hkw.size hk)
        have hkw5 := hkw.new hkst (fun i hi => hi)
        clear g1 g2 G3 G4 hA hkx hkst hkw
        have hS6 : Sep (NP b 0 false ((F.drop 0).filter (fun y => !(y == who)))) (LQ (.slice ao4 mF c4) F) (fun k => w.heap.size ≤ k) w5 := by rw [List.drop_zero, ← HM.out]; exact hS5
        clear hS5
        go_wp2_with fail
        go_loopw [9, 10] (fun p i wi => ∃ j cnt : Nat, j ≤ mF ∧ p = .int .i64 cnt ∧ i = .int .i64 j ∧ Hid (cnt + ((F.drop j).filter (fun y => !(y == who))).length = ml) ∧ Sep (NP b 0 false ((F.drop j).filter (fun y => !(y == who)))) (LQ (.slice ao4 mF c4) F) (fun k => w.heap.size ≤ k) wi ∧ New w wi) (fun _ i _ => mF - (intOf i).toNat)
        case atStart => exact ⟨0, 0, by omega, rfl, rfl, by rw [List.drop_zero, ← HM.out, Hml.out]; simp [Hid], hS6, hkw5⟩
        case round =>
          clear hS6 hkw5
          obtain ⟨j, cnt, hj, rfl, rfl, Hcnt, hS, hkw⟩ := hrel
          by_cases hjm : j < mF
          · obtain ⟨y, hy⟩ : ∃ y, F[j]? = some y := ⟨_, List.getElem?_eq_getElem (by rw [← HmF.out]; omega)⟩
            have Hy := Lib.hid hy
            clear hy
            obtain ⟨_, hl4⟩ := Sep.any hS
            obtain ⟨g4, e4, d4⟩ := LQ.at hl4 HmF.out Hy.out
            subst e4
            have hcn := Hcnt.out
            rw [filter_drop Hy.out] at hS hcn
            by_cases hyw : y = who
            · have hyb : (y == who) = true := by simpa using hyw
              rw [if_pos hyw] at hS hcn
              have Hcn := Lib.hid hcn
              clear hyw hl4 hcn
              go_wp2_with fail
              go_roundw
              case rel => exact ⟨j + 1, cnt, by omega, rfl, by go_num, Hcn.out, hS, hkw⟩
              case measure => simp [intOf]; omega
            · have hyb : (y == who) = false := by simpa using hyw
              rw [if_neg hyw] at hS hcn
              obtain ⟨R, hR⟩ : ∃ R, R = (F.drop (j + 1)).filter (fun z => !(z == who)) := ⟨_, rfl⟩
              rw [← hR] at hS hcn
              have HR := Lib.hid hR
              have hR8 : R.length ≤ 1000 := by simp only [List.length_cons] at hcn; omega
              have hcn2 : cnt + 1 + R.length = ml := by simp only [List.length_cons] at hcn; omega
              have hc9 : cnt ≤ 30 := by omega
              have Hcn := Lib.hid hcn2
              have c1 : IntKind.u64.wrap (j : Int) = (j : Int) := by rw [IntKind.wrap_u64]; omega
              obtain ⟨u, hu⟩ : ∃ u : Int, u = (j : Int) + 1 := ⟨_, rfl⟩
              have c2 : IntKind.u64.wrap ((j : Int) + 1) = u := by rw [hu, IntKind.wrap_u64]; omega
              obtain ⟨O1, O2, g1, g2, g3, g4'⟩ := hS
              have G3 := Lib.hid g3
              have G4 := Lib.hid g4'
              clear g3 g4' hyw hl4 hcn hR hcn2 hu
              go_wp2_with fail
              refine (signal_who b 0 false y R u _ g1 hR8).mono ?_
              rintro e w6 ⟨rfl, hA, hkx⟩
              obtain ⟨hS5, hkst⟩ := Sep.step (P' := NP b 0 false R) (LQ.ok _ F) g2 G3.out G4.out (Nt.mono hA (fun _ h => .inl h)) hkx (fun k hk => Nat.le_trans hkw.size hk)
              have hkw5 := hkw.new hkst (fun i hi => hi)
              obtain ⟨_, hl5⟩ := Sep.any hS5
              obtain ⟨g5, e5, d5⟩ := LQ.at hl5 HmF.out Hy.out
              cases e5
              rw [HR.out] at hS5
              clear g1 g2 G3 G4 hA hkx hkst hl5 hkw
              go_wp2_with fail
              go_roundw
              case rel => exact ⟨j + 1, cnt + 1, by omega, by go_num, by go_num, by rw [← HR.out]; exact Hcn.out, hS5, hkw5⟩
              case measure => simp [intOf]; omega
          · obtain rfl : j = mF := by omega
            have hnil : (F.drop j).filter (fun z => !(z == who)) = [] := by rw [HmF.out, List.drop_length]; rfl
            have hcn := Hcnt.out
            rw [hnil] at hS hcn
            obtain rfl : cnt = ml := by simpa using hcn
            obtain ⟨_, hn⟩ := Sep.one hS
            clear hcn
            by_cases hlt : cnt < j
            · obtain rfl : rb = true := by rw [Hrb2.out]; simpa using hlt
              have hlt2 : (cnt : Int) < j := by omega
              go_wp2_with fail
              refine (waits_any b 0 false [] _ hn (by decide)).mono ?_
              rintro e w7 ⟨v7, rfl, hown7, hk7⟩
              obtain ⟨ao7, c7, rfl, -⟩ := Src.of_own hown7
              have hkw7 := hkw.trans hk7
              clear hown7 hk7 hn hS hkw
              go_wp2_with fail
              refine (fixed_any _).mono ?_
              rintro e w9 ⟨rfl, hk9⟩
              go_wp2_with fail
              go_ret
              exact ⟨rfl, none_below (hkw7.trans hk9)⟩
            · obtain rfl : rb = false := by rw [Hrb2.out]; simpa using hlt
              have hlt2 : ¬ (cnt : Int) < j := by omega
              go_wp2_with fail
              refine (waits_any b 0 false [] _ hn (by decide)).mono ?_
              rintro e w7 ⟨v7, rfl, hown7, hk7⟩
              obtain ⟨ao7, c7, rfl, -⟩ := Src.of_own hown7
              have hkw7 := hkw.trans hk7
              clear hown7 hk7 hn hS hkw
              go_wp2_with fail
              refine (fixed_any _).mono ?_
              rintro e w9 ⟨rfl, hk9⟩
              go_wp2_with fail
              go_ret
              exact ⟨rfl, none_below (hkw7.trans hk9)⟩
      · have h3' : ¬ ((k : Int) < len) := by omega
        go_wp2_with fail
        refine (waits_any b 0 false F _ hN hF8).mono ?_
        rintro e w4 ⟨v4, rfl, hown, hkx⟩
        obtain ⟨ao4, c4, hv4, -⟩ := Src.of_own hown
        have hS := Sep.fresh (N := LQ v4 F) (NP.ok b 0 false F) (show NP b 0 false F (fun k => w.heap.size ≤ k) _ from hN) (LQ.fresh hown) hkx (fun k hk => Nat.le_trans hkr.size hk)
        have hkw := hkr.trans hkx
        rw [← HmF.out] at hv4
        subst hv4
        clear hown hkx hN hkr
        obtain ⟨O1, O2, g1, g2, g3, g4⟩ := hS.swap
        have G3 := Lib.hid g3
        have G4 := Lib.hid g4
        clear g3 g4 hS
        go_wp2_with fail
        refine (cancel_any b 0 false F M who rb _ g1 hF8 HM.out.symm Hrb.out).mono ?_
        rintro e w5 ⟨rfl, hA, hkx⟩
        obtain ⟨hS5, hkst⟩ := Sep.step (P' := NP b 0 false M) (LQ.ok _ F) g2 G3.out G4.out (Nt.mono hA (fun _ h => .inl h)) hkx (fun k hk => Nat.le_trans hkw.size hk)
        have hkw5 := hkw.new hkst (fun i hi => hi)
        clear g1 g2 G3 G4 hA hkx hkst hkw
        have hS6 : Sep (NP b 0 false ((F.drop 0).filter (fun y => !(y == who)))) (LQ (.slice ao4 mF c4) F) (fun k => w.heap.size ≤ k) w5 := by rw [List.drop_zero, ← HM.out]; exact hS5
        clear hS5
        go_wp2_with fail
        go_loopw [9, 10] (fun p i wi => ∃ j cnt : Nat, j ≤ mF ∧ p = .int .i64 cnt ∧ i = .int .i64 j ∧ Hid (cnt + ((F.drop j).filter (fun y => !(y == who))).length = ml) ∧ Sep (NP b 0 false ((F.drop j).filter (fun y => !(y == who)))) (LQ (.slice ao4 mF c4) F) (fun k => w.heap.size ≤ k) wi ∧ New w wi) (fun _ i _ => mF - (intOf i).toNat)
        case atStart => exact ⟨0, 0, by omega, rfl, rfl, by rw [List.drop_zero, ← HM.out, Hml.out]; simp [Hid], hS6, hkw5⟩
        case round =>
          clear hS6 hkw5
          obtain ⟨j, cnt, hj, rfl, rfl, Hcnt, hS, hkw⟩ := hrel
          by_cases hjm : j < mF
          · obtain ⟨y, hy⟩ : ∃ y, F[j]? = some y := ⟨_, List.getElem?_eq_getElem (by rw [← HmF.out]; omega)⟩
            have Hy := Lib.hid hy
            clear hy
            obtain ⟨_, hl4⟩ := Sep.any hS
            obtain ⟨g4, e4, d4⟩ := LQ.at hl4 HmF.out Hy.out
            subst e4
            have hcn := Hcnt.out
            rw [filter_drop Hy.out] at hS hcn
            by_cases hyw : y = who
            · have hyb : (y == who) = true := by simpa using hyw
              rw [if_pos hyw] at hS hcn
              have Hcn := Lib.hid hcn
              clear hyw hl4 hcn
              go_wp2_with fail
              go_roundw
              case rel => exact ⟨j + 1, cnt, by omega, rfl, by go_num, Hcn.out, hS, hkw⟩
              case measure => simp [intOf]; omega
            · have hyb : (y == who) = false := by simpa using hyw
              rw [if_neg hyw] at hS hcn
              obtain ⟨R, hR⟩ : ∃ R, R = (F.drop (j + 1)).filter (fun z => !(z == who)) := ⟨_, rfl⟩
              rw [← hR] at hS hcn
              have HR := Lib.hid hR
              have hR8 : R.length ≤ 1000 := by simp only [List.length_cons] at hcn; omega
              have hcn2 : cnt + 1 + R.length = ml := by simp only [List.length_cons] at hcn; omega
              have hc9 : cnt ≤ 30 := by omega
              have Hcn := Lib.hid hcn2
              have c1 : IntKind.u64.wrap (j : Int) = (j : Int) := by rw [IntKind.wrap_u64]; omega
              obtain ⟨u, hu⟩ : ∃ u : Int, u = (j : Int) + 1 := ⟨_, rfl⟩
              have c2 : IntKind.u64.wrap ((j : Int) + 1) = u := by rw [hu, IntKind.wrap_u64]; omega
              obtain ⟨O1, O2, g1, g2, g3, g4'⟩ := hS
              have G3 := Lib.hid g3
              have G4 := Lib.hid g4'
              clear g3 g4' hyw hl4 hcn hR hcn2 hu
              go_wp2_with fail
              refine (signal_who b 0 false y R u _ g1 hR8).mono ?_
              rintro e w6 ⟨rfl, hA, hkx⟩
              obtain ⟨hS5, hkst⟩ := Sep.step (P' := NP b 0 false R) (LQ.ok _ F) g2 G3.out G4.out (Nt.mono hA (fun _ h => .inl h)) hkx (fun k hk => Nat.le_trans hkw.size hk)
              have hkw5 := hkw.new hkst (fun i hi => hi)
              obtain ⟨_, hl5⟩ := Sep.any hS5
              obtain ⟨g5, e5, d5⟩ := LQ.at hl5 HmF.out Hy.out
              cases e5
              rw [HR.out] at hS5
              clear g1 g2 G3 G4 hA hkx hkst hl5 hkw
              go_wp2_with fail
              go_roundw
              case rel => exact ⟨j + 1, cnt + 1, by omega, by go_num, by go_num, by rw [← HR.out]; exact Hcn.out, hS5, hkw5⟩
              case measure => simp [intOf]; omega
          · obtain rfl : j = mF := by omega
            have hnil : (F.drop j).filter (fun z => !(z == who)) = [] := by rw [HmF.out, List.drop_length]; rfl
            have hcn := Hcnt.out
            rw [hnil] at hS hcn
            obtain rfl : cnt = ml := by simpa using hcn
            obtain ⟨_, hn⟩ := Sep.one hS
            clear hcn
            by_cases hlt : cnt < j
            · obtain rfl : rb = true := by rw [Hrb2.out]; simpa using hlt
              have hlt2 : (cnt : Int) < j := by omega
              go_wp2_with fail
              refine (waits_any b 0 false [] _ hn (by decide)).mono ?_
              rintro e w7 ⟨v7, rfl, hown7, hk7⟩
              obtain ⟨ao7, c7, rfl, -⟩ := Src.of_own hown7
              have hkw7 := hkw.trans hk7
              clear hown7 hk7 hn hS hkw
              go_wp2_with fail
              refine (fixed_any _).mono ?_
              rintro e w9 ⟨rfl, hk9⟩
              go_wp2_with fail
              go_ret
              exact ⟨rfl, none_below (hkw7.trans hk9)⟩
            · obtain rfl : rb = false := by rw [Hrb2.out]; simpa using hlt
              have hlt2 : ¬ (cnt : Int) < j := by omega
              go_wp2_with fail
              refine (waits_any b 0 false [] _ hn (by decide)).mono ?_
              rintro e w7 ⟨v7, rfl, hown7, hk7⟩
              obtain ⟨ao7, c7, rfl, -⟩ := Src.of_own hown7
              have hkw7 := hkw.trans hk7
              clear hown7 hk7 hn hS hkw
              go_wp2_with fail
              refine (fixed_any _).mono ?_
              rintro e w9 ⟨rfl, hk9⟩
              go_wp2_with fail
              go_ret
              exact ⟨rfl, none_below (hkw7.trans hk9)⟩
end Go.Proofs.Ytaaoegfdhpploaa

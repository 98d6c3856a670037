/- The walk of the law NotifyQuick. -/
import Derived.Test.YtaaoegfdhpploaaNotF
set_option linter.all false
namespace Go.Proofs.Ytaaoegfdhpploaa
open Go.RowKit

set_option maxRecDepth 100000 in
set_option maxHeartbeats 8000000 in
theorem walkNotifyQuick (w : World) (v : Value) (rows : List (List Value)) (hs : Src w v rows.length 1 rows.flatten) (hr : ∀ x ∈ rows, FlatOk [.int .i64] x) (hm : rows.length ≤ maxLen) (who : Int) (hwho : (Lit.int .i64 who).wf = true) :
    Calls Try.prog 6 #[v, .int .i64 who] w fun e w' => e = .returned (.bool true) ∧ Below w.heap.size w w' := by
  obtain ⟨L, hfl, hll, -⟩ := ints_of_rows hr
  rw [hfl] at hs
  obtain ⟨len, hlen⟩ : ∃ len, len = rows.length := ⟨_, rfl⟩
  rw [← hlen] at hs hm hll
  clear hr hfl hlen
  have Hs := Lib.hid hs
  obtain ⟨-, ao, c, rfl, hcells⟩ := Src.nums hs
  have Hll := Lib.hid hll
  have hlenm : len ≤ 9223372036854775807 := by have : maxLen = 9223372036854775807 := rfl; omega
  clear hs hll hcells hm
  clear hwho
  go_enter Try.func6, Try.ntmps6
  go_wp2_with fail
  refine (new_any w).mono ?_
  rintro e w1 ⟨rfl, hN, hk1⟩
  obtain ⟨b, hb⟩ : ∃ b, b = w.heap.size := ⟨_, rfl⟩
  have hN1 : Nt (fun k => w.heap.size ≤ k) w1 b 0 false [] := by rw [hb]; exact hN
  rw [← hb]
  clear hb hN
  go_wp2_with fail
  go_loopw [6, 7] (fun p i wr => ∃ k : Nat, k ≤ 20 ∧ k ≤ len ∧ (∃ ib : Bool, p = .bool ib ∧ i = .int .i64 k ∧ Hid (ib = decide (who ∈ linesE (L.take k)))) ∧ New w wr ∧ Nt (fun k => w.heap.size ≤ k) wr b 0 false (linesE (L.take k))) (fun _ i _ => 20 - (intOf i).toNat)
  case atStart => exact ⟨0, by omega, by omega, ⟨false, rfl, rfl, (by simp [Hid, linesE])⟩, hk1, hN1⟩
  case round =>
    clear hN1 hk1
    obtain ⟨k, hk6, hk, ⟨ib, rfl, rfl, Hib⟩, hkr, hN⟩ := hrel
    by_cases h1 : k < len ∧ k < 20
    · obtain ⟨h1, h2⟩ := h1
      have h2' : (k : Int) < 20 := by omega
      obtain ⟨x, hx⟩ : ∃ x, L[k]? = some x := ⟨_, List.getElem?_eq_getElem (by have := Hll.out; omega)⟩
      obtain ⟨ao', c', he, hcl⟩ := (Src.nums (Hs.out.same hkr)).2
      cases he
      obtain ⟨B, Of, rfl, c0⟩ := hcl k x hx
      have hln := linesE_length k L
      have Hx := Lib.hid hx
      clear hcl hx
      go_wp2_with fail
      refine (wait_in b 0 (linesE (L.take k)) x wr hN (by omega)).mono ?_
      rintro e w3 ⟨y, rfl, hN3, hk3⟩
      have hN3' := hN3.mono (O' := fun k => w.heap.size ≤ k) (fun k h => by have := hkr.size; omega)
      have hkr3 := hkr.new hk3 (fun i hi => hi)
      rw [← linesE_take Hx.out] at hN3'
      have c0' := cell_kept hkr3 (show w.cell? ⟨B, Of + k, none⟩ = some (.int .i64 x) from by
        obtain ⟨ao9, c9, he9, hcl9⟩ := (Src.nums Hs.out).2
        cases he9
        obtain ⟨B9, Of9, he8, c8⟩ := hcl9 k x Hx.out
        cases he8
        exact c8) (fun h => h)
      clear hN3 hk3 c0
      have hmem : (who ∈ linesE (L.take (k + 1))) ↔ (who ∈ linesE (L.take k) ∨ who = x) := by rw [linesE_take Hx.out]; exact mem_lineE
      have Hmem := Lib.hid hmem
      clear hmem
      have hfin : ∀ ib' : Bool, (ib' = true ↔ (ib = true ∨ x = who)) → ib' = decide (who ∈ linesE (L.take (k + 1))) := by
        intro ib' h
        rw [Bool.eq_iff_iff, h, decide_eq_true_eq, Hmem.out, Hib.out, decide_eq_true_eq, eq_comm (a := who)]
      have Hfin := Lib.hid hfin
      clear hfin
      by_cases hxw : x = who
      · have hxb : (x == who) = true := by simpa using hxw
        have Hxw := Lib.hid hxw
        clear hxw
        cases ib with
        | true =>
          go_wp2_with fail
          go_roundw
          case rel => exact ⟨k + 1, by omega, by omega, ⟨true, rfl, by go_num, Hfin.out true (by simp)⟩, hkr3, hN3'⟩
          case measure => simp [intOf]; omega
        | false =>
          go_wp2_with fail
          go_roundw
          case rel => exact ⟨k + 1, by omega, by omega, ⟨true, rfl, by go_num, Hfin.out true (by simp [Hxw.out])⟩, hkr3, hN3'⟩
          case measure => simp [intOf]; omega
      · have hxb : (x == who) = false := by simpa using hxw
        have Hxw := Lib.hid hxw
        clear hxw
        cases ib with
        | true =>
          go_wp2_with fail
          go_roundw
          case rel => exact ⟨k + 1, by omega, by omega, ⟨true, rfl, by go_num, Hfin.out true (by simp)⟩, hkr3, hN3'⟩
          case measure => simp [intOf]; omega
        | false =>
          go_wp2_with fail
          go_roundw
          case rel => exact ⟨k + 1, by omega, by omega, ⟨false, rfl, by go_num, Hfin.out false (by simp [Hxw.out])⟩, hkr3, hN3'⟩
          case measure => simp [intOf]; omega
    · obtain ⟨F, hF⟩ : ∃ F, F = linesE (L.take k) := ⟨_, rfl⟩
      have hF20 : F.length ≤ 20 := by have := linesE_length k L; rw [hF]; omega
      have hF8 : F.length ≤ 1000 := by omega
      rw [← hF] at hN Hib
      clear hF
      obtain ⟨mF, hmF⟩ : ∃ mF, mF = F.length := ⟨_, rfl⟩
      have HmF := Lib.hid hmF
      have hmF20 : mF ≤ 20 := by omega
      clear hmF
      by_cases h3 : k < len
      · have h2' : ¬ ((k : Int) < 20) := by omega
        go_wp2_with fail
        refine (waits_any b 0 false F _ hN hF8).mono ?_
        rintro e w4 ⟨v4, rfl, hown, hkx⟩
        obtain ⟨ao4, c4, hv4, -⟩ := Src.of_own hown
        have hS := Sep.fresh (N := LQ v4 F) (NP.ok b 0 false F) (show NP b 0 false F (fun k => w.heap.size ≤ k) _ from hN) (LQ.fresh hown) hkx (fun k hk => Nat.le_trans hkr.size hk)
        have hkw := hkr.trans hkx
        rw [← HmF.out] at hv4
        subst hv4
        clear hown hkx hN hkr
        obtain ⟨_, hn⟩ := Sep.any hS
        by_cases hwf : who ∈ F
        · obtain rfl : ib = true := by rw [Hib.out]; simpa using hwf
          have Hwf := Lib.hid hwf
          clear hwf
          go_wp2_with fail
          refine (wait_out b 0 F who 120 _ hn hF8 (by rw [if_pos Hwf.out])).mono ?_
          rintro e w5 ⟨rfl, rfl⟩
          go_wp2_with fail
          refine (waits_any b 0 false F _ hn hF8).mono ?_
          rintro e w6 ⟨v6, rfl, hown, hkx⟩
          obtain ⟨ao6, c6, hv6, -⟩ := Src.of_own hown
          rw [← HmF.out] at hv6
          obtain ⟨_, hl⟩ := Sep.one hS
          have hl6 := (LQ.ok _ F).kept hl hkx (fun _ _ h => h)
          have Hl4 := Lib.hid hl6.1
          have Hl6 := Lib.hid hown
          have hkw6 := hkw.trans hkx
          subst hv6
          clear hown hkx hl hl6 hS hn hkw
          rw [← HmF.out] at Hl4 Hl6
          go_wp2_with fail
          obtain ⟨W0, hW0⟩ : ∃ W0, W0 = w6 := ⟨_, rfl⟩
          rw [← hW0] at Hl4 Hl6 hkw6 ⊢
          clear hW0
          go_loopw [13] (fun i wi => ∃ j : Nat, j ≤ mF ∧ i = .int .i64 j ∧ ∃ qd, wi = W0.drewN qd) (fun i _ => mF - (intOf i).toNat)
          case atStart => exact ⟨0, by omega, rfl, 0, rfl⟩
          case round =>
            obtain ⟨j, hj, rfl, qd, rfl⟩ := hrel
            by_cases hjm : j < mF
            · obtain ⟨y, hy⟩ : ∃ y, F[j]? = some y := ⟨_, List.getElem?_eq_getElem (by rw [← HmF.out]; exact hjm)⟩
              obtain ⟨g4, e4, d4⟩ := LQ.at (O := fun _ => True) ⟨by have := Hl4.out; rw [HmF.out] at this; rw [HmF.out]; exact this, fun _ _ => trivial⟩ HmF.out hy
              obtain ⟨g6, e6, d6⟩ := LQ.at (O := fun _ => True) ⟨by have := own_mono Hl6.out (Nat.zero_le _); rw [HmF.out] at this; rw [HmF.out]; exact this, fun _ _ => trivial⟩ HmF.out hy
              subst e4 e6
              clear hy
              go_wp2_with fail
              go_quiet (fail)
              go_wp2_with fail
              go_roundw
              case rel => exact ⟨j + 1, by omega, by go_num, _, rfl⟩
              case measure => simp [intOf]; omega
            · go_wp2_with fail
              refine (fixed_any _).mono ?_
              rintro e w9 ⟨rfl, hk9⟩
              go_wp2_with fail
              go_ret
              exact ⟨rfl, none_below ((hkw6.drewN _).trans hk9)⟩
        · obtain rfl : ib = false := by rw [Hib.out]; simpa using hwf
          have Hwf := Lib.hid hwf
          clear hwf
          go_wp2_with fail
          refine (wait_out b 0 F who 0 _ hn hF8 (by rw [if_neg Hwf.out])).mono ?_
          rintro e w5 ⟨rfl, rfl⟩
          go_wp2_with fail
          refine (waits_any b 0 false F _ hn hF8).mono ?_
          rintro e w6 ⟨v6, rfl, hown, hkx⟩
          obtain ⟨ao6, c6, hv6, -⟩ := Src.of_own hown
          rw [← HmF.out] at hv6
          obtain ⟨_, hl⟩ := Sep.one hS
          have hl6 := (LQ.ok _ F).kept hl hkx (fun _ _ h => h)
          have Hl4 := Lib.hid hl6.1
          have Hl6 := Lib.hid hown
          have hkw6 := hkw.trans hkx
          subst hv6
          clear hown hkx hl hl6 hS hn hkw
          rw [← HmF.out] at Hl4 Hl6
          go_wp2_with fail
          obtain ⟨W0, hW0⟩ : ∃ W0, W0 = w6 := ⟨_, rfl⟩
          rw [← hW0] at Hl4 Hl6 hkw6 ⊢
          clear hW0
          go_loopw [13] (fun i wi => ∃ j : Nat, j ≤ mF ∧ i = .int .i64 j ∧ ∃ qd, wi = W0.drewN qd) (fun i _ => mF - (intOf i).toNat)
          case atStart => exact ⟨0, by omega, rfl, 0, rfl⟩
          case round =>
            obtain ⟨j, hj, rfl, qd, rfl⟩ := hrel
            by_cases hjm : j < mF
            · obtain ⟨y, hy⟩ : ∃ y, F[j]? = some y := ⟨_, List.getElem?_eq_getElem (by rw [← HmF.out]; exact hjm)⟩
              obtain ⟨g4, e4, d4⟩ := LQ.at (O := fun _ => True) ⟨by have := Hl4.out; rw [HmF.out] at this; rw [HmF.out]; exact this, fun _ _ => trivial⟩ HmF.out hy
              obtain ⟨g6, e6, d6⟩ := LQ.at (O := fun _ => True) ⟨by have := own_mono Hl6.out (Nat.zero_le _); rw [HmF.out] at this; rw [HmF.out]; exact this, fun _ _ => trivial⟩ HmF.out hy
              subst e4 e6
              clear hy
              go_wp2_with fail
              go_quiet (fail)
              go_wp2_with fail
              go_roundw
              case rel => exact ⟨j + 1, by omega, by go_num, _, rfl⟩
              case measure => simp [intOf]; omega
            · go_wp2_with fail
              refine (fixed_any _).mono ?_
              rintro e w9 ⟨rfl, hk9⟩
              go_wp2_with fail
              go_ret
              exact ⟨rfl, none_below ((hkw6.drewN _).trans hk9)⟩
      · have h3' : ¬ ((k : Int) < len) := by omega
        go_wp2_with fail
        refine (waits_any b 0 false F _ hN hF8).mono ?_
        rintro e w4 ⟨v4, rfl, hown, hkx⟩
        obtain ⟨ao4, c4, hv4, -⟩ := Src.of_own hown
        have hS := Sep.fresh (N := LQ v4 F) (NP.ok b 0 false F) (show NP b 0 false F (fun k => w.heap.size ≤ k) _ from hN) (LQ.fresh hown) hkx (fun k hk => Nat.le_trans hkr.size hk)
        have hkw := hkr.trans hkx
        rw [← HmF.out] at hv4
        subst hv4
        clear hown hkx hN hkr
        obtain ⟨_, hn⟩ := Sep.any hS
        by_cases hwf : who ∈ F
        · obtain rfl : ib = true := by rw [Hib.out]; simpa using hwf
          have Hwf := Lib.hid hwf
          clear hwf
          go_wp2_with fail
          refine (wait_out b 0 F who 120 _ hn hF8 (by rw [if_pos Hwf.out])).mono ?_
          rintro e w5 ⟨rfl, rfl⟩
          go_wp2_with fail
          refine (waits_any b 0 false F _ hn hF8).mono ?_
          rintro e w6 ⟨v6, rfl, hown, hkx⟩
          obtain ⟨ao6, c6, hv6, -⟩ := Src.of_own hown
          rw [← HmF.out] at hv6
          obtain ⟨_, hl⟩ := Sep.one hS
          have hl6 := (LQ.ok _ F).kept hl hkx (fun _ _ h => h)
          have Hl4 := Lib.hid hl6.1
          have Hl6 := Lib.hid hown
          have hkw6 := hkw.trans hkx
          subst hv6
          clear hown hkx hl hl6 hS hn hkw
          rw [← HmF.out] at Hl4 Hl6
          go_wp2_with fail
          obtain ⟨W0, hW0⟩ : ∃ W0, W0 = w6 := ⟨_, rfl⟩
          rw [← hW0] at Hl4 Hl6 hkw6 ⊢
          clear hW0
          go_loopw [13] (fun i wi => ∃ j : Nat, j ≤ mF ∧ i = .int .i64 j ∧ ∃ qd, wi = W0.drewN qd) (fun i _ => mF - (intOf i).toNat)
          case atStart => exact ⟨0, by omega, rfl, 0, rfl⟩
          case round =>
            obtain ⟨j, hj, rfl, qd, rfl⟩ := hrel
            by_cases hjm : j < mF
            · obtain ⟨y, hy⟩ : ∃ y, F[j]? = some y := ⟨_, List.getElem?_eq_getElem (by rw [← HmF.out]; exact hjm)⟩
              obtain ⟨g4, e4, d4⟩ := LQ.at (O := fun _ => True) ⟨by have := Hl4.out; rw [HmF.out] at this; rw [HmF.out]; exact this, fun _ _ => trivial⟩ HmF.out hy
              obtain ⟨g6, e6, d6⟩ := LQ.at (O := fun _ => True) ⟨by have := own_mono Hl6.out (Nat.zero_le _); rw [HmF.out] at this; rw [HmF.out]; exact this, fun _ _ => trivial⟩ HmF.out hy
              subst e4 e6
              clear hy
              go_wp2_with fail
              go_quiet (fail)
              go_wp2_with fail
              go_roundw
              case rel => exact ⟨j + 1, by omega, by go_num, _, rfl⟩
              case measure => simp [intOf]; omega
            · go_wp2_with fail
              refine (fixed_any _).mono ?_
              rintro e w9 ⟨rfl, hk9⟩
              go_wp2_with fail
              go_ret
              exact ⟨rfl, none_below ((hkw6.drewN _).trans hk9)⟩
        · obtain rfl : ib = false := by rw [Hib.out]; simpa using hwf
          have Hwf := Lib.hid hwf
          clear hwf
          go_wp2_with fail
          refine (wait_out b 0 F who 0 _ hn hF8 (by rw [if_neg Hwf.out])).mono ?_
          rintro e w5 ⟨rfl, rfl⟩
          go_wp2_with fail
          refine (waits_any b 0 false F _ hn hF8).mono ?_
          rintro e w6 ⟨v6, rfl, hown, hkx⟩
          obtain ⟨ao6, c6, hv6, -⟩ := Src.of_own hown
          rw [← HmF.out] at hv6
          obtain ⟨_, hl⟩ := Sep.one hS
          have hl6 := (LQ.ok _ F).kept hl hkx (fun _ _ h => h)
          have Hl4 := Lib.hid hl6.1
          have Hl6 := Lib.hid hown
          have hkw6 := hkw.trans hkx
          subst hv6
          clear hown hkx hl hl6 hS hn hkw
          rw [← HmF.out] at Hl4 Hl6
          go_wp2_with fail
          obtain ⟨W0, hW0⟩ : ∃ W0, W0 = w6 := ⟨_, rfl⟩
          rw [← hW0] at Hl4 Hl6 hkw6 ⊢
          clear hW0
          go_loopw [13] (fun i wi => ∃ j : Nat, j ≤ mF ∧ i = .int .i64 j ∧ ∃ qd, wi = W0.drewN qd) (fun i _ => mF - (intOf i).toNat)
          case atStart => exact ⟨0, by omega, rfl, 0, rfl⟩
          case round =>
            obtain ⟨j, hj, rfl, qd, rfl⟩ := hrel
            by_cases hjm : j < mF
            · obtain ⟨y, hy⟩ : ∃ y, F[j]? = some y := ⟨_, List.getElem?_eq_getElem (by rw [← HmF.out]; exact hjm)⟩
              obtain ⟨g4, e4, d4⟩ := LQ.at (O := fun _ => True) ⟨by have := Hl4.out; rw [HmF.out] at this; rw [HmF.out]; exact this, fun _ _ => trivial⟩ HmF.out hy
              obtain ⟨g6, e6, d6⟩ := LQ.at (O := fun _ => True) ⟨by have := own_mono Hl6.out (Nat.zero_le _); rw [HmF.out] at this; rw [HmF.out]; exact this, fun _ _ => trivial⟩ HmF.out hy
              subst e4 e6
              clear hy
              go_wp2_with fail
              go_quiet (fail)
              go_wp2_with fail
              go_roundw
              case rel => exact ⟨j + 1, by omega, by go_num, _, rfl⟩
              case measure => simp [intOf]; omega
            · go_wp2_with fail
              refine (fixed_any _).mono ?_
              rintro e w9 ⟨rfl, hk9⟩
              go_wp2_with fail
              go_ret
              exact ⟨rfl, none_below ((hkw6.drewN _).trans hk9)⟩
end Go.Proofs.Ytaaoegfdhpploaa

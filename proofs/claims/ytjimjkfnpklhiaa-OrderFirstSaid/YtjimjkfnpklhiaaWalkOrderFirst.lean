/- The walk of the law OrderFirst. -/
import Derived.Test.YtjimjkfnpklhiaaOrdWt
set_option linter.all false
namespace Go.Proofs.Ytjimjkfnpklhiaa
open Go.RowKit Go.Maps

def Tells (w1 : World) (f : Nat) (args : Array Value) (r : Int) : Prop := ∀ W, New w1 W → Calls Try.prog f args W fun e w' => e = .returned (.int .i64 r) ∧ New W w'
def Rows1 (w1 : World) (f : Nat) (args : Array Value) (C : List Int) : Prop := ∀ W, New w1 W → Calls Try.prog f args W fun e w' => ∃ v, e = .returned v ∧ Src w' v C.length 1 (C.map (Value.int .i64)) ∧ New W w'
/-- The program and the reference, of whatever number of cores. -/
theorem both {w1 : World} {ao : Option Addr} {len c : Nat} {M : List Sn} (h : Sd w1 (.slice ao len c) M) (n : Int) : ∃ (r : Int) (C : List Int) (mw : Nat), C.length ≤ 8 ∧
    Tells w1 11 #[.int .i64 n, .slice ao len c] r ∧ Tells w1 12 #[.int .i64 n, .slice ao len c] r ∧
    Rows1 w1 14 #[.int .i64 n, .slice ao len c] C ∧ Rows1 w1 15 #[.int .i64 n, .slice ao len c] C ∧
    Tells w1 18 #[.int .i64 n, .slice ao len c] mw ∧ Tells w1 19 #[.int .i64 n, .slice ao len c] mw := by
  have hlen := h.num
  have hl61 := h.len
  by_cases hn : n < 1 ∨ 8 < n
  · obtain ⟨r, hr⟩ : ∃ r : Int, (if M.length = 0 then -1 else 0) = r := ⟨_, rfl⟩
    refine ⟨r, [], 0, by simp, fun W k => ?_, fun W k => ?_, fun W k => ?_, fun W k => ?_, fun W k => ?_, fun W k => ?_⟩
    · exact (ofirst_no n _ M W hn (h.same k).src (fun s hs => ((h.same k).wide s hs).1) (by omega) r hr).mono fun e w' ⟨h1, h2⟩ => ⟨h1, h2⟩
    · exact (rfirst_no (h.same k) n hn r hr).mono fun e w' ⟨h1, h2⟩ => ⟨h1, h2⟩
    · exact (oline_no n _ M W hn (h.same k).src (fun s hs => ((h.same k).wide s hs).1) (by omega) r hr).mono fun e w' ⟨h1, h2⟩ => ⟨_, h1, ⟨none, 0, rfl, fun _ => rfl, rfl, fun j v hj => by simp at hj⟩, h2⟩
    · exact (rLine_no (h.same k) n hn).mono fun e w' ⟨v, h1, h2, h3⟩ => ⟨v, h1, Src.of_own h2, h3⟩
    · exact (owaits_no n _ M W hn (h.same k).src (fun s hs => ((h.same k).wide s hs).1) (by omega) r hr).mono fun e w' ⟨h1, h2⟩ => ⟨h1, h2⟩
    · exact (rWaits_no (h.same k) n hn)
  · obtain ⟨k, rfl⟩ := Int.eq_ofNat_of_zero_le (show 0 ≤ n by omega)
    have h1 : 1 ≤ k := by omega
    have h8 : k ≤ 8 := by omega
    have hC : (coreL (goE k [] 0 M 0).2.1).length ≤ 8 := by
      obtain ⟨K, EK, mK, hK, hok, hend⟩ := Ok.ends h1 M
      have hE : (goE k [] 0 M 0).2.1 = EK := by
        rcases hend with ⟨_, h2⟩ | ⟨s, -, -, h2⟩
        · rw [h2]
        · rw [h2]
      obtain ⟨dn, lf, hi⟩ := hok.inv
      rw [hE]
      have := hi.len
      simp [coreL]
      omega
    refine ⟨(goE k [] 0 M 0).1, coreL (goE k [] 0 M 0).2.1, (goE k [] 0 M 0).2.2, hC, fun W kk => ?_, fun W kk => ?_, fun W kk => ?_, fun W kk => ?_, fun W kk => ?_, fun W kk => ?_⟩
    · exact (h.same kk).first (Kept.refl _ _) k h1 h8 _ rfl
    · exact (rfirst_any (h.same kk) k h1 h8 _ rfl).mono fun e w' ⟨h1, h2⟩ => ⟨h1, h2⟩
    · refine ((h.same kk).line (Kept.refl _ _) k h1 h8 _ rfl).mono ?_
      rintro e w' ⟨ao, c, rfl, h2, h3⟩
      exact ⟨_, rfl, by simpa [coreL] using h2, h3⟩
    · exact (rLine_any (h.same kk) k h1 h8 _ rfl).mono fun e w' ⟨v, h1, h2, h3⟩ => ⟨v, h1, Src.of_own h2, h3⟩
    · exact (h.same kk).waits (Kept.refl _ _) k h1 h8 _ rfl
    · exact (rWaits_any (h.same kk) k h1 h8 _ rfl).mono fun e w' ⟨h1, h2⟩ => ⟨h1, h2⟩
theorem nums_same {W : World} {a b : Value} {C : List Int} (ha : Src W a C.length 1 (C.map (Value.int .i64))) (hb : Src W b C.length 1 (C.map (Value.int .i64))) (hl : C.length ≤ 65536) :
    Calls Try.prog 13 #[a, b] W fun e w' => e = .returned (.bool true) ∧ New W w' := by
  have := nums_any a b _ _ C C W ha hb hl hl
  rw [decide_eq_true rfl] at this
  exact this

set_option maxRecDepth 100000 in
set_option maxHeartbeats 8000000 in
theorem walkOrderFirst (w : World) (cores : Int) (_ : (Lit.int .i64 cores).wf = true) (v : Value) (rows : List (List Value)) (hs : Src w v rows.length 10 rows.flatten) (hr : ∀ x ∈ rows, Flat2Ok w ksSeen x) (hm : rows.length ≤ maxLen) :
    Calls Try.prog 3 #[.int .i64 cores, v] w fun e w' => e = .returned (.bool true) ∧ Below w.heap.size w w' := by
  obtain ⟨ao0, c0, rfl, -⟩ := id hs
  have hbound := bound_rows w _ rows hs hr hm
  have Hbound := Lib.hid hbound
  clear hbound hr hm hs
  go_enter Try.func3, Try.ntmps3
  go_wp2_with fail
  refine Hbound.out.mono ?_
  rintro e w1 ⟨ao, len, c, M, rfl, hlen, hlc, hl60, hS, hk1⟩
  obtain ⟨r, C, mw, hC8, h11, h12, h14, h15, h18, h19⟩ := both hS cores
  obtain ⟨D, hD⟩ : ∃ D, D = callsE M := ⟨_, rfl⟩
  have hD60 : D.length ≤ 61 := by rw [hD]; have := callsE_len M; omega
  have h16 : Rows1 w1 16 #[.slice ao len c] D := fun W k => by
    refine ((hS.same k).calls (Kept.refl _ _) D hD.symm).mono ?_
    rintro e w' ⟨a, c, rfl, h2, h3⟩
    exact ⟨_, rfl, h2, h3⟩
  have h17 : Rows1 w1 17 #[.slice ao len c] D := fun W k => by
    rw [hD]
    exact (rcalls_any (hS.same k)).mono fun e w' ⟨v, h1, h2, h3⟩ => ⟨v, h1, Src.of_own h2, h3⟩
  have H12 := Lib.hid h12
  have H14 := Lib.hid h14
  have H15 := Lib.hid h15
  have H16 := Lib.hid h16
  have H17 := Lib.hid h17
  have H18 := Lib.hid h18
  have H19 := Lib.hid h19
  have HK := Lib.hid hk1
  have H11 := Lib.hid (h11 w1 (Kept.refl _ _))
  clear Hbound h11 h12 h14 h15 h16 h17 h18 h19 hS hk1 hD hlen
  go_wp2_with fail
  refine H11.out.mono ?_
  rintro e w2 ⟨rfl, k2⟩
  go_wp2_with fail
  refine (H12.out _ k2).mono ?_
  rintro e w3 ⟨rfl, k3'⟩
  have k3 := k2.trans k3'
  clear k3' k2
  go_wp2_with fail
  refine (H14.out _ k3).mono ?_
  rintro e w4 ⟨v4, rfl, s4, k4'⟩
  have k4 := k3.trans k4'
  have S4 := Lib.hid s4
  clear s4 k4' k3
  go_wp2_with fail
  refine (H15.out _ k4).mono ?_
  rintro e w5 ⟨v5, rfl, s5, k5'⟩
  have k5 := k4.trans k5'
  have hn1 := Lib.hid (nums_same (S4.out.same k5') s5 (by omega))
  clear s5 k5' k4 S4
  go_wp2_with fail
  refine hn1.out.mono ?_
  rintro e w6 ⟨rfl, k6'⟩
  have k6 := k5.trans k6'
  clear k6' k5 hn1
  go_wp2_with fail
  refine (H16.out _ k6).mono ?_
  rintro e w7 ⟨v7, rfl, s7, k7'⟩
  have k7 := k6.trans k7'
  have S7 := Lib.hid s7
  clear s7 k7' k6
  go_wp2_with fail
  refine (H17.out _ k7).mono ?_
  rintro e w8 ⟨v8, rfl, s8, k8'⟩
  have k8 := k7.trans k8'
  have hn2 := Lib.hid (nums_same (S7.out.same k8') s8 (by omega))
  clear s8 k8' k7 S7
  go_wp2_with fail
  refine hn2.out.mono ?_
  rintro e w9 ⟨rfl, k9'⟩
  have k9 := k8.trans k9'
  clear k9' k8 hn2
  go_wp2_with fail
  refine (H18.out _ k9).mono ?_
  rintro e w10 ⟨rfl, k10'⟩
  have k10 := k9.trans k10'
  clear k10' k9
  go_wp2_with fail
  refine (H19.out _ k10).mono ?_
  rintro e w11 ⟨rfl, k11'⟩
  have k11 := k10.trans k11'
  clear k11' k10
  go_wp2_with fail
  refine (fixed_any _).mono ?_
  rintro e w12 ⟨rfl, k12⟩
  go_wp2_with fail
  go_ret
  exact ⟨rfl, none_below (HK.out.trans (k11.trans k12))⟩
end Go.Proofs.Ytjimjkfnpklhiaa

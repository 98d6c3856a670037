/- The walk of the law TlbRooms. -/
import Derived.Test.YtgjlghjigfclpaaTlbL
set_option linter.all false
namespace Go.Proofs.Ytgjlghjigfclpaa
open Go.RowKit

theorem own_cap {w : World} {base : Nat} {v : Value} {n cap : Nat} {ao : Option Addr} {e : TypeId} {s : Nat} {xs : List Value} (h : w.ownsRow base e s v n xs) (hv : v = .slice ao n cap) : n ≤ cap := by
  rcases h.2 with ⟨h1, h2⟩ | ⟨g, cap', cur, h1, _, _, h2, _⟩
  · omega
  · rw [hv] at h1; cases h1; exact h2

/-- The end of a slice of lines. -/
theorem Src.tail {w : World} {ao : Option Addr} {n cap p la : Nat} {P L : List Ln} (h : Src w (.slice ao n cap) n 4 ((P ++ L).flatMap encL)) (hp : p = P.length) (hla : la = L.length) :
    Src w (.slice (ao.map (fun x => x.add (p * 4))) la (cap - p)) la 4 (L.flatMap encL) := by
  subst hp hla
  obtain ⟨ao', c', he, hc, hl, h3⟩ := h
  simp only [Value.slice.injEq, true_and] at he
  obtain ⟨rfl, rfl⟩ := he
  refine ⟨_, _, rfl, fun h => ?_, lines_len L, fun j u hj => ?_⟩
  · have : ao = none := by simpa using h
    rw [hc this]; omega
  · obtain ⟨ad, e, h4⟩ := h3 (P.length * 4 + j) u (by rw [List.flatMap_append, List.getElem?_append_right (by rw [lines_len]; omega), lines_len, Nat.add_sub_cancel_left]; exact hj)
    subst e
    exact ⟨_, rfl, by rw [Deep.add_add]; exact h4⟩

set_option maxRecDepth 100000 in
set_option maxHeartbeats 2000000 in
theorem walkTlbRooms (w : World) (room : Int) (hwf : (Lit.int .i64 room).wf = true) (v : Value) (rows : List (List Value)) (hs : Src w v rows.length 4 rows.flatten) (hr : ∀ x ∈ rows, FlatOk [.int .i64, .int .i64, .int .i64, .int .i64] x) (hm : rows.length ≤ maxLen) :
    Calls Try.prog 4 #[.int .i64 room, v] w fun e w' => e = .returned (.bool true) ∧ Below w.heap.size w w' := by
  obtain ⟨L, hfl, hll⟩ := lines_of_rows hr
  rw [hfl] at hs
  obtain ⟨len, hlen⟩ : ∃ len, len = rows.length := ⟨_, rfl⟩
  rw [← hlen] at hs hm hll
  clear hr hfl hlen
  obtain ⟨m, hmk, a0, a1⟩ := and_small room 3 (by decide)
  simp only [Int.reducePow, Int.reduceSub] at hmk a1
  obtain ⟨m, rfl⟩ := Int.eq_ofNat_of_zero_le a0
  obtain ⟨n, hn⟩ : ∃ n : Nat, n = 1 + m := ⟨_, rfl⟩
  have hw1 : IntKind.i64.wrap (1 + (m : Int)) = (n : Int) := by rw [IntKind.wrap_i64]; omega
  obtain ⟨n2, hn2⟩ : ∃ n2 : Nat, n2 = 2 * n := ⟨_, rfl⟩
  have hw2 : IntKind.i64.wrap (2 * (n : Int)) = (n2 : Int) := by rw [IntKind.wrap_i64]; omega
  have hn1 : 1 ≤ n := by omega
  have hn8 : n ≤ 8 := by omega
  have hn3 : n < n2 := by omega
  have hn4 : n2 ≤ 16 := by omega
  clear hn hn2 hwf a0 a1
  have Hs := Lib.hid hs
  obtain ⟨-, ao, c, rfl, hcells⟩ := hs.lines
  have Hll := Lib.hid hll
  have hlenm : len ≤ 9223372036854775807 := by have : maxLen = 9223372036854775807 := rfl; omega
  clear hs hll hcells hm
  go_enter Try.func4, Try.ntmps4
  go_wp2_with fail
  refine (new_yes n w hn1 (by omega)).mono ?_
  rintro e w1 ⟨rfl, hA, hk1⟩
  replace hA := (TP.ok _ _ _).sized hA
  obtain ⟨ba, hba⟩ : ∃ ba, ba = w.heap.size := ⟨_, rfl⟩
  have Hba := Lib.hid hba
  rw [← hba] at hA ⊢
  clear hba
  go_wp2_with fail
  refine (new_yes n2 w1 (by omega) (by omega)).mono ?_
  rintro e w2 ⟨rfl, hB, hk2⟩
  obtain ⟨bb, hbb⟩ : ∃ bb, bb = w1.heap.size := ⟨_, rfl⟩
  have hAB : Sep (TP bb n2 []) (TP ba n []) (fun k => w.heap.size ≤ k) w2 := by
    rw [hbb]
    refine Sep.fresh (TP.ok _ _ _) ((TP.ok _ _ _).mono hA (fun k hk => ?_)) hB hk2 (fun k hk => by have := hk1.size; omega)
    have := hk.1; have := Hba.out; omega
  have hk02 := hk1.trans hk2
  rw [← hbb]
  clear hA hB hbb hk1 hk2
  go_wp2_with fail
  go_loopw [10] (fun i wr => ∃ k : Nat, k ≤ 60 ∧ k ≤ len ∧ i = .int .i64 k ∧ New w wr ∧ Sep (TP ba n (fillsE n (L.take k))) (TP bb n2 (fillsE n2 (L.take k))) (fun k => w.heap.size ≤ k) wr) (fun i _ => 60 - (intOf i).toNat)
  case atStart => exact ⟨0, by omega, by omega, rfl, hk02, hAB.swap⟩
  case round =>
    obtain ⟨k, hk6, hk, rfl, hkr, hS⟩ := hrel
    by_cases h1 : k < len ∧ k < 60
    · obtain ⟨h1, h2⟩ := h1
      have h2' : (k : Int) < 60 := by omega
      obtain ⟨x, hx⟩ : ∃ x, L[k]? = some x := ⟨_, List.getElem?_eq_getElem (by have := Hll.out; omega)⟩
      have hcl := (Hs.out.same hkr).lines.2
      obtain ⟨ao', c', he, hcl⟩ := hcl
      cases he
      obtain ⟨B, Of, rfl, c0, c1, c2, c3⟩ := hcl k x hx
      have Hx := Lib.hid hx
      clear hcl hx
      obtain ⟨O1, O2, hA, hB, hd1, hd2⟩ := hS
      have hla := fillsE_length n hn1 (L.take k)
      have hlb := fillsE_length n2 (by omega) (L.take k)
      have Hd1 := Lib.hid hd1
      have Hd2 := Lib.hid hd2
      clear hd1 hd2
      go_wp2_with fail
      refine (fill_any ba n _ (fillsE n (L.take (k + 1))) x wr hA hla hn1 (by omega) (fillsE_take Hx.out).symm).mono ?_
      rintro e w3 ⟨rfl, hA3, hk3⟩
      obtain ⟨hS3, hk3'⟩ := Sep.step (P' := TP ba n (fillsE n (L.take (k + 1)))) (TP.ok _ _ _) hB Hd1.out Hd2.out hA3 hk3 (fun k hk => by have := hkr.size; omega)
      have hkr3 := hkr.new hk3' (fun i hi => hi)
      clear hA hA3 hk3 hk3' hB Hd1 Hd2 c0 c1 c2 c3
      obtain ⟨ao', c', he, hcl⟩ := (Hs.out.same hkr3).lines.2
      cases he
      obtain ⟨B', Of', he, c0, c1, c2, c3⟩ := hcl k x Hx.out
      cases he
      clear hcl
      obtain ⟨O1, O2, hB, hA, hd1, hd2⟩ := hS3.swap
      have Hd1 := Lib.hid hd1
      have Hd2 := Lib.hid hd2
      clear hd1 hd2 hS3
      go_wp2_with fail
      refine (fill_any bb n2 _ (fillsE n2 (L.take (k + 1))) x w3 hB hlb (by omega) (by omega) (fillsE_take Hx.out).symm).mono ?_
      rintro e w4 ⟨rfl, hB4, hk4⟩
      obtain ⟨hS4, hk4'⟩ := Sep.step (P' := TP bb n2 (fillsE n2 (L.take (k + 1)))) (TP.ok _ _ _) hA Hd1.out Hd2.out hB4 hk4 (fun k hk => by have := hkr3.size; omega)
      have hkr4 := hkr3.new hk4' (fun i hi => hi)
      clear hA hB4 hk4 hk4' hB Hd1 Hd2 c0 c1 c2 c3
      go_wp2_with fail
      go_roundw
      case rel => exact ⟨k + 1, by omega, by omega, by go_num, hkr4, hS4.swap⟩
      case measure => simp [intOf]; omega
    · have hend : ∃ La P, fillsE n (L.take k) = La ∧ fillsE n2 (L.take k) = P ++ La ∧ La.length ≤ n ∧ (P ++ La).length ≤ n2 := by
        obtain ⟨P, hP⟩ := fills_suffix hn1 hn3 (L.take k)
        exact ⟨_, P, rfl, hP, fillsE_length n hn1 _, by rw [← hP]; exact fillsE_length n2 (by omega) _⟩
      obtain ⟨La, P, hLa, hLb, hl1, hl2⟩ := hend
      rw [hLa, hLb] at hS
      clear hLa hLb
      obtain ⟨O1, O2, hA, hB, -, -⟩ := hS
      obtain ⟨la, hla⟩ : ∃ la, la = La.length := ⟨_, rfl⟩
      obtain ⟨lb, hlb⟩ : ∃ lb, lb = (P ++ La).length := ⟨_, rfl⟩
      obtain ⟨p, hp⟩ : ∃ p, p = P.length := ⟨_, rfl⟩
      have hpl : p + la = lb := by rw [hp, hlb, hla, List.length_append]
      have q1 : ¬ (n : Int) < la := by omega
      have q2 : ¬ (lb : Int) < la := by omega
      have q3 : IntKind.i64.wrap ((lb : Int) - la) = (p : Int) := by rw [IntKind.wrap_i64]; omega
      have q4 : (p : Int) ≤ lb := by omega
      have q5 : lb - p = la := by omega
      have hsame := fun (W : World) (va vb : Value) (h1 : Src W va la 4 (La.flatMap encL)) (h2 : Src W vb la 4 (La.flatMap encL)) => same_any va vb la La W h1 h2 (by omega)
      have Hsame := Lib.hid hsame
      have Hla := Lib.hid hla
      have Hlb := Lib.hid hlb
      have Hhpl := Lib.hid hpl
      have Hl1 := Lib.hid hl1
      have Hl2 := Lib.hid hl2
      have hlb16 : lb ≤ 16 := by omega
      have Hp := Lib.hid hp
      clear hsame hla hlb hpl hl1 hl2 hp
      by_cases h3 : k < len
      · have h2' : ¬ ((k : Int) < 60) := by omega
        go_wp2_with fail
        refine (lines_any ba n La wr hA (by have := Hl1.out; omega)).mono ?_
        rintro e w5 ⟨v5, rfl, hown5, hk5⟩
        obtain ⟨ao5, c5, hv5, -⟩ := Src.of_own hown5
        rw [← Hla.out] at hv5 hown5
        have Hown5 := Lib.hid hown5
        clear hown5
        subst hv5
        go_wp2_with fail
        refine (lines_any bb n2 (P ++ La) w5 ((TP.ok bb n2 (P ++ La)).kept hB hk5 (fun _ _ h => h)) (by have := Hl2.out; omega)).mono ?_
        rintro e w6 ⟨v6, rfl, hown6, hk6⟩
        obtain ⟨ao6, c6, hv6, -⟩ := Src.of_own hown6
        rw [← Hlb.out] at hv6 hown6
        have hcap6 := own_cap hown6 hv6
        subst hv6
        have s5 := Src.of_own (own_same Hown5.out hk6)
        have s6 := Src.tail (Src.of_own hown6) Hp.out Hla.out
        have Hs5 := Lib.hid s5
        have Hs6 := Lib.hid s6
        replace hkr := (hkr.trans hk5).trans hk6
        clear hown6 s5 s6 hk5 hk6 Hown5 hA hB
        by_cases hc6 : c6 = p
        · subst hc6
          have hla0 : la = 0 := by omega
          have hLa0 : La = [] := List.eq_nil_of_length_eq_zero (by rw [← Hla.out]; exact hla0)
          have Hs7 : Hid (Src w6 (.slice ao6 la 0) la 4 (La.flatMap encL)) := by
            rw [hla0, hLa0]
            exact ⟨_, _, rfl, fun _ => rfl, rfl, fun j u hj => by simp at hj⟩
          clear hla0 hLa0
          go_wp2_with fail
          refine (Hsame.out w6 _ _ Hs7.out Hs5.out).mono ?_
          rintro e w7 ⟨rfl, q, rfl⟩
          go_wp2_with fail
          refine (fixed_any _).mono ?_
          rintro e w8 ⟨rfl, hk8⟩
          go_wp2_with fail
          go_ret
          exact ⟨rfl, none_below ((hkr.drewN q).trans hk8)⟩
        · go_wp2_with fail
          refine (Hsame.out w6 _ _ Hs6.out Hs5.out).mono ?_
          rintro e w7 ⟨rfl, q, rfl⟩
          go_wp2_with fail
          refine (fixed_any _).mono ?_
          rintro e w8 ⟨rfl, hk8⟩
          go_wp2_with fail
          go_ret
          exact ⟨rfl, none_below ((hkr.drewN q).trans hk8)⟩
      · have h3' : ¬ ((k : Int) < len) := by omega
        go_wp2_with fail
        refine (lines_any ba n La wr hA (by have := Hl1.out; omega)).mono ?_
        rintro e w5 ⟨v5, rfl, hown5, hk5⟩
        obtain ⟨ao5, c5, hv5, -⟩ := Src.of_own hown5
        rw [← Hla.out] at hv5 hown5
        have Hown5 := Lib.hid hown5
        clear hown5
        subst hv5
        go_wp2_with fail
        refine (lines_any bb n2 (P ++ La) w5 ((TP.ok bb n2 (P ++ La)).kept hB hk5 (fun _ _ h => h)) (by have := Hl2.out; omega)).mono ?_
        rintro e w6 ⟨v6, rfl, hown6, hk6⟩
        obtain ⟨ao6, c6, hv6, -⟩ := Src.of_own hown6
        rw [← Hlb.out] at hv6 hown6
        have hcap6 := own_cap hown6 hv6
        subst hv6
        have s5 := Src.of_own (own_same Hown5.out hk6)
        have s6 := Src.tail (Src.of_own hown6) Hp.out Hla.out
        have Hs5 := Lib.hid s5
        have Hs6 := Lib.hid s6
        replace hkr := (hkr.trans hk5).trans hk6
        clear hown6 s5 s6 hk5 hk6 Hown5 hA hB
        by_cases hc6 : c6 = p
        · subst hc6
          have hla0 : la = 0 := by omega
          have hLa0 : La = [] := List.eq_nil_of_length_eq_zero (by rw [← Hla.out]; exact hla0)
          have Hs7 : Hid (Src w6 (.slice ao6 la 0) la 4 (La.flatMap encL)) := by
            rw [hla0, hLa0]
            exact ⟨_, _, rfl, fun _ => rfl, rfl, fun j u hj => by simp at hj⟩
          clear hla0 hLa0
          go_wp2_with fail
          refine (Hsame.out w6 _ _ Hs7.out Hs5.out).mono ?_
          rintro e w7 ⟨rfl, q, rfl⟩
          go_wp2_with fail
          refine (fixed_any _).mono ?_
          rintro e w8 ⟨rfl, hk8⟩
          go_wp2_with fail
          go_ret
          exact ⟨rfl, none_below ((hkr.drewN q).trans hk8)⟩
        · go_wp2_with fail
          refine (Hsame.out w6 _ _ Hs6.out Hs5.out).mono ?_
          rintro e w7 ⟨rfl, q, rfl⟩
          go_wp2_with fail
          refine (fixed_any _).mono ?_
          rintro e w8 ⟨rfl, hk8⟩
          go_wp2_with fail
          go_ret
          exact ⟨rfl, none_below ((hkr.drewN q).trans hk8)⟩
end Go.Proofs.Ytgjlghjigfclpaa

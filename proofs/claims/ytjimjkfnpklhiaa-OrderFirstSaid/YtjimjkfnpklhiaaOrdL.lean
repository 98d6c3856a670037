/- Package order: lines, what was told, and whether they are the same. -/
import Derived.Test.YtjimjkfnpklhiaaOrdM
set_option linter.all false
namespace Go.Proofs.Ytjimjkfnpklhiaa
open Go.RowKit

structure Ln where
  sp : Int
  pg : Int
  fr : Int
  ri : Int
deriving DecidableEq
def encL (x : Ln) : List Value := [.int .i64 x.sp, .int .i64 x.pg, .int .i64 x.fr, .int .i64 x.ri]
abbrev aggL (x : Ln) : Value := .agg #[.int .i64 x.sp, .int .i64 x.pg, .int .i64 x.fr, .int .i64 x.ri]
theorem encL_len (x : Ln) : (encL x).length = 4 := rfl
theorem lines_len (L : List Ln) : (L.flatMap encL).length = L.length * 4 := by rw [enc_length encL_len, Nat.mul_comm]
structure Td where
  e : Int
  w : Int
  k : Int
  fg : List Ln
deriving DecidableEq
/-- What was told, as a value; v is the slice. -/
abbrev toldV (x : Td) (v : Value) : Value := .agg #[.int .i64 x.e, .int .u64 x.w, .int .i64 x.k, v]

theorem lines_of_rows : ∀ {rows : List (List Value)}, (∀ x ∈ rows, FlatOk [.int .i64, .int .i64, .int .i64, .int .i64] x) → ∃ L : List Ln, rows.flatten = L.flatMap encL ∧ L.length = rows.length
  | [], _ => ⟨[], rfl, rfl⟩
  | r :: rows, h => by
    obtain ⟨L, h1, h2⟩ := lines_of_rows (rows := rows) (fun x hx => h x (by simp [hx]))
    obtain ⟨a, l1, rfl, _, ha⟩ := (h r (by simp)).int
    obtain ⟨b, l2, rfl, _, hb⟩ := ha.int
    obtain ⟨c, l3, rfl, _, hc⟩ := hb.int
    obtain ⟨d, l4, rfl, _, hd⟩ := hc.int
    obtain rfl := hd.nil
    exact ⟨⟨a, b, c, d⟩ :: L, by simp [h1, encL], by simp [h2]⟩

/-- A slice of lines: its own block and place, if it has any. -/
theorem Src.lines {w : World} {v : Value} {n : Nat} {L : List Ln} (h : Src w v n 4 (L.flatMap encL)) : L.length = n ∧ ∃ ao c, v = .slice ao n c ∧ ∀ i x, L[i]? = some x → ∃ B Of, ao = some ⟨B, Of, none⟩ ∧
    w.cell? ⟨B, Of + i * 4, none⟩ = some (.int .i64 x.sp) ∧ w.cell? ⟨B, Of + i * 4 + 1, none⟩ = some (.int .i64 x.pg) ∧ w.cell? ⟨B, Of + i * 4 + 2, none⟩ = some (.int .i64 x.fr) ∧ w.cell? ⟨B, Of + i * 4 + 3, none⟩ = some (.int .i64 x.ri) := by
  obtain ⟨ao, c, rfl, _, hl, h3⟩ := h
  rw [lines_len] at hl
  refine ⟨by omega, ao, c, rfl, fun i x hx => ?_⟩
  have key : ∀ i x, L[i]? = some x → ∀ j v, j < 4 → (encL x)[j]? = some v → ∃ ad, ao = some ad ∧ w.cell? (ad.add (i * 4 + j)) = some v := by
    intro i x hx j v hj hv
    have := enc_get encL_len hx hj
    rw [hv] at this
    exact h3 _ _ this
  obtain ⟨⟨B, Of, sp⟩, rfl, h0⟩ := key i x hx 0 _ (by omega) rfl
  obtain ⟨x0, hx0⟩ : ∃ x0, L[0]? = some x0 := ⟨_, List.getElem?_eq_getElem (by have := lt_of_some hx; omega)⟩
  obtain ⟨ad, e, h00⟩ := key 0 x0 hx0 0 _ (by omega) rfl
  cases e
  have hsp : sp = none := by
    have := spot_of_cell h00
    simpa [Addr.add] using this
  subst hsp
  have k2 : ∀ j v, j < 4 → (encL x)[j]? = some v → w.cell? ⟨B, Of + i * 4 + j, none⟩ = some v := by
    intro j v hj hv
    obtain ⟨ad, e, h⟩ := key i x hx j v hj hv
    cases e
    rw [addr_add, ← Nat.add_assoc] at h
    exact h
  exact ⟨B, Of, rfl, by simpa using k2 0 _ (by omega) rfl, k2 1 _ (by omega) rfl, k2 2 _ (by omega) rfl, k2 3 _ (by omega) rfl⟩

theorem take_snoc {α : Type} {L M : List α} {k : Nat} {x : α} (h : L.take k = M.take k) (hx : L[k]? = some x) (hy : M[k]? = some x) : L.take (k + 1) = M.take (k + 1) := by
  rw [List.take_succ, List.take_succ, h, hx, hy]

set_option maxRecDepth 100000 in
set_option maxHeartbeats 4000000 in
theorem equal38 (va vb : Value) (n m : Nat) (L M : List Ln) (w : World) (ha : Src w va n 4 (L.flatMap encL)) (hb : Src w vb m 4 (M.flatMap encL)) (hn : n ≤ 1000000) (hm : m ≤ 1000000) (r : Bool) (hr : decide (L = M) = r) :
    Calls Try.prog 38 #[va, vb] w fun e w' => e = .returned (.bool r) ∧ ∃ q, w' = w.drewN q := by
  obtain ⟨hl, ao, ca, rfl, hca⟩ := ha.lines
  obtain ⟨hl', bo, cb, rfl, hcb⟩ := hb.lines
  by_cases hnm : n = m
  · subst hnm
    have Hl := Lib.hid hl
    have Hl' := Lib.hid hl'
    have Ha := Lib.hid hca
    have Hb := Lib.hid hcb
    have Hr := Lib.hid hr
    clear hl hl' hca hcb ha hb hr
    go_enter Try.func38, Try.ntmps38
    go_wp2
    go_loopw [13] (fun i wr => ∃ k : Nat, k ≤ n ∧ i = .int .i64 k ∧ Hid (L.take k = M.take k) ∧ (∃ q, wr = w.drewN q)) (fun i _ => n - (intOf i).toNat)
    case atStart => exact ⟨0, Nat.zero_le _, rfl, rfl, 0, rfl⟩
    case round =>
      obtain ⟨k, hk, rfl, hT, q, rfl⟩ := hrel
      by_cases hlt : k < n
      · obtain ⟨x, hx⟩ : ∃ x, L[k]? = some x := ⟨_, List.getElem?_eq_getElem (by have := Hl.out; omega)⟩
        obtain ⟨y, hy⟩ : ∃ y, M[k]? = some y := ⟨_, List.getElem?_eq_getElem (by have := Hl'.out; omega)⟩
        obtain ⟨B, Of, rfl, a0, a1, a2, a3⟩ := Ha.out k x hx
        obtain ⟨B', Of', rfl, b0, b1, b2, b3⟩ := Hb.out k y hy
        have Hx := Lib.hid hx
        have Hy := Lib.hid hy
        clear hx hy
        obtain ⟨x0, x1, x2, x3⟩ := x
        obtain ⟨y0, y1, y2, y3⟩ := y
        by_cases e0 : x0 = y0
        · by_cases e1 : x1 = y1
          · by_cases e2 : x2 = y2
            · by_cases e3 : x3 = y3
              · subst e0 e1 e2 e3
                go_wp2
                go_quiet (fail)
                go_wp2
                go_roundw
                case rel => exact ⟨k + 1, by omega, by go_num, take_snoc hT.out Hx.out Hy.out, _, rfl⟩
                case measure => simp [intOf]; omega
              · have f3 : (x3 == y3) = false := by simpa using e3
                subst e0 e1 e2
                go_wp2
                go_quiet (fail)
                go_wp2
                go_ret
                refine ⟨ret_bool ?_, _, World.drewN_drewN _ _ _⟩
                rw [← Hr.out]
                exact (decide_eq_false (by rintro rfl; have h1 := Hx.out.symm.trans Hy.out; simp at h1; simp_all)).symm
            · have f2 : (x2 == y2) = false := by simpa using e2
              subst e0 e1
              go_wp2
              go_quiet (fail)
              go_wp2
              go_ret
              refine ⟨ret_bool ?_, _, World.drewN_drewN _ _ _⟩
              rw [← Hr.out]
              exact (decide_eq_false (by rintro rfl; have h1 := Hx.out.symm.trans Hy.out; simp at h1; simp_all)).symm
          · have f1 : (x1 == y1) = false := by simpa using e1
            subst e0
            go_wp2
            go_quiet (fail)
            go_wp2
            go_ret
            refine ⟨ret_bool ?_, _, World.drewN_drewN _ _ _⟩
            rw [← Hr.out]
            exact (decide_eq_false (by rintro rfl; have h1 := Hx.out.symm.trans Hy.out; simp at h1; simp_all)).symm
        · have f0 : (x0 == y0) = false := by simpa using e0
          go_wp2
          go_quiet (fail)
          go_wp2
          go_ret
          refine ⟨ret_bool ?_, _, World.drewN_drewN _ _ _⟩
          rw [← Hr.out]
          exact (decide_eq_false (by rintro rfl; have h1 := Hx.out.symm.trans Hy.out; simp at h1; simp_all)).symm
      · go_wp2
        go_ret
        refine ⟨ret_bool ?_, _, rfl⟩
        rw [← Hr.out]
        have h1 := hT.out
        rw [List.take_of_length_le (by rw [Hl.out]; omega), List.take_of_length_le (by rw [Hl'.out]; omega)] at h1
        simp [h1]
  · have hne : ((n : Int) != (m : Int)) = true := by rw [bne_iff_ne]; omega
    have hxy : r = false := by rw [← hr]; exact decide_eq_false (by rintro rfl; omega)
    subst hxy
    clear hca hcb ha hb hr hl hl'
    go_enter Try.func38, Try.ntmps38
    go_wp2
    go_ret
    exact ⟨rfl, 0, rfl⟩
set_option maxRecDepth 100000 in
set_option maxHeartbeats 4000000 in
theorem lines35 (va vb : Value) (n m : Nat) (L M : List Ln) (w : World) (ha : Src w va n 4 (L.flatMap encL)) (hb : Src w vb m 4 (M.flatMap encL)) (hn : n ≤ 1000000) (hm : m ≤ 1000000) (r : Bool) (hr : decide (L = M) = r) :
    Calls Try.prog 35 #[va, vb] w fun e w' => e = .returned (.bool r) ∧ ∃ q, w' = w.drewN q := by
  obtain ⟨hl, ao, ca, rfl, hca⟩ := ha.lines
  obtain ⟨hl', bo, cb, rfl, hcb⟩ := hb.lines
  by_cases hnm : n = m
  · subst hnm
    have Hl := Lib.hid hl
    have Hl' := Lib.hid hl'
    have Ha := Lib.hid hca
    have Hb := Lib.hid hcb
    have Hr := Lib.hid hr
    clear hl hl' hca hcb ha hb hr
    go_enter Try.func35, Try.ntmps35
    go_wp2
    go_loopw [5] (fun i wr => ∃ k : Nat, k ≤ n ∧ i = .int .i64 k ∧ Hid (L.take k = M.take k) ∧ (∃ q, wr = w.drewN q)) (fun i _ => n - (intOf i).toNat)
    case atStart => exact ⟨0, Nat.zero_le _, rfl, rfl, 0, rfl⟩
    case round =>
      obtain ⟨k, hk, rfl, hT, q, rfl⟩ := hrel
      by_cases hlt : k < n
      · obtain ⟨x, hx⟩ : ∃ x, L[k]? = some x := ⟨_, List.getElem?_eq_getElem (by have := Hl.out; omega)⟩
        obtain ⟨y, hy⟩ : ∃ y, M[k]? = some y := ⟨_, List.getElem?_eq_getElem (by have := Hl'.out; omega)⟩
        obtain ⟨B, Of, rfl, a0, a1, a2, a3⟩ := Ha.out k x hx
        obtain ⟨B', Of', rfl, b0, b1, b2, b3⟩ := Hb.out k y hy
        have Hx := Lib.hid hx
        have Hy := Lib.hid hy
        clear hx hy
        obtain ⟨x0, x1, x2, x3⟩ := x
        obtain ⟨y0, y1, y2, y3⟩ := y
        by_cases e0 : x0 = y0
        · by_cases e1 : x1 = y1
          · by_cases e2 : x2 = y2
            · by_cases e3 : x3 = y3
              · subst e0 e1 e2 e3
                go_wp2
                go_quiet (fail)
                go_wp2
                go_roundw
                case rel => exact ⟨k + 1, by omega, by go_num, take_snoc hT.out Hx.out Hy.out, _, rfl⟩
                case measure => simp [intOf]; omega
              · have f3 : (x3 == y3) = false := by simpa using e3
                subst e0 e1 e2
                go_wp2
                go_quiet (fail)
                go_wp2
                go_ret
                refine ⟨ret_bool ?_, _, World.drewN_drewN _ _ _⟩
                rw [← Hr.out]
                exact (decide_eq_false (by rintro rfl; have h1 := Hx.out.symm.trans Hy.out; simp at h1; simp_all)).symm
            · have f2 : (x2 == y2) = false := by simpa using e2
              subst e0 e1
              go_wp2
              go_quiet (fail)
              go_wp2
              go_ret
              refine ⟨ret_bool ?_, _, World.drewN_drewN _ _ _⟩
              rw [← Hr.out]
              exact (decide_eq_false (by rintro rfl; have h1 := Hx.out.symm.trans Hy.out; simp at h1; simp_all)).symm
          · have f1 : (x1 == y1) = false := by simpa using e1
            subst e0
            go_wp2
            go_quiet (fail)
            go_wp2
            go_ret
            refine ⟨ret_bool ?_, _, World.drewN_drewN _ _ _⟩
            rw [← Hr.out]
            exact (decide_eq_false (by rintro rfl; have h1 := Hx.out.symm.trans Hy.out; simp at h1; simp_all)).symm
        · have f0 : (x0 == y0) = false := by simpa using e0
          go_wp2
          go_quiet (fail)
          go_wp2
          go_ret
          refine ⟨ret_bool ?_, _, World.drewN_drewN _ _ _⟩
          rw [← Hr.out]
          exact (decide_eq_false (by rintro rfl; have h1 := Hx.out.symm.trans Hy.out; simp at h1; simp_all)).symm
      · go_wp2
        go_ret
        refine ⟨ret_bool ?_, _, rfl⟩
        rw [← Hr.out]
        have h1 := hT.out
        rw [List.take_of_length_le (by rw [Hl.out]; omega), List.take_of_length_le (by rw [Hl'.out]; omega)] at h1
        simp [h1]
  · have hne : ((n : Int) != (m : Int)) = true := by rw [bne_iff_ne]; omega
    have hxy : r = false := by rw [← hr]; exact decide_eq_false (by rintro rfl; omega)
    subst hxy
    clear hca hcb ha hb hr hl hl'
    go_enter Try.func35, Try.ntmps35
    go_wp2
    go_ret
    exact ⟨rfl, 0, rfl⟩
set_option maxRecDepth 100000 in
set_option maxHeartbeats 4000000 in
theorem same_any (va vb : Value) (x y : Td) (w : World) (ha : Src w va x.fg.length 4 (x.fg.flatMap encL)) (hb : Src w vb y.fg.length 4 (y.fg.flatMap encL)) (hn : x.fg.length ≤ 1000000) (hm : y.fg.length ≤ 1000000) (r : Bool) (hr : decide (x = y) = r) :
    Calls Try.prog 33 #[toldV x va, toldV y vb] w fun e w' => e = .returned (.bool r) ∧ New w w' := by
  obtain ⟨xe, xw, xk, xf⟩ := x
  obtain ⟨ye, yw, yk, yf⟩ := y
  simp only at ha hb hn hm
  have Ha := Lib.hid ha
  have Hb := Lib.hid hb
  have Hr := Lib.hid hr
  have hcall : ∀ W, New w W → Calls Try.prog 38 #[va, vb] W fun e w' => e = .returned (.bool (decide (xf = yf))) ∧ ∃ q, w' = W.drewN q := fun W k => equal38 va vb _ _ xf yf W (ha.same k) (hb.same k) hn hm _ rfl
  have Hcall := Lib.hid hcall
  have k0 : New w ((w.alloc (.cells #[.int .i64 xe, .int .u64 xw, .int .i64 xk, va] 36)).alloc (.cells #[.int .i64 ye, .int .u64 yw, .int .i64 yk, vb] 36)) := ((Kept.refl _ _).alloc _).alloc _
  have K0 := Lib.hid k0
  clear ha hb hr hcall k0
  by_cases e0 : xe = ye
  · by_cases e1 : xw = yw
    · by_cases e2 : xk = yk
      · subst e0 e1 e2
        obtain ⟨r', hr'⟩ : ∃ r', r' = decide (xf = yf) := ⟨_, rfl⟩
        have Hc := Lib.hid (hr' ▸ Hcall.out _ K0.out)
        have hrr : r' = r := by rw [hr', ← Hr.out]; simp
        subst hrr
        clear hr' Hcall
        go_enter Try.func33, Try.ntmps33
        go_wp2_with fail
        refine Hc.out.mono ?_
        rintro e w1 ⟨rfl, q, rfl⟩
        go_wp2_with fail
        go_ret
        exact ⟨rfl, K0.out.drewN _⟩
      · have f2 : (xk == yk) = false := by simpa using e2
        subst e0 e1
        obtain rfl : r = false := by rw [← Hr.out]; exact decide_eq_false (by simp_all)
        clear Hcall
        go_enter Try.func33, Try.ntmps33
        go_wp2_with fail
        go_ret
        exact ⟨rfl, K0.out⟩
    · have f1 : (xw == yw) = false := by simpa using e1
      subst e0
      obtain rfl : r = false := by rw [← Hr.out]; exact decide_eq_false (by simp_all)
      clear Hcall
      go_enter Try.func33, Try.ntmps33
      go_wp2_with fail
      go_ret
      exact ⟨rfl, K0.out⟩
  · have f0 : (xe == ye) = false := by simpa using e0
    obtain rfl : r = false := by rw [← Hr.out]; exact decide_eq_false (by simp_all)
    clear Hcall
    go_enter Try.func33, Try.ntmps33
    go_wp2_with fail
    go_ret
    exact ⟨rfl, K0.out⟩
set_option maxRecDepth 100000 in
set_option maxHeartbeats 4000000 in
theorem rsame_any (va vb : Value) (x y : Td) (w : World) (ha : Src w va x.fg.length 4 (x.fg.flatMap encL)) (hb : Src w vb y.fg.length 4 (y.fg.flatMap encL)) (hn : x.fg.length ≤ 1000000) (hm : y.fg.length ≤ 1000000) (r : Bool) (hr : decide (x = y) = r) :
    Calls Try.prog 29 #[toldV x va, toldV y vb] w fun e w' => e = .returned (.bool r) ∧ New w w' := by
  obtain ⟨xe, xw, xk, xf⟩ := x
  obtain ⟨ye, yw, yk, yf⟩ := y
  simp only at ha hb hn hm
  have Ha := Lib.hid ha
  have Hb := Lib.hid hb
  have Hr := Lib.hid hr
  have hcall : ∀ W, New w W → Calls Try.prog 35 #[va, vb] W fun e w' => e = .returned (.bool (decide (xf = yf))) ∧ ∃ q, w' = W.drewN q := fun W k => lines35 va vb _ _ xf yf W (ha.same k) (hb.same k) hn hm _ rfl
  have Hcall := Lib.hid hcall
  have k0 : New w ((w.alloc (.cells #[.int .i64 xe, .int .u64 xw, .int .i64 xk, va] 36)).alloc (.cells #[.int .i64 ye, .int .u64 yw, .int .i64 yk, vb] 36)) := ((Kept.refl _ _).alloc _).alloc _
  have K0 := Lib.hid k0
  clear ha hb hr hcall k0
  by_cases e0 : xe = ye
  · by_cases e1 : xw = yw
    · by_cases e2 : xk = yk
      · subst e0 e1 e2
        obtain ⟨r', hr'⟩ : ∃ r', r' = decide (xf = yf) := ⟨_, rfl⟩
        have Hc := Lib.hid (hr' ▸ Hcall.out _ K0.out)
        have hrr : r' = r := by rw [hr', ← Hr.out]; simp
        subst hrr
        clear hr' Hcall
        go_enter Try.func29, Try.ntmps29
        go_wp2_with fail
        refine Hc.out.mono ?_
        rintro e w1 ⟨rfl, q, rfl⟩
        go_wp2_with fail
        go_ret
        exact ⟨rfl, K0.out.drewN _⟩
      · have f2 : (xk == yk) = false := by simpa using e2
        subst e0 e1
        obtain rfl : r = false := by rw [← Hr.out]; exact decide_eq_false (by simp_all)
        clear Hcall
        go_enter Try.func29, Try.ntmps29
        go_wp2_with fail
        go_ret
        exact ⟨rfl, K0.out⟩
    · have f1 : (xw == yw) = false := by simpa using e1
      subst e0
      obtain rfl : r = false := by rw [← Hr.out]; exact decide_eq_false (by simp_all)
      clear Hcall
      go_enter Try.func29, Try.ntmps29
      go_wp2_with fail
      go_ret
      exact ⟨rfl, K0.out⟩
  · have f0 : (xe == ye) = false := by simpa using e0
    obtain rfl : r = false := by rw [← Hr.out]; exact decide_eq_false (by simp_all)
    clear Hcall
    go_enter Try.func29, Try.ntmps29
    go_wp2_with fail
    go_ret
    exact ⟨rfl, K0.out⟩
end Go.Proofs.Ytjimjkfnpklhiaa

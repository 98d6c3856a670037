/- Package tlb: lines of which something is so go from a slice. -/
import Derived.Test.YtgjlghjigfclpaaTlbA
set_option linter.all false
namespace Go.Proofs.Ytgjlghjigfclpaa
open Go.RowKit

theorem encL_len (x : Ln) : (encL x).length = 4 := rfl
theorem lines_len (L : List Ln) : (L.flatMap encL).length = L.length * 4 := by rw [enc_length encL_len, Nat.mul_comm]

/-- What holds of each of the lines that a slice's block holds. -/
theorem Row.line {w : World} {g cap : Nat} {L : List Ln} (h : Row w g cap 34 (L.flatMap encL)) {k : Nat} {x : Ln} (hx : L[k]? = some x) :
    w.cell? ⟨g, k * 4, none⟩ = some (.int .i64 x.sp) ∧ w.cell? ⟨g, k * 4 + 1, none⟩ = some (.int .i64 x.pg) ∧ w.cell? ⟨g, k * 4 + 2, none⟩ = some (.int .i64 x.fr) ∧ w.cell? ⟨g, k * 4 + 3, none⟩ = some (.int .i64 x.ri) := by
  have hk := lt_of_some hx
  have hl := lines_len L
  have key : ∀ j v, j < 4 → (encL x)[j]? = some v → w.cell? ⟨g, k * 4 + j, none⟩ = some v := by
    intro j v hj hv
    have := enc_get encL_len hx hj
    rw [hv] at this
    have hlt := lt_of_some this
    rw [h.cell hlt]
    rw [List.getElem?_eq_getElem hlt] at this
    exact this
  exact ⟨by simpa using key 0 _ (by omega) rfl, key 1 _ (by omega) rfl, key 2 _ (by omega) rfl, key 3 _ (by omega) rfl⟩

theorem Row.put {w : World} {g cap : Nat} {L : List Ln} (h : Row w g cap 34 (L.flatMap encL)) {k : Nat} {y : Ln} (x : Ln) (hy : L[k]? = some y) :
    Row ((((w.setCell ⟨g, k * 4, none⟩ (.int .i64 x.sp)).setCell ⟨g, k * 4 + 1, none⟩ (.int .i64 x.pg)).setCell ⟨g, k * 4 + 2, none⟩ (.int .i64 x.fr)).setCell ⟨g, k * 4 + 3, none⟩ (.int .i64 x.ri)) g cap 34 ((L.set k x).flatMap encL) := by
  rw [← enc_put encL_len hy]
  exact (((h.set (k * 4) _).set (k * 4 + 1) _).set (k * 4 + 2) _).set (k * 4 + 3) _

set_option maxRecDepth 100000 in
/-- The first line of which all is so. -/
theorem index39_any (so v : Value) (ps : List Ask) (bb : Nat) (L : List Ln) (w : World) (hs : Asks w so ps) (hb : w.heap[bb]? = some (.cells #[so] 62 (0, 0))) (hown : w.ownsRow 0 34 4 v L.length (L.flatMap encL)) (hL : L.length ≤ 1000000) :
    Calls Try.prog 39 #[v, .func (.func 33) #[] #[.pointer (some ⟨bb, 0, none⟩)]] w fun e w' => ∃ r : Int, e = .returned (.int .i64 r) ∧ New w w' ∧
      ((r = -1 ∧ ∀ x ∈ L, ps.all (fun p => p.ok x) = false) ∨ ∃ k : Nat, ∃ x, r = k ∧ L[k]? = some x ∧ ps.all (fun p => p.ok x) = true ∧ ∀ y ∈ L.take k, ps.all (fun p => p.ok y) = false) := by
  obtain ⟨ao, c, rfl, hao, -, hcell⟩ := Src.of_own hown
  have Hcell := Lib.hid hcell
  have Hown := Lib.hid hown
  clear hcell hown hao
  obtain ⟨len, hlen⟩ : ∃ len, len = L.length := ⟨_, rfl⟩
  have Hlen := Lib.hid hlen
  rw [← hlen] at hL ⊢
  clear hlen
  go_enter Try.func39, Try.ntmps39
  go_wp2_with fail
  go_loopw [8] (fun i wr => ∃ k : Nat, k ≤ len ∧ i = .int .i64 k ∧ Hid (∀ y ∈ L.take k, ps.all (fun p => p.ok y) = false) ∧ New w wr) (fun i _ => len - (intOf i).toNat)
  case atStart => exact ⟨0, by omega, rfl, by simp [Hid], Kept.refl _ _⟩
  case round =>
    obtain ⟨k, hk, rfl, Hk, hkp⟩ := hrel
    by_cases h1 : k < len
    · obtain ⟨x, hx⟩ : ∃ x, L[k]? = some x := ⟨_, List.getElem?_eq_getElem (by rw [← Hlen.out]; omega)⟩
      have Hx := Lib.hid hx
      obtain ⟨g, cap, hv, -, hrow, -⟩ := Row.of_ownS (own_same Hown.out hkp) (by have := Hlen.out; omega)
      simp only [Value.slice.injEq] at hv
      obtain ⟨rfl, -, rfl⟩ := hv
      obtain ⟨hc0, hc1, hc2, hc3⟩ := hrow.line hx
      have hw := want_any so ps bb x _ (hs.same hkp) (hkp.heap hb (fun h => h))
      clear hx hrow
      cases hr : ps.all (fun p => p.ok x) with
      | true =>
        rw [hr] at hw
        have Hr := Lib.hid hr
        clear hr
        go_wp2_with fail
        refine hw.mono ?_
        rintro e w1 ⟨rfl, hk1⟩
        go_wp2
        go_ret
        exact ⟨k, rfl, hkp.trans hk1, .inr ⟨k, x, rfl, Hx.out, Hr.out, Hk.out⟩⟩
      | false =>
        rw [hr] at hw
        have Hr := Lib.hid hr
        clear hr
        go_wp2_with fail
        refine hw.mono ?_
        rintro e w1 ⟨rfl, hk1⟩
        go_wp2_with fail
        go_roundw
        case rel => exact ⟨k + 1, by omega, by go_num, by
          show ∀ y ∈ L.take (k + 1), ps.all (fun p => p.ok y) = false
          rw [List.take_add_one, Hx.out]
          intro y hy
          simp at hy
          rcases hy with hy | rfl
          · exact Hk.out y hy
          · exact Hr.out, hkp.trans hk1⟩
        case measure => simp [intOf]; omega
    · go_wp2
      go_ret
      refine ⟨-1, rfl, hkp, .inl ⟨rfl, ?_⟩⟩
      have h2 := Hk.out
      rw [List.take_of_length_le (by have := Hlen.out; omega)] at h2
      exact h2
end Go.Proofs.Ytgjlghjigfclpaa

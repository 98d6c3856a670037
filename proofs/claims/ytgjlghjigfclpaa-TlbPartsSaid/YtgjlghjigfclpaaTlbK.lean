/- Package tlb: slices of lines that are read; the reference's Same. -/
import Derived.Test.YtgjlghjigfclpaaTlbJ
set_option linter.all false
namespace Go.Proofs.Ytgjlghjigfclpaa
open Go.RowKit

theorem lines_of_rows : ∀ {rows : List (List Value)}, (∀ x ∈ rows, FlatOk [.int .i64, .int .i64, .int .i64, .int .i64] x) → ∃ L : List Ln, rows.flatten = L.flatMap encL ∧ L.length = rows.length
  | [], _ => ⟨[], rfl, rfl⟩
  | r :: rows, h => by
    obtain ⟨L, h1, h2⟩ := lines_of_rows (rows := rows) (fun x hx => h x (by simp [hx]))
    obtain ⟨a, l1, rfl, _, ha⟩ := (h r (by simp)).int
    obtain ⟨b, l2, rfl, _, hb⟩ := ha.int
    obtain ⟨c, l3, rfl, _, hc⟩ := hb.int
    obtain ⟨d, l4, rfl, _, hd⟩ := hc.int
    obtain rfl := hd.nil
    exact ⟨⟨a, b, c, d⟩ :: L, by simp [h1, encL], by simp [h2]⟩

theorem line_of_flat {cs : List Value} (h : FlatOk [.int .i64, .int .i64, .int .i64, .int .i64] cs) : ∃ x : Ln, cs = encL x := by
  obtain ⟨a, l1, rfl, _, ha⟩ := h.int
  obtain ⟨b, l2, rfl, _, hb⟩ := ha.int
  obtain ⟨c, l3, rfl, _, hc⟩ := hb.int
  obtain ⟨d, l4, rfl, _, hd⟩ := hc.int
  obtain rfl := hd.nil
  exact ⟨⟨a, b, c, d⟩, rfl⟩

/-- A slice of lines: its own block and place, if it has any. -/
theorem Src.lines {w : World} {v : Value} {n : Nat} {L : List Ln} (h : Src w v n 4 (L.flatMap encL)) : L.length = n ∧ ∃ ao c, v = .slice ao n c ∧ ∀ i x, L[i]? = some x → ∃ B Of, ao = some ⟨B, Of, none⟩ ∧
    w.cell? ⟨B, Of + i * 4, none⟩ = some (.int .i64 x.sp) ∧ w.cell? ⟨B, Of + i * 4 + 1, none⟩ = some (.int .i64 x.pg) ∧ w.cell? ⟨B, Of + i * 4 + 2, none⟩ = some (.int .i64 x.fr) ∧ w.cell? ⟨B, Of + i * 4 + 3, none⟩ = some (.int .i64 x.ri) := by
  obtain ⟨ao, c, rfl, _, hl, h3⟩ := h
  rw [lines_len] at hl
  refine ⟨by omega, ao, c, rfl, fun i x hx => ?_⟩
  have key : ∀ i x, L[i]? = some x → ∀ j v, j < 4 → (encL x)[j]? = some v → ∃ ad, ao = some ad ∧ w.cell? (ad.add (i * 4 + j)) = some v := by
    intro i x hx j v hj hv
    have := enc_get encL_len hx hj
    rw [hv] at this
    exact h3 _ _ this
  obtain ⟨⟨B, Of, sp⟩, rfl, h0⟩ := key i x hx 0 _ (by omega) rfl
  obtain ⟨x0, hx0⟩ : ∃ x0, L[0]? = some x0 := ⟨_, List.getElem?_eq_getElem (by have := lt_of_some hx; omega)⟩
  obtain ⟨ad, e, h00⟩ := key 0 x0 hx0 0 _ (by omega) rfl
  cases e
  have hsp : sp = none := by
    have := spot_of_cell h00
    simpa [Addr.add] using this
  subst hsp
  have k2 : ∀ j v, j < 4 → (encL x)[j]? = some v → w.cell? ⟨B, Of + i * 4 + j, none⟩ = some v := by
    intro j v hj hv
    obtain ⟨ad, e, h⟩ := key i x hx j v hj hv
    cases e
    rw [addr_add, ← Nat.add_assoc] at h
    exact h
  exact ⟨B, Of, rfl, by simpa using k2 0 _ (by omega) rfl, k2 1 _ (by omega) rfl, k2 2 _ (by omega) rfl, k2 3 _ (by omega) rfl⟩

set_option maxRecDepth 100000 in
set_option maxHeartbeats 1000000 in
theorem same_any (va vb : Value) (n : Nat) (L : List Ln) (w : World) (ha : Src w va n 4 (L.flatMap encL)) (hb : Src w vb n 4 (L.flatMap encL)) (hn : n ≤ 1000000) :
    Calls Try.prog 13 #[va, vb] w fun e w' => e = .returned (.bool true) ∧ ∃ q, w' = w.drewN q := by
  obtain ⟨hl, ao, ca, rfl, hca⟩ := ha.lines
  obtain ⟨-, bo, cb, rfl, hcb⟩ := hb.lines
  have Hl := Lib.hid hl
  have Ha := Lib.hid hca
  have Hb := Lib.hid hcb
  clear hl hca hcb ha hb
  go_enter Try.func13, Try.ntmps13
  go_wp2
  go_loopw [5] (fun i wr => ∃ k : Nat, k ≤ n ∧ i = .int .i64 k ∧ (∃ q, wr = w.drewN q)) (fun i _ => n - (intOf i).toNat)
  case atStart => exact ⟨0, Nat.zero_le _, rfl, 0, rfl⟩
  case round =>
    obtain ⟨k, hk, rfl, q, rfl⟩ := hrel
    by_cases hlt : k < n
    · obtain ⟨x, hx⟩ : ∃ x, L[k]? = some x := ⟨_, List.getElem?_eq_getElem (by have := Hl.out; omega)⟩
      obtain ⟨B, Of, rfl, a0, a1, a2, a3⟩ := Ha.out k x hx
      obtain ⟨B', Of', rfl, b0, b1, b2, b3⟩ := Hb.out k x hx
      clear hx
      go_wp2
      go_quiet (fail)
      go_wp2
      go_roundw
      case rel => exact ⟨k + 1, by omega, by go_num, _, rfl⟩
      case measure => simp [intOf]; omega
    · go_wp2
      go_ret
      exact ⟨rfl, _, rfl⟩
end Go.Proofs.Ytgjlghjigfclpaa

/- Package endpoint: those that wait, with their messages; slices of them. -/
import Derived.Test.YtanongcaokldmaaRows
import Derived.Test.YtanongcaokldmaaBase
import Derived.Test.YtanongcaokldmaaArgs
import Derived.WalkKit
import Derived.Outline
import Derived.WalkSpells
import Derived.WalkLawsBesides
import Derived.Deep.QuietTactic
import Derived.BigQuiet
import Derived.StillTailTactics
set_option linter.all false
namespace Go.Proofs.Ytanongcaokldmaa
open Go.RowKit

/-- One that waits: who, its message (label, four words, badge, does it call). -/
structure On where
  who : Int
  la : Int
  w0 : Int
  w1 : Int
  w2 : Int
  w3 : Int
  bg : Int
  ca : Bool
deriving DecidableEq
def encO (x : On) : List Value := [.int .i64 x.who, .int .i64 x.la, .int .u64 x.w0, .int .u64 x.w1, .int .u64 x.w2, .int .u64 x.w3, .int .u64 x.bg, .bool x.ca]
abbrev aggO (x : On) : Value := .agg #[.int .i64 x.who, .int .i64 x.la, .int .u64 x.w0, .int .u64 x.w1, .int .u64 x.w2, .int .u64 x.w3, .int .u64 x.bg, .bool x.ca]
abbrev blkO (x : On) : Obj := .cells #[.int .i64 x.who, .int .i64 x.la, .int .u64 x.w0, .int .u64 x.w1, .int .u64 x.w2, .int .u64 x.w3, .int .u64 x.bg, .bool x.ca] 57
theorem info57 : (Try.prog.info? 57).map (fun i => (i.zero, i.size, i.bytes)) = some (some (aggO ⟨0, 0, 0, 0, 0, 0, 0, false⟩), 8, 64) := by kernel_rfl
theorem zc8 : (aggO ⟨0, 0, 0, 0, 0, 0, 0, false⟩).cells.size = 8 := rfl
theorem encO_len (x : On) : (encO x).length = 8 := rfl
theorem ones_len (L : List On) : (L.flatMap encO).length = L.length * 8 := by rw [enc_length encO_len, Nat.mul_comm]
theorem encO_one (L : List On) : ∀ u ∈ L.flatMap encO, u.oneCell' = true := by
  intro u hu
  simp only [List.mem_flatMap] at hu
  obtain ⟨x, _, hx⟩ := hu
  simp [encO] at hx
  rcases hx with rfl | rfl | rfl | rfl | rfl | rfl | rfl | rfl <;> rfl
theorem encO_one1 (x : On) : ∀ u ∈ encO x, u.oneCell' = true := by
  intro u hu
  simp [encO] at hu
  rcases hu with rfl | rfl | rfl | rfl | rfl | rfl | rfl | rfl <;> rfl
theorem encO_snoc (L : List On) (x : On) : (L ++ [x]).flatMap encO = L.flatMap encO ++ encO x := by simp

theorem Row.one {w : World} {g cap : Nat} {L : List On} (h : Row w g cap 57 (L.flatMap encO)) {k : Nat} {x : On} (hx : L[k]? = some x) :
    w.cell? ⟨g, k * 8, none⟩ = some (.int .i64 x.who) ∧ w.cell? ⟨g, k * 8 + 1, none⟩ = some (.int .i64 x.la) ∧ w.cell? ⟨g, k * 8 + 2, none⟩ = some (.int .u64 x.w0) ∧ w.cell? ⟨g, k * 8 + 3, none⟩ = some (.int .u64 x.w1) ∧ w.cell? ⟨g, k * 8 + 4, none⟩ = some (.int .u64 x.w2) ∧ w.cell? ⟨g, k * 8 + 5, none⟩ = some (.int .u64 x.w3) ∧ w.cell? ⟨g, k * 8 + 6, none⟩ = some (.int .u64 x.bg) ∧ w.cell? ⟨g, k * 8 + 7, none⟩ = some (.bool x.ca) := by
  have key : ∀ j v, j < 8 → (encO x)[j]? = some v → w.cell? ⟨g, k * 8 + j, none⟩ = some v := by
    intro j v hj hv
    have := enc_get encO_len hx hj
    rw [hv] at this
    have hlt := lt_of_some this
    rw [h.cell hlt]
    rw [List.getElem?_eq_getElem hlt] at this
    exact this
  exact ⟨by simpa using key 0 _ (by omega) rfl, key 1 _ (by omega) rfl, key 2 _ (by omega) rfl, key 3 _ (by omega) rfl, key 4 _ (by omega) rfl, key 5 _ (by omega) rfl, key 6 _ (by omega) rfl, key 7 _ (by omega) rfl⟩
theorem Row.put {w : World} {g cap : Nat} {L : List On} (h : Row w g cap 57 (L.flatMap encO)) {k : Nat} {y : On} (x : On) (hy : L[k]? = some y) :
    Row ((((((((w.setCell ⟨g, k * 8, none⟩ (.int .i64 x.who)).setCell ⟨g, k * 8 + 1, none⟩ (.int .i64 x.la)).setCell ⟨g, k * 8 + 2, none⟩ (.int .u64 x.w0)).setCell ⟨g, k * 8 + 3, none⟩ (.int .u64 x.w1)).setCell ⟨g, k * 8 + 4, none⟩ (.int .u64 x.w2)).setCell ⟨g, k * 8 + 5, none⟩ (.int .u64 x.w3)).setCell ⟨g, k * 8 + 6, none⟩ (.int .u64 x.bg)).setCell ⟨g, k * 8 + 7, none⟩ (.bool x.ca)) g cap 57 ((L.set k x).flatMap encO) := by
  rw [← enc_put encO_len hy]
  exact (((((((h.set (k * 8) _).set (k * 8 + 1) _).set (k * 8 + 2) _).set (k * 8 + 3) _).set (k * 8 + 4) _).set (k * 8 + 5) _).set (k * 8 + 6) _).set (k * 8 + 7) _
theorem put_kept (w : World) (g k : Nat) (x : On) : Kept (fun i => i = g) w ((((((((w.setCell ⟨g, k * 8, none⟩ (.int .i64 x.who)).setCell ⟨g, k * 8 + 1, none⟩ (.int .i64 x.la)).setCell ⟨g, k * 8 + 2, none⟩ (.int .u64 x.w0)).setCell ⟨g, k * 8 + 3, none⟩ (.int .u64 x.w1)).setCell ⟨g, k * 8 + 4, none⟩ (.int .u64 x.w2)).setCell ⟨g, k * 8 + 5, none⟩ (.int .u64 x.w3)).setCell ⟨g, k * 8 + 6, none⟩ (.int .u64 x.bg)).setCell ⟨g, k * 8 + 7, none⟩ (.bool x.ca)) :=
  (Kept.refl (fun i => i = g) w).setCell (.inr rfl) _ |>.setCell (.inr rfl) _ |>.setCell (.inr rfl) _ |>.setCell (.inr rfl) _ |>.setCell (.inr rfl) _ |>.setCell (.inr rfl) _ |>.setCell (.inr rfl) _ |>.setCell (.inr rfl) _
theorem own_one {w : World} {base g n c : Nat} {L : List On} (h : w.ownsRow base 57 8 (.slice (some ⟨g, 0, none⟩) n c) n (L.flatMap encO)) {k : Nat} {x : On} (hx : L[k]? = some x) :
    w.cell? ⟨g, k * 8, none⟩ = some (.int .i64 x.who) ∧ w.cell? ⟨g, k * 8 + 1, none⟩ = some (.int .i64 x.la) ∧ w.cell? ⟨g, k * 8 + 2, none⟩ = some (.int .u64 x.w0) ∧ w.cell? ⟨g, k * 8 + 3, none⟩ = some (.int .u64 x.w1) ∧ w.cell? ⟨g, k * 8 + 4, none⟩ = some (.int .u64 x.w2) ∧ w.cell? ⟨g, k * 8 + 5, none⟩ = some (.int .u64 x.w3) ∧ w.cell? ⟨g, k * 8 + 6, none⟩ = some (.int .u64 x.bg) ∧ w.cell? ⟨g, k * 8 + 7, none⟩ = some (.bool x.ca) := by
  have key : ∀ i v, i < 8 → (encO x)[i]? = some v → w.cell? ⟨g, k * 8 + i, none⟩ = some v := by
    intro i v hi hv
    have h1 := enc_get encO_len hx hi
    rw [hv] at h1
    have h2 := h.cells (g := g) rfl _ _ h1
    rw [addr_add, Nat.zero_add] at h2
    exact h2
  exact ⟨by simpa using key 0 _ (by omega) rfl, key 1 _ (by omega) rfl, key 2 _ (by omega) rfl, key 3 _ (by omega) rfl, key 4 _ (by omega) rfl, key 5 _ (by omega) rfl, key 6 _ (by omega) rfl, key 7 _ (by omega) rfl⟩
theorem of8 {w : World} {q : Nat} {x : On} (h : w.heap[q]? = some (blkO x)) : w.cell? ⟨q, 0, none⟩ = some (.int .i64 x.who) ∧ w.cell? ⟨q, 1, none⟩ = some (.int .i64 x.la) ∧ w.cell? ⟨q, 2, none⟩ = some (.int .u64 x.w0) ∧ w.cell? ⟨q, 3, none⟩ = some (.int .u64 x.w1) ∧ w.cell? ⟨q, 4, none⟩ = some (.int .u64 x.w2) ∧ w.cell? ⟨q, 5, none⟩ = some (.int .u64 x.w3) ∧ w.cell? ⟨q, 6, none⟩ = some (.int .u64 x.bg) ∧ w.cell? ⟨q, 7, none⟩ = some (.bool x.ca) :=
  ⟨cell_blk h 0, cell_blk h 1, cell_blk h 2, cell_blk h 3, cell_blk h 4, cell_blk h 5, cell_blk h 6, cell_blk h 7⟩

/-- The closures of Cancel and of 'there'. -/
theorem want_any (kf : Nat) (hkf : kf = 30 ∨ kf = 34) (x : On) (s : Int) (bb : Nat) (r : Bool) (w : World) (hb : w.heap[bb]? = some (.cells #[.int .i64 s] 3 (0, 0))) (hr : (x.who == s) = r) :
    Calls Try.prog kf #[aggO x, .pointer (some ⟨bb, 0, none⟩)] w fun e w' => e = .returned (.bool r) ∧ New w w' := by
  have hc := cell_blk hb 0
  have hlt := lt_of_heap hb
  have hb2 := ((Kept.refl (fun _ => False) w).alloc (blkO x)).heap hb (fun h => h)
  have hc2 := cell_blk hb2 0
  subst hr
  rcases hkf with rfl | rfl
  · go_enter Try.func30, Try.ntmps30
    go_wp2_with fail
    go_wp2
    go_ret
    exact ⟨rfl, (Kept.refl _ _).alloc _⟩
  · go_enter Try.func34, Try.ntmps34
    go_wp2_with fail
    go_wp2
    go_ret
    exact ⟨rfl, (Kept.refl _ _).alloc _⟩
set_option maxRecDepth 100000 in
/-- The first line of which all is so. -/
theorem index36_30 (v : Value) (s : Int) (bb : Nat) (L : List On) (w : World) (hb : w.heap[bb]? = some (.cells #[.int .i64 s] 3 (0, 0))) (hown : w.ownsRow 0 57 8 v L.length (L.flatMap encO)) (hL : L.length ≤ 1000000) :
    Calls Try.prog 36 #[v, .func (.func 30) #[] #[.pointer (some ⟨bb, 0, none⟩)]] w fun e w' => ∃ r : Int, e = .returned (.int .i64 r) ∧ New w w' ∧
      ((r = -1 ∧ ∀ x ∈ L, (x.who == s) = false) ∨ ∃ k : Nat, ∃ x, r = k ∧ L[k]? = some x ∧ (x.who == s) = true ∧ ∀ y ∈ L.take k, (y.who == s) = false) := by
  obtain ⟨ao, c, rfl, hao, -, hcell⟩ := Src.of_own hown
  have Hcell := Lib.hid hcell
  have Hown := Lib.hid hown
  clear hcell hown hao
  obtain ⟨len, hlen⟩ : ∃ len, len = L.length := ⟨_, rfl⟩
  have Hlen := Lib.hid hlen
  rw [← hlen] at hL ⊢
  clear hlen
  go_enter Try.func36, Try.ntmps36
  go_wp2_with fail
  go_loopw [8] (fun i wr => ∃ k : Nat, k ≤ len ∧ i = .int .i64 k ∧ Hid (∀ y ∈ L.take k, (y.who == s) = false) ∧ New w wr) (fun i _ => len - (intOf i).toNat)
  case atStart => exact ⟨0, by omega, rfl, by simp [Hid], Kept.refl _ _⟩
  case round =>
    obtain ⟨k, hk, rfl, Hk, hkp⟩ := hrel
    by_cases h1 : k < len
    · obtain ⟨x, hx⟩ : ∃ x, L[k]? = some x := ⟨_, List.getElem?_eq_getElem (by rw [← Hlen.out]; omega)⟩
      have Hx := Lib.hid hx
      obtain ⟨g, cap, hv, -, hrow, -⟩ := Row.of_ownS (own_same Hown.out hkp) (by have := Hlen.out; omega)
      simp only [Value.slice.injEq] at hv
      obtain ⟨rfl, -, rfl⟩ := hv
      obtain ⟨hc0, hc1, hc2, hc3, hc4, hc5, hc6, hc7⟩ := hrow.one hx
      have hw := fun r hr => want_any 30 (by decide) x s bb r _ (hkp.heap hb (fun h => h)) hr
      clear hx hrow
      cases hr : (x.who == s) with
      | true =>
        have hw1 := hw _ hr
        have Hr := Lib.hid hr
        clear hr hw
        go_wp2_with fail
        refine hw1.mono ?_
        rintro e w1 ⟨rfl, hk1⟩
        go_wp2
        go_ret
        exact ⟨k, rfl, hkp.trans hk1, .inr ⟨k, x, rfl, Hx.out, Hr.out, Hk.out⟩⟩
      | false =>
        have hw1 := hw _ hr
        have Hr := Lib.hid hr
        clear hr hw
        go_wp2_with fail
        refine hw1.mono ?_
        rintro e w1 ⟨rfl, hk1⟩
        go_wp2_with fail
        go_roundw
        case rel => exact ⟨k + 1, by omega, by go_num, by
          show ∀ y ∈ L.take (k + 1), (y.who == s) = false
          rw [List.take_add_one, Hx.out]
          intro y hy
          simp at hy
          rcases hy with hy | rfl
          · exact Hk.out y hy
          · exact Hr.out, hkp.trans hk1⟩
        case measure => simp [intOf]; omega
    · go_wp2
      go_ret
      refine ⟨-1, rfl, hkp, .inl ⟨rfl, ?_⟩⟩
      have h2 := Hk.out
      rw [List.take_of_length_le (by have := Hlen.out; omega)] at h2
      exact h2
set_option maxRecDepth 100000 in
/-- The first line of which all is so. -/
theorem index36_34 (v : Value) (s : Int) (bb : Nat) (L : List On) (w : World) (hb : w.heap[bb]? = some (.cells #[.int .i64 s] 3 (0, 0))) (hown : w.ownsRow 0 57 8 v L.length (L.flatMap encO)) (hL : L.length ≤ 1000000) :
    Calls Try.prog 36 #[v, .func (.func 34) #[] #[.pointer (some ⟨bb, 0, none⟩)]] w fun e w' => ∃ r : Int, e = .returned (.int .i64 r) ∧ New w w' ∧
      ((r = -1 ∧ ∀ x ∈ L, (x.who == s) = false) ∨ ∃ k : Nat, ∃ x, r = k ∧ L[k]? = some x ∧ (x.who == s) = true ∧ ∀ y ∈ L.take k, (y.who == s) = false) := by
  obtain ⟨ao, c, rfl, hao, -, hcell⟩ := Src.of_own hown
  have Hcell := Lib.hid hcell
  have Hown := Lib.hid hown
  clear hcell hown hao
  obtain ⟨len, hlen⟩ : ∃ len, len = L.length := ⟨_, rfl⟩
  have Hlen := Lib.hid hlen
  rw [← hlen] at hL ⊢
  clear hlen
  go_enter Try.func36, Try.ntmps36
  go_wp2_with fail
  go_loopw [8] (fun i wr => ∃ k : Nat, k ≤ len ∧ i = .int .i64 k ∧ Hid (∀ y ∈ L.take k, (y.who == s) = false) ∧ New w wr) (fun i _ => len - (intOf i).toNat)
  case atStart => exact ⟨0, by omega, rfl, by simp [Hid], Kept.refl _ _⟩
  case round =>
    obtain ⟨k, hk, rfl, Hk, hkp⟩ := hrel
    by_cases h1 : k < len
    · obtain ⟨x, hx⟩ : ∃ x, L[k]? = some x := ⟨_, List.getElem?_eq_getElem (by rw [← Hlen.out]; omega)⟩
      have Hx := Lib.hid hx
      obtain ⟨g, cap, hv, -, hrow, -⟩ := Row.of_ownS (own_same Hown.out hkp) (by have := Hlen.out; omega)
      simp only [Value.slice.injEq] at hv
      obtain ⟨rfl, -, rfl⟩ := hv
      obtain ⟨hc0, hc1, hc2, hc3, hc4, hc5, hc6, hc7⟩ := hrow.one hx
      have hw := fun r hr => want_any 34 (by decide) x s bb r _ (hkp.heap hb (fun h => h)) hr
      clear hx hrow
      cases hr : (x.who == s) with
      | true =>
        have hw1 := hw _ hr
        have Hr := Lib.hid hr
        clear hr hw
        go_wp2_with fail
        refine hw1.mono ?_
        rintro e w1 ⟨rfl, hk1⟩
        go_wp2
        go_ret
        exact ⟨k, rfl, hkp.trans hk1, .inr ⟨k, x, rfl, Hx.out, Hr.out, Hk.out⟩⟩
      | false =>
        have hw1 := hw _ hr
        have Hr := Lib.hid hr
        clear hr hw
        go_wp2_with fail
        refine hw1.mono ?_
        rintro e w1 ⟨rfl, hk1⟩
        go_wp2_with fail
        go_roundw
        case rel => exact ⟨k + 1, by omega, by go_num, by
          show ∀ y ∈ L.take (k + 1), (y.who == s) = false
          rw [List.take_add_one, Hx.out]
          intro y hy
          simp at hy
          rcases hy with hy | rfl
          · exact Hk.out y hy
          · exact Hr.out, hkp.trans hk1⟩
        case measure => simp [intOf]; omega
    · go_wp2
      go_ret
      refine ⟨-1, rfl, hkp, .inl ⟨rfl, ?_⟩⟩
      have h2 := Hk.out
      rw [List.take_of_length_le (by have := Hlen.out; omega)] at h2
      exact h2

theorem contains_any (v : Value) (s : Int) (bb : Nat) (L : List On) (r : Bool) (w : World) (hb : w.heap[bb]? = some (.cells #[.int .i64 s] 3 (0, 0))) (hown : w.ownsRow 0 57 8 v L.length (L.flatMap encO)) (hL : L.length ≤ 1000000) (hr : r = L.any (fun x => x.who == s)) :
    Calls Try.prog 33 #[v, .func (.func 34) #[] #[.pointer (some ⟨bb, 0, none⟩)]] w fun e w' => e = .returned (.bool r) ∧ New w w' := by
  have hidx := index36_34 v s bb L w hb hown hL
  have Hr := Lib.hid hr
  clear hown hr
  go_enter Try.func33, Try.ntmps33
  go_wp2_with fail
  refine hidx.mono ?_
  rintro e w1 ⟨q, rfl, hk, hq⟩
  go_wp2
  go_ret
  refine ⟨ret_bool ?_, hk⟩
  rw [Hr.out]
  rcases hq with ⟨rfl, h⟩ | ⟨k, x, rfl, h1, h2, -⟩
  · have : L.any (fun x => x.who == s) = false := by rw [List.any_eq_false]; intro x hx; rw [h x hx]; decide
    rw [this]; rfl
  · have : L.any (fun x => x.who == s) = true := List.any_eq_true.2 ⟨x, List.mem_of_getElem? h1, h2⟩
    rw [this]; simp
end Go.Proofs.Ytanongcaokldmaa

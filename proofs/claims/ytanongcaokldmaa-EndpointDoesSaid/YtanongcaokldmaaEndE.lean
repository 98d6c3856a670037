/- Package endpoint: Waits; numbers that are read; the calls whose answers the document fixes. -/
import Derived.Test.YtanongcaokldmaaEndS
set_option linter.all false
namespace Go.Proofs.Ytanongcaokldmaa
open Go.RowKit

abbrev vI (L : List Int) : List Value := L.map (Value.int .i64)
theorem info3 : (Try.prog.info? 3).map (fun i => (i.zero, i.size, i.bytes)) = some (some (.int .i64 0), 1, 8) := by kernel_rfl
/-- A slice of numbers: its own block and place, if it has any. -/
theorem Src.nums {w : World} {v : Value} {n : Nat} {L : List Int} (h : Src w v n 1 (vI L)) : L.length = n ∧ ∃ ao c, v = .slice ao n c ∧ ∀ i x, L[i]? = some x → ∃ B Of, ao = some ⟨B, Of, none⟩ ∧ w.cell? ⟨B, Of + i, none⟩ = some (.int .i64 x) := by
  obtain ⟨ao, c, rfl, _, hl, h3⟩ := h
  simp only [List.length_map, Nat.mul_one] at hl
  refine ⟨hl, ao, c, rfl, fun i x hx => ?_⟩
  obtain ⟨⟨B, Of, sp⟩, rfl, h0⟩ := h3 i (.int .i64 x) (by simp [hx])
  obtain ⟨x0, hx0⟩ : ∃ x0, L[0]? = some x0 := ⟨_, List.getElem?_eq_getElem (by have := lt_of_some hx; omega)⟩
  obtain ⟨ad, e, h00⟩ := h3 0 (.int .i64 x0) (by simp [hx0])
  cases e
  have hsp : sp = none := by
    have := spot_of_cell h00
    simpa [Addr.add] using this
  subst hsp
  rw [addr_add] at h0
  exact ⟨B, Of, rfl, h0⟩

set_option maxRecDepth 100000 in
set_option maxHeartbeats 1000000 in
theorem nums_any (va vb : Value) (n : Nat) (L : List Int) (w : World) (ha : Src w va n 1 (vI L)) (hb : Src w vb n 1 (vI L)) (hn : n ≤ 1000000) :
    Calls Try.prog 14 #[va, vb] w fun e w' => e = .returned (.bool true) ∧ ∃ q, w' = w.drewN q := by
  obtain ⟨hl, ao, ca, rfl, hca⟩ := Src.nums ha
  obtain ⟨-, bo, cb, rfl, hcb⟩ := Src.nums hb
  have Hl := Lib.hid hl
  have Ha := Lib.hid hca
  have Hb := Lib.hid hcb
  clear hl hca hcb ha hb
  go_enter Try.func14, Try.ntmps14
  go_wp2
  go_loopw [5] (fun i wr => ∃ k : Nat, k ≤ n ∧ i = .int .i64 k ∧ (∃ q, wr = w.drewN q)) (fun i _ => n - (intOf i).toNat)
  case atStart => exact ⟨0, Nat.zero_le _, rfl, 0, rfl⟩
  case round =>
    obtain ⟨k, hk, rfl, q, rfl⟩ := hrel
    by_cases hlt : k < n
    · obtain ⟨x, hx⟩ : ∃ x, L[k]? = some x := ⟨_, List.getElem?_eq_getElem (by have := Hl.out; omega)⟩
      obtain ⟨B, Of, rfl, a0⟩ := Ha.out k x hx
      obtain ⟨B', Of', rfl, b0⟩ := Hb.out k x hx
      clear hx
      go_wp2
      go_quiet (fail)
      go_wp2
      go_roundw
      case rel => exact ⟨k + 1, by omega, by go_num, _, rfl⟩
      case measure => simp [intOf]; omega
    · go_wp2
      go_ret
      exact ⟨rfl, _, rfl⟩


def EP (b : Nat) (sd : Bool) (L : List On) : Thing := fun O w => Ep O w b sd L
theorem EP.ok (b : Nat) (sd : Bool) (L : List On) : (EP b sd L).Ok := ⟨fun h k hF => Ep.kept h k hF, fun h => Ep.sized h, fun h hO => Ep.mono h hO⟩

set_option maxRecDepth 100000 in
set_option maxHeartbeats 1000000 in
theorem waits_any {O : Nat → Prop} (b : Nat) (sd r : Bool) (L : List On) (w : World) (h : Ep O w b sd L) (hL : L.length ≤ 1000) (hr : r = (sd && decide (0 < L.length))) :
    Calls Try.prog 11 #[.pointer (some ⟨b, 0, none⟩)] w fun e w' => ∃ v, e = .returned (.tuple #[v, .bool r]) ∧ w'.ownsRow w.heap.size 3 1 v L.length (vI (L.map (fun x => x.who))) ∧ New w w' := by
  obtain ⟨ao, c, hb, hown, -, -, -⟩ := h.cells
  obtain ⟨len, hlen⟩ : ∃ len, len = L.length := ⟨_, rfl⟩
  have Hlen := Lib.hid hlen
  rw [← hlen] at hb hown hL
  have c0 := cell_blk hb 0
  have Hb := Lib.hid hb
  have Hown := Lib.hid hown
  have Hr := Lib.hid hr
  obtain ⟨base, hbase⟩ : ∃ base, base = w.heap.size := ⟨_, rfl⟩
  have Hbase := Lib.hid hbase
  obtain ⟨i3, hi, hz0, hz1, hz2⟩ := info_parts info3
  clear hown h hlen hr hbase hb
  go_enter Try.func11, Try.ntmps11
  go_wp2_with fail
  go_loopw [4, 12] (fun l i wr => ∃ (k : Nat) (al : Option Addr) (cl : Nat), k ≤ len ∧ i = .int .i64 k ∧ l = .slice al k cl ∧ Hid (wr.ownsRow base 3 1 (.slice al k cl) k (vI ((L.take k).map (fun x => x.who)))) ∧ New w wr) (fun _ i _ => len - (intOf i).toNat)
  case atStart => exact ⟨0, none, 0, by omega, rfl, rfl, ⟨rfl, .inl ⟨rfl, rfl⟩⟩, Kept.refl _ _⟩
  case round =>
    obtain ⟨k, al, cl, hk, rfl, rfl, HownK, hkr⟩ := hrel
    have hbr := hkr.heap Hb.out (fun h => h)
    have hcs := cell_blk hbr 1
    clear hbr
    by_cases h1 : k < len
    · obtain ⟨x, hx⟩ : ∃ x, L[k]? = some x := ⟨_, List.getElem?_eq_getElem (by rw [← Hlen.out]; omega)⟩
      have Hx := Lib.hid hx
      have hownr := own_same Hown.out hkr
      obtain ⟨g, cap, hv, -, -, -⟩ := Row.of_ownS hownr (by omega)
      simp only [Value.slice.injEq] at hv
      obtain ⟨rfl, -, rfl⟩ := hv
      obtain ⟨d0, d1, d2, d3, d4, d5, d6, d7⟩ := own_one hownr hx
      have kA : New wr ((wr.alloc (blkO x)).alloc (.cells #[.int .i64 x.who] 3)) := ((Kept.refl _ _).alloc _).alloc _
      have HownA := Lib.hid (own_same HownK.out kA)
      have hlit := Src.lit (wr.alloc (blkO x)) #[.int .i64 x.who] 3 1 1 rfl
      rw [show (wr.alloc (blkO x)).heap.size = wr.heap.size + 1 from Array.size_push ..] at hlit
      have Hlit := Lib.hid hlit
      clear hlit
      have hszA : base ≤ ((wr.alloc (blkO x)).alloc (.cells #[.int .i64 x.who] 3)).heap.size := by have := (hkr.trans kA).size; have := Hbase.out; omega
      clear hx hownr
      go_wp2_with (at_builtin; refine wpList_append_src2 rfl _ _ 31 rfl base 3 i3 (.int .i64 0) 1 8 Try.underlying31 hi hz0 hz1 hz2 rfl (by decide) (.slice al k cl) k _ rfl HownA.out _ 1 _ rfl Hlit.out (by simp [Value.oneCell']) (by unfold maxLen; omega) (by omega) hszA ?_; intro v' w5 hown' hgr hid; obtain ⟨ao5, c5, hv5, _⟩ := Src.of_own hown'; rw [hv5])
      go_roundw
      case rel =>
        refine ⟨k + 1, ao5, c5, by omega, by go_num, rfl, ?_, ?_⟩
        · show w5.ownsRow base 3 1 (.slice ao5 (k + 1) c5) (k + 1) _
          rw [List.take_add_one, Hx.out, List.map_append, vI, List.map_append]
          rw [hv5] at hown'
          exact hown'
        · exact (hkr.trans kA).trans' (Kept.of_grown hgr) (fun i hi hv => by have := own_block HownA.out hv; have := Hbase.out; omega)
      case measure => simp [intOf]; omega
    · obtain rfl : k = len := by omega
      have hfin := HownK.out
      rw [show L.take k = L by rw [Hlen.out, List.take_length]] at hfin
      have Hfin := Lib.hid hfin
      clear hfin
      by_cases h0 : 0 < k
      · have h0i : (0 : Int) < k := by omega
        have hd : decide (0 < L.length) = true := by rw [← Hlen.out]; simpa using h0
        cases sd with
        | true =>
          obtain rfl : r = true := by rw [Hr.out, hd]; rfl
          clear hd
          go_wp2_with fail
          go_ret2
          exact ⟨_, rfl, by rw [← Hlen.out, ← Hbase.out]; exact Hfin.out, hkr⟩
        | false =>
          obtain rfl : r = false := by rw [Hr.out]; rfl
          clear hd
          go_wp2_with fail
          go_ret2
          exact ⟨_, rfl, by rw [← Hlen.out, ← Hbase.out]; exact Hfin.out, hkr⟩
      · have h0i : ¬ (0 : Int) < k := by omega
        have hd : decide (0 < L.length) = false := by rw [← Hlen.out]; simpa using h0
        obtain rfl : r = false := by rw [Hr.out, hd]; cases sd <;> rfl
        clear hd
        have Hfin2 : Hid (wr.ownsRow w.heap.size 3 1 (.slice al k cl) L.length (vI (L.map (fun x => x.who)))) := Lib.hid (by rw [← Hlen.out, ← Hbase.out]; exact Hfin.out)
        cases sd with
        | true =>
          go_wp2_with fail
          go_ret2
          exact ⟨_, rfl, (by have h9 := Hfin2.out; simp only [vI, List.map_map] at h9; exact h9), hkr⟩
        | false =>
          go_wp2_with fail
          go_ret2
          exact ⟨_, rfl, (by have h9 := Hfin2.out; simp only [vI, List.map_map] at h9; exact h9), hkr⟩
end Go.Proofs.Ytanongcaokldmaa

/- Package tlb: Fill and Look. -/
import Derived.Test.YtgjlghjigfclpaaTlbE
import Derived.Laws.ResultCell
set_option linter.all false
namespace Go.Proofs.Ytgjlghjigfclpaa
open Go.RowKit

def lookE (s p : Int) (L : List Ln) : Int × Int × Bool :=
  match L.find? (fun x => decide (x.sp = s) && decide (x.pg = p)) with | some x => (x.fr, x.ri, true) | none => (0, 0, false)

theorem all2 (s p : Int) (x : Ln) : [Ask.sp s, .pg p].all (fun q => q.ok x) = (decide (x.sp = s) && decide (x.pg = p)) := by simp [Ask.ok]

theorem all2_any (so : Value) (s p : Int) (x : Ln) (r : Bool) (w : World) (hs : Asks w so [.sp s, .pg p]) (hr : (decide (x.sp = s) && decide (x.pg = p)) = r) :
    Calls Try.prog 30 #[aggL x, so] w fun e w' => e = .returned (.bool r) ∧ New w w' := by
  rw [← hr, ← all2]
  exact all_any so _ x w hs
theorem of4 {w : World} {q : Nat} {x : Ln} (h : w.heap[q]? = some (blkL x)) : w.cell? ⟨q, 0, none⟩ = some (.int .i64 x.sp) ∧ w.cell? ⟨q, 1, none⟩ = some (.int .i64 x.pg) ∧ w.cell? ⟨q, 2, none⟩ = some (.int .i64 x.fr) ∧ w.cell? ⟨q, 3, none⟩ = some (.int .i64 x.ri) :=
  ⟨cell_blk h 0, cell_blk h 1, cell_blk h 2, cell_blk h 3⟩

set_option maxRecDepth 100000 in
theorem look_any {O : Nat → Prop} (b room : Nat) (L : List Ln) (s p fr ri : Int) (is : Bool) (w : World) (h : Tb O w b room L) (hL : L.length ≤ 1000) (hr : lookE s p L = (fr, ri, is)) :
    Calls Try.prog 14 #[.pointer (some ⟨b, 0, none⟩), .int .i64 s, .int .i64 p] w fun e w' => e = .returned (.tuple #[.agg #[.int .i64 fr, .int .i64 ri], .bool is]) ∧ New w w' := by
  obtain ⟨v, hb, hown, hOb, hOv⟩ := h
  obtain ⟨ao, c, rfl, -⟩ := Src.of_own hown
  have hc0 : w.cell? ⟨b, 0, none⟩ = some (.slice ao L.length c) := cell_blk hb 0
  have Hown := Lib.hid hown
  have Hr := Lib.hid hr
  clear hown hr hOv
  obtain ⟨len, hlen⟩ : ∃ len, len = L.length := ⟨_, rfl⟩
  have Hlen := Lib.hid hlen
  rw [← hlen] at hL hc0
  have hbl := lt_of_heap hb
  clear hlen hb
  go_enter Try.func14, Try.ntmps14
  go_wp2_with fail
  go_loopw [15] (fun i wr => ∃ k : Nat, k ≤ len ∧ i = .int .i64 k ∧ Hid (∀ y ∈ L.take k, (decide (y.sp = s) && decide (y.pg = p)) = false) ∧ New (w.alloc (.cells #[.int .i64 0, .int .i64 0] 32)) wr) (fun i _ => len - (intOf i).toNat)
  case atStart => exact ⟨0, by omega, rfl, by simp [Hid], Kept.refl _ _⟩
  case round =>
    obtain ⟨k, hk, rfl, Hk, hkp⟩ := hrel
    have hbx := hkp.heap (heap_alloc_new _ _) (fun h => h)
    have z0 := cell_blk hbx 0
    have z1 := cell_blk hbx 1
    have y0 := free_blk hbx 0
    have y1 := free_blk hbx 1
    by_cases h1 : k < len
    · obtain ⟨x, hx⟩ : ∃ x, L[k]? = some x := ⟨_, List.getElem?_eq_getElem (by rw [← Hlen.out]; omega)⟩
      have Hx := Lib.hid hx
      have hown' := own_same (own_same Hown.out ((Kept.refl _ _).alloc _)) hkp
      obtain ⟨g, cap, hv, -, hrow, -⟩ := Row.of_ownS hown' (by have := Hlen.out; omega)
      simp only [Value.slice.injEq] at hv
      obtain ⟨rfl, -, rfl⟩ := hv
      obtain ⟨hc0, hc1, hc2, hc3⟩ := hrow.line hx
      clear hx hrow hown'
      go_wp2_with fail
      have hB0 : (wr.alloc (blkL x)).drew.heap[wr.heap.size]? = some (blkL x) := heap_alloc_new wr (blkL x)
      have hk0 : New wr (wr.alloc (blkL x)).drew := ((Kept.refl _ _).alloc _).drew
      cases hq : (decide (x.sp = s) && decide (x.pg = p)) with
      | true =>
        have Hq := Lib.hid hq
        clear hq
        go_region_held3 (fun W => W.cell? ⟨wr.heap.size, 0, none⟩ = some (.int .i64 x.sp) ∧ W.cell? ⟨wr.heap.size, 1, none⟩ = some (.int .i64 x.pg) ∧ W.cell? ⟨wr.heap.size, 2, none⟩ = some (.int .i64 x.fr) ∧ W.cell? ⟨wr.heap.size, 3, none⟩ = some (.int .i64 x.ri))
          (first | exact of4 hB0 | exact of4 hB1 | exact of4 hB2 | exact of4 (((Kept.refl (fun _ => False) _).alloc _).heap hB2 (fun h => h)) | exact of4 hB3)
          (first
          | (go_at_call 27; refine (of_any s _).mono ?_; rintro e w1 ⟨f1, rfl, hf1, hk1⟩; obtain ⟨q1, rfl, hq1⟩ := hf1; have hB1 := hk1.heap hB0 (fun h => h); have hk01 := hk0.trans hk1)
          | (go_at_call 28; refine (at_any p _).mono ?_; rintro e w2 ⟨f2, rfl, hf2, hk2⟩; obtain ⟨q2, rfl, hq2⟩ := hf2; have hB2 := hk2.heap hB1 (fun h => h); have hk02 := hk01.trans hk2; have hq1' := hk2.heap hq1 (fun h => h))
          | (go_at_call 30; refine (all2_any _ s p x true _ (asks2 ⟨q1, rfl, hq1'⟩ ⟨q2, rfl, hq2⟩) Hq.out).mono ?_; rintro e w3 ⟨rfl, hk3⟩; have hB3 := hk3.heap (((Kept.refl (fun _ => False) _).alloc _).heap hB2 (fun h => h)) (fun h => h); have hk03 := (hk02.alloc _).trans hk3))
        have hbx3 := hk03.heap hbx (fun h => h)
        have z0 := cell_blk hbx3 0
        have z1 := cell_blk hbx3 1
        have y0 := free_blk hbx3 0
        have y1 := free_blk hbx3 1
        obtain ⟨b0, b1, b2, b3⟩ := of4 hB3
        clear hB0 hB1 hB2 hB3 hbx hbx3 hq1 hq2 hq1'
        go_wp2_with fail
        refine bodyPost_ret (v := .tuple #[.agg #[.int .i64 x.fr, .int .i64 x.ri], .bool true]) (by rw [results_cell_tmp rfl]; go_simp) rfl ⟨?_, ?_⟩
        · have hf : lookE s p L = (x.fr, x.ri, true) := by
            have h9 : L.find? (fun x => decide (x.sp = s) && decide (x.pg = p)) = some x := by
              have hsplit : L = L.take k ++ x :: L.drop (k + 1) := by
                conv => lhs; rw [← List.take_append_drop k L]
                rw [List.drop_eq_getElem_cons (lt_of_some Hx.out)]
                have := Hx.out
                rw [List.getElem?_eq_getElem (lt_of_some this)] at this
                rw [Option.some.inj this]
              rw [hsplit, List.find?_append, List.find?_eq_none.2 (fun y hy => by rw [Hk.out y hy]; decide)]
              simp [Hq.out]
            simp [lookE, h9]
          rw [Hr.out] at hf
          simp only [Prod.mk.injEq] at hf
          obtain ⟨rfl, rfl, rfl⟩ := hf
          rfl
        · exact (((Kept.refl (fun _ => False) w).alloc _).trans (hkp.trans hk03)).setCell (.inl (Nat.le_refl _)) _ |>.setCell (.inl (Nat.le_refl _)) _
      | false =>
        have Hq := Lib.hid hq
        clear hq
        go_region_held3 (fun W => W.cell? ⟨wr.heap.size, 0, none⟩ = some (.int .i64 x.sp) ∧ W.cell? ⟨wr.heap.size, 1, none⟩ = some (.int .i64 x.pg) ∧ W.cell? ⟨wr.heap.size, 2, none⟩ = some (.int .i64 x.fr) ∧ W.cell? ⟨wr.heap.size, 3, none⟩ = some (.int .i64 x.ri))
          (first | exact of4 hB0 | exact of4 hB1 | exact of4 hB2 | exact of4 (((Kept.refl (fun _ => False) _).alloc _).heap hB2 (fun h => h)) | exact of4 hB3)
          (first
          | (go_at_call 27; refine (of_any s _).mono ?_; rintro e w1 ⟨f1, rfl, hf1, hk1⟩; obtain ⟨q1, rfl, hq1⟩ := hf1; have hB1 := hk1.heap hB0 (fun h => h); have hk01 := hk0.trans hk1)
          | (go_at_call 28; refine (at_any p _).mono ?_; rintro e w2 ⟨f2, rfl, hf2, hk2⟩; obtain ⟨q2, rfl, hq2⟩ := hf2; have hB2 := hk2.heap hB1 (fun h => h); have hk02 := hk01.trans hk2; have hq1' := hk2.heap hq1 (fun h => h))
          | (go_at_call 30; refine (all2_any _ s p x false _ (asks2 ⟨q1, rfl, hq1'⟩ ⟨q2, rfl, hq2⟩) Hq.out).mono ?_; rintro e w3 ⟨rfl, hk3⟩; have hB3 := hk3.heap (((Kept.refl (fun _ => False) _).alloc _).heap hB2 (fun h => h)) (fun h => h); have hk03 := (hk02.alloc _).trans hk3))
        go_wp2_with fail
        go_roundw
        case rel =>
          refine ⟨k + 1, by omega, by go_num, ?_, hkp.trans hk03⟩
          show ∀ y ∈ L.take (k + 1), (decide (y.sp = s) && decide (y.pg = p)) = false
          rw [List.take_add_one, Hx.out]
          intro y hy
          simp only [Option.toList_some, List.mem_append, List.mem_singleton] at hy
          rcases hy with hy | rfl
          · exact Hk.out y hy
          · exact Hq.out
        case measure => simp [intOf]; omega
    · go_wp2
      refine bodyPost_ret (v := .tuple #[.agg #[.int .i64 0, .int .i64 0], .bool false]) (by rw [results_cell_tmp rfl]; go_simp) rfl ⟨?_, ?_⟩
      · have hf : lookE s p L = (0, 0, false) := by
          have h9 := Hk.out
          rw [List.take_of_length_le (by have := Hlen.out; omega)] at h9
          have h8 : L.find? (fun x => decide (x.sp = s) && decide (x.pg = p)) = none := List.find?_eq_none.2 (fun y hy => by rw [h9 y hy]; decide)
          simp [lookE, h8]
        rw [Hr.out] at hf
        simp only [Prod.mk.injEq] at hf
        obtain ⟨rfl, rfl, rfl⟩ := hf
        rfl
      · exact (((Kept.refl (fun _ => False) w).alloc _).trans hkp).setCell (.inl (Nat.le_refl _)) _ |>.setCell (.inl (Nat.le_refl _)) _
end Go.Proofs.Ytgjlghjigfclpaa

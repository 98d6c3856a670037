/- The reference's Fill whole, and Look. -/
import Derived.Test.YtgjlghjigfclpaaTlbS
set_option linter.all false
namespace Go.Proofs.Ytgjlghjigfclpaa
open Go.RowKit

theorem rfill_any {O : Nat → Prop} (b room : Nat) (L L' : List Ln) (x : Ln) (w : World) (h : Rb O w b room L) (hL : L.length ≤ room) (h0 : 1 ≤ room) (hr : room ≤ 1000) (hE : fillE room L x = L') :
    Calls Try.prog 16 #[.pointer (some ⟨b, 0, none⟩), aggL x] w fun e w' => e = .returned (.tuple #[]) ∧ Rb (fun k => O k ∨ w.heap.size ≤ k) w' b room L' ∧ Kept O w w' := by
  have hle : (dropP x.sp x.pg L).length ≤ L.length := List.length_filter_le _ _
  have key : Calls Try.prog 16 #[.pointer (some ⟨b, 0, none⟩), aggL x] w fun e w' => e = .returned (.tuple #[]) ∧ Rb (fun k => (O k ∧ k < w.heap.size) ∨ w.heap.size ≤ k) w' b room L' ∧ Kept (fun k => O k ∧ k < w.heap.size) w w' := by
    by_cases hd : (dropP x.sp x.pg L).length = L.length
    · have hM : dropP x.sp x.pg L = L := (List.filter_sublist (l := L)).eq_of_length hd
      by_cases hrm : room ≤ L.length
      · have hE' : L' = L.tail ++ [x] := by rw [← hE, fillE, if_pos ⟨hd, hrm⟩]
        cases L with
        | nil => simp at hrm; omega
        | cons a l =>
          rw [hE']
          exact rfill_b b room (a :: l) l a l x w h.sized (fun k hk => hk.2) (by omega) rfl hM (by omega)
      · have hE' : L' = L ++ [x] := by rw [← hE, fillE, if_neg (fun h => hrm h.2), hM]
        rw [hE']
        exact rfill_c b room L L x w h.sized (fun k hk => hk.2) (by omega) hM (by omega)
    · have hE' : L' = dropP x.sp x.pg L ++ [x] := by rw [← hE, fillE, if_neg (fun h => hd h.1)]
      rw [hE']
      exact rfill_a b room L _ x w h.sized (fun k hk => hk.2) (by omega) rfl (by omega)
  refine key.mono ?_
  rintro e w' ⟨h1, h2, h3⟩
  exact ⟨h1, h2.mono (fun k hk => hk.imp (fun h => h.1) id), h3.mono (fun _ _ h => h.1)⟩

set_option maxRecDepth 100000 in
theorem rlook_any {O : Nat → Prop} (b room : Nat) (L : List Ln) (s p fr ri : Int) (is : Bool) (w : World) (h : Rb O w b room L) (hL : L.length ≤ 1000) (hr : lookE s p L = (fr, ri, is)) :
    Calls Try.prog 24 #[.pointer (some ⟨b, 0, none⟩), .int .i64 s, .int .i64 p] w fun e w' => e = .returned (.tuple #[.agg #[.int .i64 fr, .int .i64 ri], .bool is]) ∧ New w w' := by
  obtain ⟨ao, c, hb, hown, -, -, -⟩ := h.cells
  have Hb := Lib.hid hb
  have Hown := Lib.hid hown
  have Hr := Lib.hid hr
  obtain ⟨len, hlen⟩ : ∃ len, len = L.length := ⟨_, rfl⟩
  have Hlen := Lib.hid hlen
  rw [← hlen] at hL
  have hbl := lt_of_heap hb
  clear hlen hb hown hr h
  go_enter Try.func24, Try.ntmps24
  go_wp2_with fail
  go_loopw [8] (fun i wr => ∃ k : Nat, k ≤ len ∧ i = .int .i64 k ∧ Hid (∀ y ∈ L.take k, (decide (y.sp = s) && decide (y.pg = p)) = false) ∧ New (w.alloc (.cells #[.int .i64 0, .int .i64 0] 32)) wr) (fun i _ => len - (intOf i).toNat)
  case atStart => exact ⟨0, by omega, rfl, by simp [Hid], Kept.refl _ _⟩
  case round =>
    obtain ⟨k, hk, rfl, Hk, hkp⟩ := hrel
    have hbx := hkp.heap (heap_alloc_new _ _) (fun h => h)
    have z0 := cell_blk hbx 0
    have z1 := cell_blk hbx 1
    have y0 := free_blk hbx 0
    have y1 := free_blk hbx 1
    have hbr := hkp.heap (((Kept.refl (fun _ => False) w).alloc _).heap Hb.out (fun h => h)) (fun h => h)
    rw [← Hlen.out] at hbr
    have hcb := cell_blk hbr 0
    clear hbr hbx
    by_cases h1 : k < len
    · obtain ⟨x, hx⟩ : ∃ x, L[k]? = some x := ⟨_, List.getElem?_eq_getElem (by rw [← Hlen.out]; omega)⟩
      have Hx := Lib.hid hx
      have hown' := own_same (own_same Hown.out ((Kept.refl _ _).alloc _)) hkp
      obtain ⟨g, cap, hv, -, hrow, -⟩ := Row.of_ownS hown' (by have := Hlen.out; omega)
      simp only [Value.slice.injEq] at hv
      obtain ⟨rfl, -, rfl⟩ := hv
      obtain ⟨hc0, hc1, hc2, hc3⟩ := hrow.line hx
      clear hx hrow hown'
      by_cases hq : x.sp = s ∧ x.pg = p
      · have Hq : Hid ((decide (x.sp = s) && decide (x.pg = p)) = true) := by simp [Hid, hq]
        obtain ⟨e1, e2⟩ := hq
        have e1b : (x.sp == s) = true := by simpa using e1
        have e2b : (x.pg == p) = true := by simpa using e2
        clear e1 e2
        go_wp2_with fail
        refine bodyPost_ret (v := .tuple #[.agg #[.int .i64 x.fr, .int .i64 x.ri], .bool true]) (by rw [results_cell_tmp rfl]; go_simp) rfl ⟨?_, ?_⟩
        · have hf : lookE s p L = (x.fr, x.ri, true) := by
            have h9 : L.find? (fun x => decide (x.sp = s) && decide (x.pg = p)) = some x := by
              have hsplit : L = L.take k ++ x :: L.drop (k + 1) := by
                conv => lhs; rw [← List.take_append_drop k L]
                rw [List.drop_eq_getElem_cons (lt_of_some Hx.out)]
                have := Hx.out
                rw [List.getElem?_eq_getElem (lt_of_some this)] at this
                rw [Option.some.inj this]
              rw [hsplit, List.find?_append, List.find?_eq_none.2 (fun y hy => by rw [Hk.out y hy]; decide)]
              simp [Hq.out]
            simp [lookE, h9]
          rw [Hr.out] at hf
          simp only [Prod.mk.injEq] at hf
          obtain ⟨rfl, rfl, rfl⟩ := hf
          rfl
        · exact (((Kept.refl (fun _ => False) w).alloc _).trans hkp).setCell (.inl (Nat.le_refl _)) _ |>.setCell (.inl (Nat.le_refl _)) _
      · have Hq : Hid ((decide (x.sp = s) && decide (x.pg = p)) = false) := by
          have : ¬ ((decide (x.sp = s) && decide (x.pg = p)) = true) := by simpa using hq
          simpa [Hid] using this
        by_cases e1 : x.sp = s
        · have e2 : ¬ x.pg = p := fun e2 => hq ⟨e1, e2⟩
          have e1b : (x.sp == s) = true := by simpa using e1
          have e2b : (x.pg == p) = false := by simpa using e2
          clear e1 e2 hq
          go_wp2_with fail
          go_roundw
          case rel =>
            refine ⟨k + 1, by omega, by go_num, ?_, hkp⟩
            show ∀ y ∈ L.take (k + 1), (decide (y.sp = s) && decide (y.pg = p)) = false
            rw [List.take_add_one, Hx.out]
            intro y hy
            simp only [Option.toList_some, List.mem_append, List.mem_singleton] at hy
            rcases hy with hy | rfl
            · exact Hk.out y hy
            · exact Hq.out
          case measure => simp [intOf]; omega
        · have e1b : (x.sp == s) = false := by simpa using e1
          clear e1 hq
          go_wp2_with fail
          go_roundw
          case rel =>
            refine ⟨k + 1, by omega, by go_num, ?_, hkp⟩
            show ∀ y ∈ L.take (k + 1), (decide (y.sp = s) && decide (y.pg = p)) = false
            rw [List.take_add_one, Hx.out]
            intro y hy
            simp only [Option.toList_some, List.mem_append, List.mem_singleton] at hy
            rcases hy with hy | rfl
            · exact Hk.out y hy
            · exact Hq.out
          case measure => simp [intOf]; omega
    · go_wp2
      refine bodyPost_ret (v := .tuple #[.agg #[.int .i64 0, .int .i64 0], .bool false]) (by rw [results_cell_tmp rfl]; go_simp) rfl ⟨?_, ?_⟩
      · have hf : lookE s p L = (0, 0, false) := by
          have h9 := Hk.out
          rw [List.take_of_length_le (by have := Hlen.out; omega)] at h9
          have h8 : L.find? (fun x => decide (x.sp = s) && decide (x.pg = p)) = none := List.find?_eq_none.2 (fun y hy => by rw [h9 y hy]; decide)
          simp [lookE, h8]
        rw [Hr.out] at hf
        simp only [Prod.mk.injEq] at hf
        obtain ⟨rfl, rfl, rfl⟩ := hf
        rfl
      · exact (((Kept.refl (fun _ => False) w).alloc _).trans hkp).setCell (.inl (Nat.le_refl _)) _ |>.setCell (.inl (Nat.le_refl _)) _
end Go.Proofs.Ytgjlghjigfclpaa

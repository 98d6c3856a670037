/- Package lock: New, Line, Ahead, Copy; slices.Index, slices.Reverse, Nums. -/
import Derived.Test.YtjimjkfnpklhiaaOrdB
import Derived.Shelf.RegionOpenPlain
set_option linter.all false
namespace Go.Proofs.Ytjimjkfnpklhiaa
open Go.RowKit

theorem info59 : (Try.prog.info? 59).map (fun i => (i.zero, i.size, i.bytes)) = some (some (.pointer none), 1, 8) := by kernel_rfl
theorem info3 : (Try.prog.info? 3).map (fun i => (i.zero, i.size, i.bytes)) = some (some (.int .i64 0), 1, 8) := by kernel_rfl

theorem new_lk (n : Nat) (w : World) (h1 : n ≤ 8) :
    Lk ((w.alloc (.cells (madeCells #[.pointer none] n) 59)).alloc (.cells #[.int .i64 n, .pointer none, .slice (some ⟨w.heap.size, 0, none⟩) n n] 62)) (w.heap.size + 1) w.heap.size n [] := by
  refine ⟨⟨none, ?_, .inl rfl⟩, ⟨⟨madeCells #[.pointer none] n, ?_, ?_, ?_⟩, ?_⟩, by simp, by simp, h1⟩
  · have := heap_alloc_new (w.alloc (.cells (madeCells #[.pointer none] n) 59)) (.cells #[.int .i64 n, .pointer none, .slice (some ⟨w.heap.size, 0, none⟩) n n] 62)
    simpa using this
  · rw [Below.heap_alloc _ _ _ (by simp)]; exact heap_alloc_new _ _
  · exact size_madeCells _ _
  · rw [toList_madeCells_one]
    apply List.ext_getElem?
    intro i
    by_cases hi : i < n <;> simp [hi, byOf]
  · simp

theorem new_yes (n : Int) (w : World) (h0 : 1 ≤ n) (h1 : n ≤ 8) :
    Calls Try.prog 27 #[.int .i64 n] w fun e w' => e = .returned (.tuple #[.pointer (some ⟨w.heap.size + 1, 0, none⟩), .int .i64 0]) ∧
      Lk w' (w.heap.size + 1) w.heap.size n.toNat [] ∧ New w w' := by
  obtain ⟨n, rfl⟩ := Int.eq_ofNat_of_zero_le (show 0 ≤ n by omega)
  obtain ⟨i0, hi, hz0, hz1, hz2⟩ := info_parts info59
  have hmk := run_make (P := Try.prog) w 60 59 i0 _ Try.underlying60 hi hz0 .i64 .i64 n n (by omega) (by omega) (by rw [hz2]; omega) (by omega)
  rw [hz1] at hmk
  go_enter Try.func27, Try.ntmps27
  go_wp2
  go_ret2
  exact ⟨rfl, by simpa using new_lk n w (by omega), ((Kept.refl _ _).alloc _).alloc _⟩

theorem new_no (n : Int) (w : World) (h : n < 1 ∨ 8 < n) :
    Calls Try.prog 27 #[.int .i64 n] w fun e w' => e = .returned (.tuple #[.pointer none, .int .i64 1]) ∧ w = w' := by
  rcases h with h | h
  · go_enter Try.func27, Try.ntmps27
    go_wp2
    go_ret2
    exact ⟨rfl, rfl⟩
  · have h' : ¬ n < 1 := by omega
    go_enter Try.func27, Try.ntmps27
    go_wp2
    go_ret2
    exact ⟨rfl, rfl⟩

/-! Where a number is, in a list; -1: nowhere. -/
set_option maxRecDepth 100000 in
theorem reverse_row (g cap n : Nat) (xs : List Int) (w : World) (h : Row w g cap 3 (xs.map (Value.int .i64))) (hl : xs.length = n) (hn : n ≤ 1000000) :
    Calls Try.prog 30 #[.slice (some ⟨g, 0, none⟩) n cap] w fun e w' => e = .returned (.tuple #[]) ∧ Row w' g cap 3 (xs.reverse.map (Value.int .i64)) ∧ Kept (fun k => k = g) w w' := by
  have hcap : n ≤ cap := by simpa [hl] using h.le
  have hj : IntKind.i64.wrap ((n : Int) - 1) = (n : Int) - 1 := by rw [IntKind.wrap_i64]; omega
  go_enter Try.func30, Try.ntmps30
  go_wp2_with fail
  go_loopw [2, 3] (fun i j wr => ∃ (k : Nat) (ys : List Int), 2 * k ≤ n + 1 ∧ i = .int .i64 k ∧ j = .int .i64 ((n : Int) - 1 - k) ∧ Row wr g cap 3 (ys.map (Value.int .i64)) ∧
    Hid (ys.length = n ∧ ∀ r, r < n → ys.getD r 0 = if r < k ∨ n - k ≤ r then xs.getD (n - 1 - r) 0 else xs.getD r 0) ∧ Kept (fun k => k = g) w wr) (fun i _ _ => n - (intOf i).toNat)
  case atStart => exact ⟨0, xs, by omega, rfl, by simp, h, ⟨hl, fun r hr => by rw [if_neg (by omega)]⟩, Kept.refl _ _⟩
  case round =>
    clear h
    obtain ⟨k, ys, hk, rfl, rfl, h, Hy, hkp⟩ := hrel
    by_cases h1 : (k : Int) < (n : Int) - 1 - k
    · obtain ⟨j, hjk⟩ : ∃ j : Nat, j = n - 1 - k := ⟨_, rfl⟩
      have hje : (n : Int) - 1 - k = (j : Int) := by omega
      rw [hje] at h1 ⊢
      have Hj : Hid (j = n - 1 - k) := hjk
      have mixed : Try.prog.follows Departure.mixedOrders = true := by kernel_rfl
      have hl' := Hy.out.1
      have ck := h.cellI (i := k) (by omega)
      have cj := h.cellI (i := j) (by omega)
      have fk := h.free k
      have fj := h.free j
      have hkn : k < n := by omega
      have hjn : j < n := by omega
      generalize hyk : ys.getD k 0 = yk at ck
      generalize hyj : ys.getD j 0 = yj at cj
      have hkj : k < j := by omega
      have hkj' : ¬ k = j := by omega
      have hjk' : ¬ j = k := by omega
      clear hjk hje
      go_wp2_with fail
      go_region_o
      have h' : Row ((wr.setCell ⟨g, k, none⟩ (.int .i64 yj)).setCell ⟨g, j, none⟩ (.int .i64 yk)).drew g cap 3 (((ys.set k yj).set j yk).map (Value.int .i64)) := by
        have := (h.set k (.int .i64 yj)).set j (.int .i64 yk)
        rw [← List.map_set, ← List.map_set] at this
        exact this.same ((Kept.refl _ _).drew)
      have hk' : Kept (fun i => i = g) w ((wr.setCell ⟨g, k, none⟩ (.int .i64 yj)).setCell ⟨g, j, none⟩ (.int .i64 yk)).drew := ((hkp.setCell (.inr rfl) _).setCell (.inr rfl) _).drew
      have hj1 : IntKind.i64.wrap ((j : Int) - 1) = (j : Int) - 1 := by rw [IntKind.wrap_i64]; omega
      clear h hkp ck cj fk fj
      go_wp2_with fail
      go_roundw
      case rel =>
        have hj2 := Hj.out
        obtain ⟨hl2, hy2⟩ := Hy.out
        refine ⟨k + 1, (ys.set k yj).set j yk, by omega, by go_num, by congr 1; omega, h', ⟨by simpa using hl2, fun r hr => ?_⟩, hk'⟩
        rw [set_getD, set_getD, List.length_set, hl2, ← hyk, ← hyj, hy2 k hkn, hy2 j hjn, hy2 r hr]
        by_cases e1 : r = j
        · subst e1
          rw [if_pos ⟨rfl, hr⟩, if_neg (by omega), if_pos (by omega)]
          congr 1; omega
        · rw [if_neg (fun h => e1 h.1)]
          by_cases e2 : r = k
          · subst e2
            rw [if_pos ⟨rfl, hr⟩, if_neg (by omega), if_pos (by omega)]
            congr 1
          · rw [if_neg (fun h => e2 h.1)]
            by_cases e3 : r < k ∨ n - k ≤ r
            · rw [if_pos e3, if_pos (by omega)]
            · rw [if_neg e3, if_neg (by omega)]
      case measure => simp [intOf]; omega
    · go_wp2
      go_end0
      refine ⟨rfl, ?_, hkp⟩
      obtain ⟨hl2, hy2⟩ := Hy.out
      have he : ys = xs.reverse := by
        apply List.ext_getElem?
        intro r
        by_cases hr : r < n
        · have h1' := hy2 r hr
          rw [List.getElem?_reverse (by omega)]
          have e1 : ys[r]? = some (ys.getD r 0) := by simp [List.getD, show r < ys.length by omega]
          have e2 : xs[xs.length - 1 - r]? = some (xs.getD (xs.length - 1 - r) 0) := by simp [List.getD, show xs.length - 1 - r < xs.length by omega]
          rw [e1, e2, h1', hl]
          congr 1
          by_cases e3 : r < k ∨ n - k ≤ r
          · rw [if_pos e3]
          · rw [if_neg e3]; congr 1; omega
        · rw [List.getElem?_eq_none (by omega), List.getElem?_eq_none (by simp; omega)]
      rw [← List.map_reverse, ← he]; exact h

theorem reverse_empty (a : Option Addr) (cap : Nat) (w : World) :
    Calls Try.prog 30 #[.slice a 0 cap] w fun e w' => e = .returned (.tuple #[]) ∧ w = w' := by
  go_enter Try.func30, Try.ntmps30
  go_wp2
  refine wp_loop_once ?_
  go_wp2
  go_end0
  exact ⟨rfl, rfl⟩

/-! Rows that a call owns. -/
theorem reverse_own (base : Nat) (v : Value) (n : Nat) (xs : List Int) (w : World) (h : w.ownsRow base 3 1 v n (xs.map (Value.int .i64))) (hn : n ≤ 1000000) :
    Calls Try.prog 30 #[v] w fun e w' => e = .returned (.tuple #[]) ∧ w'.ownsRow base 3 1 v n (xs.reverse.map (Value.int .i64)) ∧ Kept (fun k => base ≤ k) w w' := by
  have hl : xs.length = n := by simpa using h.1
  rcases h.2 with ⟨rfl, rfl⟩ | ⟨g, cap, cur, rfl, hb, hg, hnc, hcm, hcs, ht⟩
  · obtain rfl : xs = [] := List.eq_nil_of_length_eq_zero hl
    exact (reverse_empty none 0 w).mono (by rintro e w' ⟨rfl, rfl⟩; exact ⟨rfl, h, Kept.refl _ _⟩)
  · have hrow : Row w g cap 3 (xs.map (Value.int .i64)) := ⟨⟨cur, hg, by simpa using hcs, by simpa [hl] using ht⟩, by simpa [hl] using hnc⟩
    refine (reverse_row g cap n xs w hrow hl hn).mono ?_
    rintro e w' ⟨rfl, hr, hk⟩
    refine ⟨rfl, ⟨by simpa using hl, .inr ?_⟩, hk.mono (fun i _ hi => by subst hi; exact hb)⟩
    obtain ⟨cur', h1, h2, h3⟩ := hr.ex
    refine ⟨g, cap, cur', rfl, hb, h1, hnc, hcm, by simpa using h2, ?_⟩
    rw [Nat.mul_one, ← hl]
    simpa using h3

theorem nodup_len : ∀ {n : Nat} {L : List Int}, L.Nodup → (∀ x ∈ L, 0 ≤ x ∧ x < n) → L.length ≤ n
  | 0, L, _, hb => by
    cases L with
    | nil => simp
    | cons a l => have := hb a (by simp); omega
  | n + 1, L, hd, hb => by
    by_cases hm : (n : Int) ∈ L
    · have h1 := nodup_len (n := n) (L := L.erase n) (hd.erase _) (fun x hx => by
        have h2 := hb x (List.mem_of_mem_erase hx)
        have h3 : x ≠ n := by rintro rfl; exact (List.Nodup.not_mem_erase hd) hx
        omega)
      rw [List.length_erase_of_mem hm] at h1
      omega
    · have := nodup_len (n := n) hd (fun x hx => by
        have h2 := hb x hx
        have h3 : x ≠ n := by rintro rfl; exact hm hx
        omega)
      omega
theorem Lk.len8 {b g n : Nat} {N : List (Int × Nat)} {w : World} (h : Lk w b g n N) : N.length ≤ 1000000 := by
  have := nodup_len (n := n) h.nodup (fun x hx => by
    obtain ⟨y, hy, rfl⟩ := List.mem_map.1 hx
    exact h.core y hy)
  have := h.le
  simp at *
  omega

set_option maxHeartbeats 1000000 in
theorem line_any (b g n : Nat) (N : List (Int × Nat)) (w : World) (h : Lk w b g n N) :
    Calls Try.prog 23 #[.pointer (some ⟨b, 0, none⟩)] w fun e w' => ∃ v, e = .returned v ∧ w'.ownsRow w.heap.size 3 1 v N.length ((N.map Prod.fst).map (Value.int .i64)) ∧ New w w' := by
  obtain ⟨t, hb, hch⟩ := h.blk
  have hc : w.cell? ⟨b, 1, none⟩ = some (.pointer t) := cell_blk hb 1
  have hN8 := h.len8
  obtain ⟨i0, hi0, hz0, hz1, hz2⟩ := info_parts info3
  go_enter Try.func23, Try.ntmps23
  go_wp2_with fail
  go_loopw [3, 4] (fun o p wr => ∃ (k : Nat) (t : Option Addr) (v : Value), k ≤ N.length ∧ v = o ∧ p = .pointer t ∧ wr.ownsRow w.heap.size 3 1 v k (((N.reverse.map Prod.fst).take k).map (Value.int .i64)) ∧ Hid (Chain w t (N.reverse.drop k)) ∧ New w wr) (fun o _ _ => N.length - sliceLen o)
  case atStart => exact ⟨0, t, _, by omega, rfl, rfl, ⟨by simp, .inl ⟨rfl, rfl⟩⟩, by simpa [Hid] using hch, Kept.refl _ _⟩
  case round =>
    clear hc hb hch
    obtain ⟨k, t, v, hk, rfl, rfl, hown, Hch, hkp⟩ := hrel
    have hch := Hch.out
    have hlen := own_len hown
    cases hR : N.reverse.drop k with
    | nil =>
      rw [hR] at hch
      have hkN : k = N.length := by
        have := congrArg List.length hR
        simp at this; omega
      subst hkN
      rw [List.take_of_length_le (by simp)] at hown
      rcases hch with rfl | ⟨d, c, rfl, hd⟩
      · go_wp2_with (go_at_call 30; refine (reverse_own _ _ _ _ _ hown hN8).mono ?_; rintro e w' ⟨rfl, hown', hk'⟩)
        go_ret
        refine ⟨_, rfl, by simpa using hown', hkp.trans' hk' (fun i hi hb => by omega)⟩
      · have hw : _ = some (Value.bool false) := cell_blk (hkp.heap hd (fun h => h)) 2
        go_wp2_with (go_at_call 30; refine (reverse_own _ _ _ _ _ hown hN8).mono ?_; rintro e w' ⟨rfl, hown', hk'⟩)
        go_ret
        refine ⟨_, rfl, by simpa using hown', hkp.trans' hk' (fun i hi hb => by omega)⟩
    | cons a r =>
      obtain ⟨c, p⟩ := a
      rw [hR] at hch
      obtain ⟨rfl, t', hp, hch'⟩ := hch
      have hp' := hkp.heap hp (fun h => h)
      have hw0 : _ = some (Value.int .i64 c) := cell_blk hp' 0
      have hw1 : _ = some (Value.pointer t') := cell_blk hp' 1
      have hw2 : _ = some (Value.bool true) := cell_blk hp' 2
      have hplt := lt_of_heap hp'
      have hkN : k < N.length := by
        have := congrArg List.length hR
        simp at this; omega
      have hsz := hkp.size
      have hown2 : (wr.alloc (.cells #[.int .i64 c] 3)).ownsRow w.heap.size 3 1 v k (((N.reverse.map Prod.fst).take k).map (Value.int .i64)) := own_same hown ((Kept.refl _ _).alloc _)
      have hlit := Src.lit wr #[.int .i64 c] 3 1 1 rfl
      have hplt2 : p < w.heap.size := lt_of_heap hp
      go_wp2_with (at_builtin; refine wpList_append_src rfl _ _ 26 rfl w.heap.size 3 i0 _ 1 8 Try.underlying26 hi0 hz0 hz1 hz2 rfl (by decide) v k _ rfl hown2 _ 1 _ rfl hlit (by simp [Value.oneCell']) (by unfold maxLen; omega) (by omega) (by simp; omega) ?_; intro v' w' hown' hgr; have hkp' : New w w' := (hkp.alloc _).grown hgr (fun i hi => .inl (own_block hown hi)); have hw1' : w'.cell? ⟨p, 1, none⟩ = some (.pointer t') := cell_blk (hkp'.heap hp (fun h => h)) 1)
      go_roundw
      case rel =>
        refine ⟨k + 1, t', v', by omega, rfl, rfl, ?_, ?_, hkp'⟩
        · have e1 : (N.reverse.map Prod.fst).take (k + 1) = (N.reverse.map Prod.fst).take k ++ [c] := by
            rw [List.take_add_one]
            congr 1
            have : N.reverse[k]? = some (c, p) := by
              have := congrArg (fun l => l[0]?) hR
              simpa using this
            rw [List.getElem?_map, this]; rfl
          rw [e1]
          simpa using hown'
        · show Chain w t' (N.reverse.drop (k + 1))
          have : N.reverse.drop (k + 1) = r := by
            have := congrArg List.tail hR
            simpa using this
          rw [this]; exact hch'
      case measure =>
        have h1 := own_len hown'
        show N.length - sliceLen v' < N.length - sliceLen v
        omega
end Go.Proofs.Ytjimjkfnpklhiaa

/- Package lock: New, Line, Ahead, Copy; slices.Index, slices.Reverse, Nums. -/
import Derived.Test.YtbnjfkfmkbijnaaLockB
import Derived.Shelf.RegionOpenPlain
set_option linter.all false
namespace Go.Proofs.Ytbnjfkfmkbijnaa
open Go.RowKit

theorem info49 : (Try.prog.info? 49).map (fun i => (i.zero, i.size, i.bytes)) = some (some (.pointer none), 1, 8) := by kernel_rfl
theorem info3 : (Try.prog.info? 3).map (fun i => (i.zero, i.size, i.bytes)) = some (some (.int .i64 0), 1, 8) := by kernel_rfl

theorem Row.cellI {w : World} {g cap : Nat} {e : TypeId} {k : IntKind} {ws : List Int} (h : Row w g cap e (ws.map (Value.int k))) {i : Nat} (hi : i < ws.length) : w.cell? ⟨g, i, none⟩ = some (.int k (ws.getD i 0)) := by
  rw [h.cell (by simpa using hi)]; simp [List.getD, hi]

theorem new_lk (n : Nat) (w : World) (h1 : n ≤ 8) :
    Lk ((w.alloc (.cells (madeCells #[.pointer none] n) 49)).alloc (.cells #[.int .i64 n, .pointer none, .slice (some ⟨w.heap.size, 0, none⟩) n n] 51)) (w.heap.size + 1) w.heap.size n [] := by
  refine ⟨⟨none, ?_, .inl rfl⟩, ⟨⟨madeCells #[.pointer none] n, ?_, ?_, ?_⟩, ?_⟩, by simp, by simp, h1⟩
  · have := heap_alloc_new (w.alloc (.cells (madeCells #[.pointer none] n) 49)) (.cells #[.int .i64 n, .pointer none, .slice (some ⟨w.heap.size, 0, none⟩) n n] 51)
    simpa using this
  · rw [Below.heap_alloc _ _ _ (by simp)]; exact heap_alloc_new _ _
  · exact size_madeCells _ _
  · rw [toList_madeCells_one]
    apply List.ext_getElem?
    intro i
    by_cases hi : i < n <;> simp [hi, byOf]
  · simp

theorem new_yes (n : Int) (w : World) (h0 : 1 ≤ n) (h1 : n ≤ 8) :
    Calls Try.prog 9 #[.int .i64 n] w fun e w' => e = .returned (.tuple #[.pointer (some ⟨w.heap.size + 1, 0, none⟩), .int .i64 0]) ∧
      Lk w' (w.heap.size + 1) w.heap.size n.toNat [] ∧ New w w' := by
  obtain ⟨n, rfl⟩ := Int.eq_ofNat_of_zero_le (show 0 ≤ n by omega)
  obtain ⟨i0, hi, hz0, hz1, hz2⟩ := info_parts info49
  have hmk := run_make (P := Try.prog) w 48 49 i0 _ Try.underlying48 hi hz0 .i64 .i64 n n (by omega) (by omega) (by rw [hz2]; omega) (by omega)
  rw [hz1] at hmk
  go_enter Try.func9, Try.ntmps9
  go_wp2
  go_ret2
  exact ⟨rfl, by simpa using new_lk n w (by omega), ((Kept.refl _ _).alloc _).alloc _⟩

theorem new_no (n : Int) (w : World) (h : n < 1 ∨ 8 < n) :
    Calls Try.prog 9 #[.int .i64 n] w fun e w' => e = .returned (.tuple #[.pointer none, .int .i64 1]) ∧ w = w' := by
  rcases h with h | h
  · go_enter Try.func9, Try.ntmps9
    go_wp2
    go_ret2
    exact ⟨rfl, rfl⟩
  · have h' : ¬ n < 1 := by omega
    go_enter Try.func9, Try.ntmps9
    go_wp2
    go_ret2
    exact ⟨rfl, rfl⟩

/-! Where a number is, in a list; -1: nowhere. -/
def pos (x : Int) : List Int → Int
  | [] => -1
  | a :: l => if a = x then 0 else if pos x l < 0 then -1 else pos x l + 1
theorem pos_ge (x : Int) : ∀ l, -1 ≤ pos x l
  | [] => by simp [pos]
  | a :: l => by rw [pos]; split; omega; split <;> omega
theorem pos_none {x : Int} : ∀ {l : List Int}, x ∉ l → pos x l = -1
  | [], _ => rfl
  | a :: l, h => by
    simp at h
    rw [pos, if_neg (fun e => h.1 e.symm), pos_none h.2]; rfl
theorem pos_at {x : Int} : ∀ {l : List Int} {k : Nat}, l[k]? = some x → (∀ r, r < k → l[r]? ≠ some x) → pos x l = k
  | [], k, h, _ => by simp at h
  | a :: l, 0, h, _ => by simp at h; subst h; simp [pos]
  | a :: l, k + 1, h, hn => by
    have h0 := hn 0 (by omega)
    have ih := pos_at (l := l) (k := k) (by simpa using h) (fun r hr => by have := hn (r + 1) (by omega); simpa using this)
    rw [pos, if_neg (by simpa using h0), ih]
    split <;> omega

theorem indexOf_any (v : Value) (n : Nat) (xs : List Int) (x : Int) (w : World) (hs : Src w v n 1 (xs.map (Value.int .i64))) (hn : n ≤ 1000000) :
    Calls Try.prog 29 #[v, .int .i64 x] w fun e w' => e = .returned (.int .i64 (pos x xs)) ∧ w = w' := by
  obtain ⟨hl, ao, c, rfl, hc⟩ := hs.ints
  have Hc := Lib.hid hc
  have Hl := Lib.hid hl
  clear hc hl hs
  go_enter Try.func29, Try.ntmps29
  go_wp2_with fail
  go_loopw [8] (fun i wr => ∃ k : Nat, k ≤ n ∧ i = .int .i64 k ∧ Hid (∀ r, r < k → xs[r]? ≠ some x) ∧ wr = w) (fun i _ => n - (intOf i).toNat)
  case atStart => exact ⟨0, by omega, rfl, fun r hr => by omega, rfl⟩
  case round =>
    obtain ⟨k, hk, rfl, Hk, rfl⟩ := hrel
    by_cases h1 : k < n
    · obtain ⟨ad, rfl, hcell⟩ := Hc.out k h1
      have hx : xs[k]? = some (xs.getD k 0) := by have := Hl.out; simp [List.getD, show k < xs.length by omega]
      by_cases h2 : xs.getD k 0 = x
      · have hp := pos_at (x := x) (l := xs) (k := k) (by rw [hx, h2]) Hk.out
        rw [h2] at hcell
        go_wp2_with fail
        go_ret
        exact ⟨ret_int hp.symm, rfl⟩
      · have h3 : ¬ x = xs.getD k 0 := fun e => h2 e.symm
        have h4 : xs[k]? ≠ some x := by rw [hx]; simpa using h2
        clear hx
        generalize xs.getD k 0 = u at *
        go_wp2_with fail
        go_roundw
        case rel => exact ⟨k + 1, by omega, by go_num, fun r hr => by
          by_cases h5 : r = k
          · subst h5; exact h4
          · exact Hk.out r (by omega), trivial⟩
        case measure => simp [intOf]; omega
    · go_wp2_with fail
      go_ret
      refine ⟨ret_int (pos_none ?_).symm, rfl⟩
      intro hm
      obtain ⟨i, hi⟩ := List.getElem?_of_mem hm
      have := (List.getElem?_eq_some_iff.1 hi).1
      exact Hk.out i (by have := Hl.out; omega) hi

theorem set_getD (xs : List Int) (i r : Nat) (v : Int) : (xs.set i v).getD r 0 = if r = i ∧ r < xs.length then v else xs.getD r 0 := by
  simp only [List.getD, List.getElem?_set]
  by_cases h : i = r
  · subst h
    by_cases h2 : i < xs.length <;> simp [h2]
  · rw [if_neg h, if_neg (fun e => h e.1.symm)]

set_option maxRecDepth 100000 in
theorem reverse_row (g cap n : Nat) (xs : List Int) (w : World) (h : Row w g cap 3 (xs.map (Value.int .i64))) (hl : xs.length = n) (hn : n ≤ 1000000) :
    Calls Try.prog 30 #[.slice (some ⟨g, 0, none⟩) n cap] w fun e w' => e = .returned (.tuple #[]) ∧ Row w' g cap 3 (xs.reverse.map (Value.int .i64)) ∧ Kept (fun k => k = g) w w' := by
  have hcap : n ≤ cap := by simpa [hl] using h.le
  have hj : IntKind.i64.wrap ((n : Int) - 1) = (n : Int) - 1 := by rw [IntKind.wrap_i64]; omega
  go_enter Try.func30, Try.ntmps30
  go_wp2_with fail
  go_loopw [2, 3] (fun i j wr => ∃ (k : Nat) (ys : List Int), 2 * k ≤ n + 1 ∧ i = .int .i64 k ∧ j = .int .i64 ((n : Int) - 1 - k) ∧ Row wr g cap 3 (ys.map (Value.int .i64)) ∧
    Hid (ys.length = n ∧ ∀ r, r < n → ys.getD r 0 = if r < k ∨ n - k ≤ r then xs.getD (n - 1 - r) 0 else xs.getD r 0) ∧ Kept (fun k => k = g) w wr) (fun i _ _ => n - (intOf i).toNat)
  case atStart => exact ⟨0, xs, by omega, rfl, by simp, h, ⟨hl, fun r hr => by rw [if_neg (by omega)]⟩, Kept.refl _ _⟩
  case round =>
    clear h
    obtain ⟨k, ys, hk, rfl, rfl, h, Hy, hkp⟩ := hrel
    by_cases h1 : (k : Int) < (n : Int) - 1 - k
    · obtain ⟨j, hjk⟩ : ∃ j : Nat, j = n - 1 - k := ⟨_, rfl⟩
      have hje : (n : Int) - 1 - k = (j : Int) := by omega
      rw [hje] at h1 ⊢
      have Hj : Hid (j = n - 1 - k) := hjk
      have mixed : Try.prog.follows Departure.mixedOrders = true := by kernel_rfl
      have hl' := Hy.out.1
      have ck := h.cellI (i := k) (by omega)
      have cj := h.cellI (i := j) (by omega)
      have fk := h.free k
      have fj := h.free j
      have hkn : k < n := by omega
      have hjn : j < n := by omega
      generalize hyk : ys.getD k 0 = yk at ck
      generalize hyj : ys.getD j 0 = yj at cj
      have hkj : k < j := by omega
      have hkj' : ¬ k = j := by omega
      have hjk' : ¬ j = k := by omega
      clear hjk hje
      go_wp2_with fail
      go_region_o
      have h' : Row ((wr.setCell ⟨g, k, none⟩ (.int .i64 yj)).setCell ⟨g, j, none⟩ (.int .i64 yk)).drew g cap 3 (((ys.set k yj).set j yk).map (Value.int .i64)) := by
        have := (h.set k (.int .i64 yj)).set j (.int .i64 yk)
        rw [← List.map_set, ← List.map_set] at this
        exact this.same ((Kept.refl _ _).drew)
      have hk' : Kept (fun i => i = g) w ((wr.setCell ⟨g, k, none⟩ (.int .i64 yj)).setCell ⟨g, j, none⟩ (.int .i64 yk)).drew := ((hkp.setCell (.inr rfl) _).setCell (.inr rfl) _).drew
      have hj1 : IntKind.i64.wrap ((j : Int) - 1) = (j : Int) - 1 := by rw [IntKind.wrap_i64]; omega
      clear h hkp ck cj fk fj
      go_wp2_with fail
      go_roundw
      case rel =>
        have hj2 := Hj.out
        obtain ⟨hl2, hy2⟩ := Hy.out
        refine ⟨k + 1, (ys.set k yj).set j yk, by omega, by go_num, by congr 1; omega, h', ⟨by simpa using hl2, fun r hr => ?_⟩, hk'⟩
        rw [set_getD, set_getD, List.length_set, hl2, ← hyk, ← hyj, hy2 k hkn, hy2 j hjn, hy2 r hr]
        by_cases e1 : r = j
        · subst e1
          rw [if_pos ⟨rfl, hr⟩, if_neg (by omega), if_pos (by omega)]
          congr 1; omega
        · rw [if_neg (fun h => e1 h.1)]
          by_cases e2 : r = k
          · subst e2
            rw [if_pos ⟨rfl, hr⟩, if_neg (by omega), if_pos (by omega)]
            congr 1
          · rw [if_neg (fun h => e2 h.1)]
            by_cases e3 : r < k ∨ n - k ≤ r
            · rw [if_pos e3, if_pos (by omega)]
            · rw [if_neg e3, if_neg (by omega)]
      case measure => simp [intOf]; omega
    · go_wp2
      go_end0
      refine ⟨rfl, ?_, hkp⟩
      obtain ⟨hl2, hy2⟩ := Hy.out
      have he : ys = xs.reverse := by
        apply List.ext_getElem?
        intro r
        by_cases hr : r < n
        · have h1' := hy2 r hr
          rw [List.getElem?_reverse (by omega)]
          have e1 : ys[r]? = some (ys.getD r 0) := by simp [List.getD, show r < ys.length by omega]
          have e2 : xs[xs.length - 1 - r]? = some (xs.getD (xs.length - 1 - r) 0) := by simp [List.getD, show xs.length - 1 - r < xs.length by omega]
          rw [e1, e2, h1', hl]
          congr 1
          by_cases e3 : r < k ∨ n - k ≤ r
          · rw [if_pos e3]
          · rw [if_neg e3]; congr 1; omega
        · rw [List.getElem?_eq_none (by omega), List.getElem?_eq_none (by simp; omega)]
      rw [← List.map_reverse, ← he]; exact h

theorem reverse_empty (a : Option Addr) (cap : Nat) (w : World) :
    Calls Try.prog 30 #[.slice a 0 cap] w fun e w' => e = .returned (.tuple #[]) ∧ w = w' := by
  go_enter Try.func30, Try.ntmps30
  go_wp2
  refine wp_loop_once ?_
  go_wp2
  go_end0
  exact ⟨rfl, rfl⟩

/-! Rows that a call owns. -/
theorem own_kept {F : Nat → Prop} {w w' : World} {base : Nat} {e : TypeId} {s : Nat} {v : Value} {n : Nat} {xs : List Value} (h : w.ownsRow base e s v n xs) (k : Kept F w w') (hF : ∀ i, v.ownBlock = some i → ¬ F i) : w'.ownsRow base e s v n xs := by
  refine ⟨h.1, ?_⟩
  rcases h.2 with ⟨h1, h2⟩ | ⟨g, cap, cur, rfl, h2, h3, h4⟩
  · exact .inl ⟨h1, h2⟩
  · exact .inr ⟨g, cap, cur, rfl, h2, k.heap h3 (hF g rfl), h4⟩
theorem own_same {w w' : World} {base : Nat} {e : TypeId} {s : Nat} {v : Value} {n : Nat} {xs : List Value} (h : w.ownsRow base e s v n xs) (k : New w w') : w'.ownsRow base e s v n xs := own_kept h k (fun _ _ h => h)
theorem own_block {w : World} {base : Nat} {e : TypeId} {s : Nat} {v : Value} {n : Nat} {xs : List Value} (h : w.ownsRow base e s v n xs) {k : Nat} (hk : v.ownBlock = some k) : base ≤ k := by
  rcases h.2 with ⟨rfl, _⟩ | ⟨g, cap, cur, rfl, h2, _⟩
  · simp [Value.ownBlock] at hk
  · simp [Value.ownBlock] at hk; omega
theorem own_mono {w : World} {base base' : Nat} {e : TypeId} {s : Nat} {v : Value} {n : Nat} {xs : List Value} (h : w.ownsRow base e s v n xs) (hb : base' ≤ base) : w.ownsRow base' e s v n xs := by
  refine ⟨h.1, ?_⟩
  rcases h.2 with h1 | ⟨g, cap, cur, h1, h2, h3⟩
  · exact .inl h1
  · exact .inr ⟨g, cap, cur, h1, by omega, h3⟩
def sliceLen : Value → Nat | .slice _ n _ => n | _ => 0
theorem own_len {w : World} {base : Nat} {e : TypeId} {s : Nat} {v : Value} {n : Nat} {xs : List Value} (h : w.ownsRow base e s v n xs) : sliceLen v = n := by
  rcases h.2 with ⟨rfl, h2⟩ | ⟨g, cap, cur, rfl, _⟩
  · exact h2.symm
  · rfl

theorem reverse_own (base : Nat) (v : Value) (n : Nat) (xs : List Int) (w : World) (h : w.ownsRow base 3 1 v n (xs.map (Value.int .i64))) (hn : n ≤ 1000000) :
    Calls Try.prog 30 #[v] w fun e w' => e = .returned (.tuple #[]) ∧ w'.ownsRow base 3 1 v n (xs.reverse.map (Value.int .i64)) ∧ Kept (fun k => base ≤ k) w w' := by
  have hl : xs.length = n := by simpa using h.1
  rcases h.2 with ⟨rfl, rfl⟩ | ⟨g, cap, cur, rfl, hb, hg, hnc, hcm, hcs, ht⟩
  · obtain rfl : xs = [] := List.eq_nil_of_length_eq_zero hl
    exact (reverse_empty none 0 w).mono (by rintro e w' ⟨rfl, rfl⟩; exact ⟨rfl, h, Kept.refl _ _⟩)
  · have hrow : Row w g cap 3 (xs.map (Value.int .i64)) := ⟨⟨cur, hg, by simpa using hcs, by simpa [hl] using ht⟩, by simpa [hl] using hnc⟩
    refine (reverse_row g cap n xs w hrow hl hn).mono ?_
    rintro e w' ⟨rfl, hr, hk⟩
    refine ⟨rfl, ⟨by simpa using hl, .inr ?_⟩, hk.mono (fun i _ hi => by subst hi; exact hb)⟩
    obtain ⟨cur', h1, h2, h3⟩ := hr.ex
    refine ⟨g, cap, cur', rfl, hb, h1, hnc, hcm, by simpa using h2, ?_⟩
    rw [Nat.mul_one, ← hl]
    simpa using h3

theorem nodup_len : ∀ {n : Nat} {L : List Int}, L.Nodup → (∀ x ∈ L, 0 ≤ x ∧ x < n) → L.length ≤ n
  | 0, L, _, hb => by
    cases L with
    | nil => simp
    | cons a l => have := hb a (by simp); omega
  | n + 1, L, hd, hb => by
    by_cases hm : (n : Int) ∈ L
    · have h1 := nodup_len (n := n) (L := L.erase n) (hd.erase _) (fun x hx => by
        have h2 := hb x (List.mem_of_mem_erase hx)
        have h3 : x ≠ n := by rintro rfl; exact (List.Nodup.not_mem_erase hd) hx
        omega)
      rw [List.length_erase_of_mem hm] at h1
      omega
    · have := nodup_len (n := n) hd (fun x hx => by
        have h2 := hb x hx
        have h3 : x ≠ n := by rintro rfl; exact hm hx
        omega)
      omega
theorem Lk.len8 {b g n : Nat} {N : List (Int × Nat)} {w : World} (h : Lk w b g n N) : N.length ≤ 1000000 := by
  have := nodup_len (n := n) h.nodup (fun x hx => by
    obtain ⟨y, hy, rfl⟩ := List.mem_map.1 hx
    exact h.core y hy)
  have := h.le
  simp at *
  omega

set_option maxHeartbeats 1000000 in
theorem line_any (b g n : Nat) (N : List (Int × Nat)) (w : World) (h : Lk w b g n N) :
    Calls Try.prog 15 #[.pointer (some ⟨b, 0, none⟩)] w fun e w' => ∃ v, e = .returned v ∧ w'.ownsRow w.heap.size 3 1 v N.length ((N.map Prod.fst).map (Value.int .i64)) ∧ New w w' := by
  obtain ⟨t, hb, hch⟩ := h.blk
  have hc : w.cell? ⟨b, 1, none⟩ = some (.pointer t) := cell_blk hb 1
  have hN8 := h.len8
  obtain ⟨i0, hi0, hz0, hz1, hz2⟩ := info_parts info3
  go_enter Try.func15, Try.ntmps15
  go_wp2_with fail
  go_loopw [3, 4] (fun o p wr => ∃ (k : Nat) (t : Option Addr) (v : Value), k ≤ N.length ∧ v = o ∧ p = .pointer t ∧ wr.ownsRow w.heap.size 3 1 v k (((N.reverse.map Prod.fst).take k).map (Value.int .i64)) ∧ Hid (Chain w t (N.reverse.drop k)) ∧ New w wr) (fun o _ _ => N.length - sliceLen o)
  case atStart => exact ⟨0, t, _, by omega, rfl, rfl, ⟨by simp, .inl ⟨rfl, rfl⟩⟩, by simpa [Hid] using hch, Kept.refl _ _⟩
  case round =>
    clear hc hb hch
    obtain ⟨k, t, v, hk, rfl, rfl, hown, Hch, hkp⟩ := hrel
    have hch := Hch.out
    have hlen := own_len hown
    cases hR : N.reverse.drop k with
    | nil =>
      rw [hR] at hch
      have hkN : k = N.length := by
        have := congrArg List.length hR
        simp at this; omega
      subst hkN
      rw [List.take_of_length_le (by simp)] at hown
      rcases hch with rfl | ⟨d, c, rfl, hd⟩
      · go_wp2_with (go_at_call 30; refine (reverse_own _ _ _ _ _ hown hN8).mono ?_; rintro e w' ⟨rfl, hown', hk'⟩)
        go_ret
        refine ⟨_, rfl, by simpa using hown', hkp.trans' hk' (fun i hi hb => by omega)⟩
      · have hw : _ = some (Value.bool false) := cell_blk (hkp.heap hd (fun h => h)) 2
        go_wp2_with (go_at_call 30; refine (reverse_own _ _ _ _ _ hown hN8).mono ?_; rintro e w' ⟨rfl, hown', hk'⟩)
        go_ret
        refine ⟨_, rfl, by simpa using hown', hkp.trans' hk' (fun i hi hb => by omega)⟩
    | cons a r =>
      obtain ⟨c, p⟩ := a
      rw [hR] at hch
      obtain ⟨rfl, t', hp, hch'⟩ := hch
      have hp' := hkp.heap hp (fun h => h)
      have hw0 : _ = some (Value.int .i64 c) := cell_blk hp' 0
      have hw1 : _ = some (Value.pointer t') := cell_blk hp' 1
      have hw2 : _ = some (Value.bool true) := cell_blk hp' 2
      have hplt := lt_of_heap hp'
      have hkN : k < N.length := by
        have := congrArg List.length hR
        simp at this; omega
      have hsz := hkp.size
      have hown2 : (wr.alloc (.cells #[.int .i64 c] 3)).ownsRow w.heap.size 3 1 v k (((N.reverse.map Prod.fst).take k).map (Value.int .i64)) := own_same hown ((Kept.refl _ _).alloc _)
      have hlit := Src.lit wr #[.int .i64 c] 3 1 1 rfl
      have hplt2 : p < w.heap.size := lt_of_heap hp
      go_wp2_with (at_builtin; refine wpList_append_src rfl _ _ 27 rfl w.heap.size 3 i0 _ 1 8 Try.underlying27 hi0 hz0 hz1 hz2 rfl (by decide) v k _ rfl hown2 _ 1 _ rfl hlit (by simp [Value.oneCell']) (by unfold maxLen; omega) (by omega) (by simp; omega) ?_; intro v' w' hown' hgr; have hkp' : New w w' := (hkp.alloc _).grown hgr (fun i hi => .inl (own_block hown hi)); have hw1' : w'.cell? ⟨p, 1, none⟩ = some (.pointer t') := cell_blk (hkp'.heap hp (fun h => h)) 1)
      go_roundw
      case rel =>
        refine ⟨k + 1, t', v', by omega, rfl, rfl, ?_, ?_, hkp'⟩
        · have e1 : (N.reverse.map Prod.fst).take (k + 1) = (N.reverse.map Prod.fst).take k ++ [c] := by
            rw [List.take_add_one]
            congr 1
            have : N.reverse[k]? = some (c, p) := by
              have := congrArg (fun l => l[0]?) hR
              simpa using this
            rw [List.getElem?_map, this]; rfl
          rw [e1]
          simpa using hown'
        · show Chain w t' (N.reverse.drop (k + 1))
          have : N.reverse.drop (k + 1) = r := by
            have := congrArg List.tail hR
            simpa using this
          rw [this]; exact hch'
      case measure =>
        have h1 := own_len hown'
        show N.length - sliceLen v' < N.length - sliceLen v
        omega
end Go.Proofs.Ytbnjfkfmkbijnaa

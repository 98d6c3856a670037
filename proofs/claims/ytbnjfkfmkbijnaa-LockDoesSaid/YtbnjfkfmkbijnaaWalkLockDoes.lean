/- The walk of the law LockDoes. -/
import Derived.Test.YtbnjfkfmkbijnaaLockR
import Derived.Deep.RegionHeld3
set_option linter.all false
namespace Go.Proofs.Ytbnjfkfmkbijnaa
open Go.RowKit

set_option maxRecDepth 100000 in
set_option maxHeartbeats 16000000 in
theorem walkLockDoes (w : World) (cores : Int) (_ : (Lit.int .i64 cores).wf = true) (v : Value) (rows : List (List Value)) (hs : Src w v rows.length 2 rows.flatten) (hr : ∀ x ∈ rows, FlatOk [.int .i64, .int .i64] x) (hm : rows.length ≤ maxLen) :
    Calls Try.prog 7 #[.int .i64 cores, v] w fun e w' => e = .returned (.bool true) ∧ Below w.heap.size w w' := by
  unfold maxLen at hm
  obtain ⟨ao, c, rfl, hc⟩ := hs.rows rfl rfl hr (by decide)
  have Hc := Lib.hid hc
  clear hc hs
  generalize rows.length = len at *
  obtain ⟨m, hmm, a0, a1⟩ := and_small cores 3 (by decide)
  simp only [Int.reducePow, Int.reduceSub] at hmm a1
  obtain ⟨m, rfl⟩ := Int.eq_ofNat_of_zero_le a0
  obtain ⟨n, hn⟩ : ∃ n : Nat, n = 1 + m := ⟨_, rfl⟩
  have hw1 : IntKind.i64.wrap (1 + (m : Int)) = (n : Int) := by rw [IntKind.wrap_i64]; omega
  have hn1 : 1 ≤ n := by omega
  have hn2 : n ≤ 8 := by omega
  clear hn
  go_enter Try.func7, Try.ntmps7
  go_wp2_with fail
  refine (lock_new n _ (by omega) (by omega)).mono ?_
  rintro e w1 ⟨rfl, hM, hk⟩
  rw [Int.toNat_natCast] at hM
  go_wp2_with fail
  refine (rnew_yes n _ (by omega) (by omega)).mono ?_
  rintro e w2 ⟨rfl, hR, hk2⟩
  rw [Int.toNat_natCast] at hR
  have hs1 := hk.size
  replace hM := hM.same hk2
  replace hR := hR.mono (O' := fun k => w.heap.size ≤ k) (fun k hk => by omega)
  replace hk := hk.trans hk2
  clear hk2
  go_wp2_with fail
  obtain ⟨b2, hb2⟩ : ∃ b2, b2 = w1.heap.size := ⟨_, rfl⟩
  rw [← hb2] at hR ⊢
  clear hb2 hs1 hmm hw1
  go_loopw [5, 9] (fun p i wr => ∃ (j b g : Nat) (L : List Int), j ≤ len ∧ j ≤ 100 ∧ p = .pointer (some ⟨b, 0, none⟩) ∧ i = .int .i64 j ∧ LK w.heap.size wr b g n L ∧ Rk (fun k => w.heap.size ≤ k) wr b2 n L ∧ New w wr) (fun _ i _ => 100 - (intOf i).toNat)
  case atStart => exact ⟨0, _, _, [], by omega, by omega, rfl, rfl, hM, hR, hk⟩
  case round =>
    clear hM hR hk
    obtain ⟨j, b, g, L, hjl, hj100, rfl, rfl, hM, hR, hk⟩ := hrel
    by_cases h1 : j < len
    · by_cases h2 : j < 100
      · have h2z : (j : Int) < 100 := by omega
        obtain ⟨B, O, x, rfl, hx, _, hcell⟩ := Hc.out j h1
        obtain ⟨kind, _, rfl, wk, hx⟩ := hx.int
        obtain ⟨core, _, rfl, wc, hx⟩ := hx.int
        obtain rfl := hx.nil
        have e0 := hcell 0 (.int .i64 kind) rfl
        have e1 := hcell 1 (.int .i64 core) rfl
        clear hcell hx
        simp only [Nat.add_zero] at e0
        replace e0 := cell_kept hk e0 (fun h => h)
        replace e1 := cell_kept hk e1 (fun h => h)
        have hszr := hk.size
        by_cases h0 : kind = 0
        · have hkind := h0
          clear h0
          subst hkind
          have hMa := hM.alloc (.cells #[.int .i64 0, .int .i64 core] 29)
          have hRa := hR.alloc (.cells #[.int .i64 0, .int .i64 core] 29)
          have hka := hk.alloc (.cells #[.int .i64 0, .int .i64 core] 29)
          have hBa : (wr.alloc (.cells #[.int .i64 0, .int .i64 core] 29)).heap[wr.heap.size]? = some (.cells #[.int .i64 0, .int .i64 core] 29 (0, 0)) := heap_alloc_new _ _
          have hlen := hM.len
          clear hM hR hk
          obtain ⟨r, L', he⟩ : ∃ r L', enterE n L core = (r, L') := ⟨_, _, rfl⟩
          go_wp2_with fail
          refine (enter1 _ _ _ _ L' core r _ hMa hka.size he).mono ?_
          rintro e w3 ⟨rfl, hM3, hk3⟩
          have hR3 := (hRa.typed.kept hk3 (fun i hi hF => hi.2.not_lt hF.2)).mono (O' := fun k => w.heap.size ≤ k) (fun _ h => h.1)
          have hB3 := hk3.heap hBa (fun h => not_lt hBa (by decide) (by decide) (by decide) h.2)
          have hk3' : New w w3 := hka.new hk3 (fun i hi => hi.1)
          have l1 : w3.cell? ⟨wr.heap.size, 1, none⟩ = some (.int .i64 core) := cell_blk hB3 1
          have hsz3 := hk3'.size
          clear hMa hRa hka hBa hk3
          go_wp2_with fail
          refine (renter_any _ _ _ L' core r _ hR3 (by omega) he).mono ?_
          rintro e w4 ⟨rfl, hR4', hk4'⟩
          have hR4 := hR4'.mono (O' := fun k => w.heap.size ≤ k) (fun k hk => by omega)
          have hM4 := hM3.keptR hk4'
          have hB4 := hk4'.heap hB3 (fun h => by
            obtain ⟨_, c9, T9, e9, e8⟩ := h
            rw [hB3] at e9
            rcases e8 with rfl | rfl <;> simp at e9)
          have hk4 : New w w4 := hk3'.new hk4' (fun i hi => hi.1)
          clear hM3 hR3 hB3 hk3' l1 hR4' hk4' he hlen
          have hlL := hM4.len
          obtain ⟨hh, is, hho⟩ : ∃ hh is, holderE L' = (hh, is) := ⟨_, _, rfl⟩
          obtain ⟨pp, hpp⟩ : ∃ pp, pos core L' = pp := ⟨_, rfl⟩
          go_wp2_with fail
          refine (holder1 _ _ _ _ hh is _ hM4 hho).mono ?_
          rintro e wx ⟨rfl, rfl⟩
          go_wp2_with fail
          refine (rholder_any _ _ _ hh is _ hR4 hho).mono ?_
          rintro e wx ⟨rfl, rfl⟩
          clear hho
          go_wp2_with fail
          refine (lock_line _ _ _ _ _ hM4).mono ?_
          rintro e w6 ⟨v6, rfl, hown6, hk6⟩
          have hM6 := hM4.same hk6
          have hR6 := hR4.sized.same hk6
          have hB6 := hk6.heap hB4 (fun h => h)
          have hsz6 := hk6.size
          have hszW := hk4.size
          have hk6' := hk4.trans hk6
          clear hM4 hR4 hB4 hk4 hk6
          obtain ⟨v9, hb9, hown9, _, hv9⟩ := hR6
          have hR6 : Rk (fun k => w.heap.size ≤ k ∧ k < w4.heap.size) w6 b2 n L' := ⟨v9, hb9, hown9, by assumption, hv9⟩
          have hl9 : w6.cell? ⟨b2, 1, none⟩ = some v9 := cell_blk hb9 1
          have lb1 : w6.cell? ⟨wr.heap.size, 1, none⟩ = some (.int .i64 core) := cell_blk hB6 1
          go_wp2_with fail
          have hd6 : New w6 w6.drew := (Kept.refl _ _).drew
          have hnums : Calls Try.prog 16 #[v6, v9] w6.drew fun e w' => e = .returned (.bool true) ∧ New w6.drew w' := (nums_any v6 v9 _ _ L' L' w6.drew ((Src.of_own hown6).same hd6) ((Src.of_own hown9).same hd6) (by omega) (by omega)).mono (by rintro e w' ⟨rfl, h⟩; exact ⟨by simp, h⟩)
          have hg1 : decide (0 = 0) = true := rfl
          have hl9d : w6.drew.cell? ⟨b2, 1, none⟩ = some v9 := hl9
          have lb1d : w6.drew.cell? ⟨wr.heap.size, 1, none⟩ = some (.int .i64 core) := lb1
          go_region_held3 (fun W => W.cell? ⟨b2, 1, none⟩ = some v9 ∧ W.cell? ⟨wr.heap.size, 1, none⟩ = some (.int .i64 core)) (first | exact ⟨hl9d, lb1d⟩ | exact ⟨hl97, lb7⟩ | exact ⟨hl98, lb8⟩)
            (first
            | (go_at_call 16; refine hnums.mono ?_; rintro e w7 ⟨rfl, hk7⟩; have hk67 := hd6.trans hk7; have lb7 : w7.cell? ⟨wr.heap.size, 1, none⟩ = some (.int .i64 core) := cell_blk (hk67.heap hB6 (fun h => h)) 1; have hl97 : w7.cell? ⟨b2, 1, none⟩ = some v9 := cell_blk (hk67.heap hb9 (fun h => h)) 1; have hM7 := hM6.same hk67)
            | (go_at_call 14; refine (ahead1 _ _ _ _ core pp _ hM7 hpp).mono ?_; rintro e w8 ⟨rfl, hk8⟩; have hk68 := hk67.trans hk8; have lb8 : w8.cell? ⟨wr.heap.size, 1, none⟩ = some (.int .i64 core) := cell_blk (hk68.heap hB6 (fun h => h)) 1; have hl98 : w8.cell? ⟨b2, 1, none⟩ = some v9 := cell_blk (hk68.heap hb9 (fun h => h)) 1; have hR8 := hR6.same hk68)
            | (go_at_call 24; refine (rahead_any _ _ _ core _ hR8 (by omega) pp hpp).mono ?_; rintro e wy ⟨rfl, rfl⟩))
          have hM8 := hM6.same hk68
          obtain ⟨s0, hs0⟩ : ∃ s0 : Nat, s0 = w4.heap.size := ⟨_, rfl⟩
          rw [← hs0] at hown6 hR8 hszW
          have hS8 : New w w8 := hk6'.trans hk68
          obtain ⟨ao6, c6, rfl, _⟩ := Src.of_own hown6
          have HW : Hid (0 < L'.length → ∃ g6 cs, ao6 = some ⟨g6, 0, none⟩ ∧ s0 ≤ g6 ∧ w8.heap[g6]? = some (.cells cs 3 (0, 0)) ∧ ∀ r, r < L'.length → ∃ u : Int, cs[r]? = some (.int .i64 u)) := by
            intro hpos
            have hown8 := own_same hown6 hk68
            rcases hown8.2 with ⟨e1, e2⟩ | ⟨g6, cap6, cs6, e1, e2, e3, e4, e5, e6, e7⟩
            · omega
            · simp only [Value.slice.injEq] at e1
              refine ⟨g6, cs6, e1.1, e2, e3, fun r hr => ⟨L'.getD r 0, ?_⟩⟩
              have e8 : (cs6.toList.take (L'.length * 1))[r]? = (L'.map (Value.int .i64))[r]? := by rw [e7]
              rw [List.getElem?_take, if_pos (by omega)] at e8
              rw [← Array.getElem?_toList, e8]
              simp [List.getD, hr]
          clear hs0 hM6 hR6 hown6 hk6' hb9 hown9 hv9 hl9 lb1 hd6 hnums hB6 hk67 hM7 hk68 hl9d lb1d lb7 hl97 lb8 hl98 hpp hk7 hk8
          go_wp2_with fail
          go_loopw [23] (fun s wi => ∃ q : Nat, q ≤ L'.length ∧ s = .int .i64 q ∧ LK w.heap.size wi b g n L' ∧ Rk (fun k => w.heap.size ≤ k ∧ k < s0) wi b2 n L' ∧ New w wi ∧
            Hid (0 < L'.length → ∃ g6 cs, ao6 = some ⟨g6, 0, none⟩ ∧ s0 ≤ g6 ∧ wi.heap[g6]? = some (.cells cs 3 (0, 0)) ∧ ∀ r, r < L'.length → ∃ u : Int, cs[r]? = some (.int .i64 u))) (fun s _ => L'.length - (intOf s).toNat)
          case atStart => exact ⟨0, by omega, rfl, hM8, hR8, hS8, HW⟩
          case round =>
            clear hM8 hR8 hS8 HW
            obtain ⟨q, hq, rfl, hMi, hRi, hki, HWi⟩ := hrel
            by_cases hql : q < L'.length
            · obtain ⟨g6, cs, rfl, hg6, hgc, hcs⟩ := HWi.out (by omega)
              obtain ⟨u, hu⟩ := hcs q hql
              have hcu : wr.cell? ⟨g6, q, none⟩ = some (.int .i64 u) := by rw [cell_blk hgc q]; exact hu
              have hfu := free_blk hgc q
              have hW6 : w.heap.size ≤ s0 := hszW
              have hks : Kept (fun i => i = g6) wr (wr.setCell ⟨g6, q, none⟩ (.int .i64 99)) := (Kept.refl (fun i => i = g6) wr).setCell (p := ⟨g6, q, none⟩) (.inr rfl) _
              have hM7 := hMi.kept3 hks (fun i hi => ⟨cs, 3, hi ▸ hgc, by decide, by decide, by decide⟩)
              have hR7 := hRi.kept hks (fun i hi hF => by omega)
              have hk7 : New w (wr.setCell ⟨g6, q, none⟩ (.int .i64 99)) := hki.new hks (fun i hi => by omega)
              have hgc7 := heap_setCell_same wr g6 q cs 3 (.int .i64 99) hgc
              have HW7 : Hid (0 < L'.length → ∃ g6' cs', some (⟨g6, 0, none⟩ : Addr) = some ⟨g6', 0, none⟩ ∧ s0 ≤ g6' ∧ (wr.setCell ⟨g6, q, none⟩ (.int .i64 99)).heap[g6']? = some (.cells cs' 3 (0, 0)) ∧ ∀ r, r < L'.length → ∃ u : Int, cs'[r]? = some (.int .i64 u)) := by
                intro _
                refine ⟨g6, _, rfl, hg6, hgc7, fun r hr => ?_⟩
                rw [Array.getElem?_setIfInBounds]
                obtain ⟨u', hu'⟩ := hcs r hr
                have hrs : r < cs.size := (Array.getElem?_eq_some_iff.1 hu').1
                by_cases hrq : q = r
                · subst hrq; exact ⟨99, by rw [if_pos rfl, if_pos hrs]⟩
                · exact ⟨u', by rw [if_neg hrq]; exact hu'⟩
              clear hMi hRi hki hks hgc7 hW6
              go_wp2_with fail
              go_roundw
              case rel => exact ⟨q + 1, by omega, by go_num, hM7, hR7, hk7, HW7⟩
              case measure => simp [intOf]; omega
            · go_wp2_with fail
              go_roundw
              case rel => exact ⟨j + 1, b, g, L', by omega, by omega, rfl, by go_num, hMi, hRi.mono (fun k hk => hk.1), hki⟩
              case measure => simp [intOf]; omega
        by_cases h1' : kind = 1
        · have hkind := h1'
          clear h1'
          subst hkind
          have hMa := hM.alloc (.cells #[.int .i64 1, .int .i64 core] 29)
          have hRa := hR.alloc (.cells #[.int .i64 1, .int .i64 core] 29)
          have hka := hk.alloc (.cells #[.int .i64 1, .int .i64 core] 29)
          have hBa : (wr.alloc (.cells #[.int .i64 1, .int .i64 core] 29)).heap[wr.heap.size]? = some (.cells #[.int .i64 1, .int .i64 core] 29 (0, 0)) := heap_alloc_new _ _
          have hlen := hM.len
          clear hM hR hk
          obtain ⟨x, r, he⟩ : ∃ x r, probeE n L core = (x, r) := ⟨_, _, rfl⟩
          go_wp2_with fail
          refine (probe1 _ _ _ _ core r x _ hMa he).mono ?_
          rintro e w3 ⟨rfl, rfl⟩
          have l1 : (wr.alloc (.cells #[.int .i64 1, .int .i64 core] 29)).cell? ⟨wr.heap.size, 1, none⟩ = some (.int .i64 core) := cell_blk hBa 1
          go_wp2_with fail
          refine (rprobe_any _ _ _ core r x _ hRa (by omega) he).mono ?_
          rintro e w3 ⟨rfl, rfl⟩
          clear he hlen l1
          have hlL := hMa.len
          obtain ⟨hh, is, hho⟩ : ∃ hh is, holderE L = (hh, is) := ⟨_, _, rfl⟩
          obtain ⟨pp, hpp⟩ : ∃ pp, pos core L = pp := ⟨_, rfl⟩
          go_wp2_with fail
          refine (holder1 _ _ _ _ hh is _ hMa hho).mono ?_
          rintro e wx ⟨rfl, rfl⟩
          go_wp2_with fail
          refine (rholder_any _ _ _ hh is _ hRa hho).mono ?_
          rintro e wx ⟨rfl, rfl⟩
          clear hho
          go_wp2_with fail
          refine (lock_line _ _ _ _ _ hMa).mono ?_
          rintro e w6 ⟨v6, rfl, hown6, hk6⟩
          have hM6 := hMa.same hk6
          have hR6 := hRa.sized.same hk6
          have hB6 := hk6.heap hBa (fun h => h)
          have hsz6 := hk6.size
          have hszW := hka.size
          have hk6' := hka.trans hk6
          clear hMa hRa hBa hka hk6
          obtain ⟨v9, hb9, hown9, _, hv9⟩ := hR6
          have hR6 : Rk (fun k => w.heap.size ≤ k ∧ k < (wr.alloc (.cells #[.int .i64 1, .int .i64 core] 29)).heap.size) w6 b2 n L := ⟨v9, hb9, hown9, by assumption, hv9⟩
          have hl9 : w6.cell? ⟨b2, 1, none⟩ = some v9 := cell_blk hb9 1
          have lb1 : w6.cell? ⟨wr.heap.size, 1, none⟩ = some (.int .i64 core) := cell_blk hB6 1
          go_wp2_with fail
          have hd6 : New w6 w6.drew := (Kept.refl _ _).drew
          have hnums : Calls Try.prog 16 #[v6, v9] w6.drew fun e w' => e = .returned (.bool true) ∧ New w6.drew w' := (nums_any v6 v9 _ _ L L w6.drew ((Src.of_own hown6).same hd6) ((Src.of_own hown9).same hd6) (by omega) (by omega)).mono (by rintro e w' ⟨rfl, h⟩; exact ⟨by simp, h⟩)
          have hg1 : decide (0 = 0) = true := rfl
          have hl9d : w6.drew.cell? ⟨b2, 1, none⟩ = some v9 := hl9
          have lb1d : w6.drew.cell? ⟨wr.heap.size, 1, none⟩ = some (.int .i64 core) := lb1
          go_region_held3 (fun W => W.cell? ⟨b2, 1, none⟩ = some v9 ∧ W.cell? ⟨wr.heap.size, 1, none⟩ = some (.int .i64 core)) (first | exact ⟨hl9d, lb1d⟩ | exact ⟨hl97, lb7⟩ | exact ⟨hl98, lb8⟩)
            (first
            | (go_at_call 16; refine hnums.mono ?_; rintro e w7 ⟨rfl, hk7⟩; have hk67 := hd6.trans hk7; have lb7 : w7.cell? ⟨wr.heap.size, 1, none⟩ = some (.int .i64 core) := cell_blk (hk67.heap hB6 (fun h => h)) 1; have hl97 : w7.cell? ⟨b2, 1, none⟩ = some v9 := cell_blk (hk67.heap hb9 (fun h => h)) 1; have hM7 := hM6.same hk67)
            | (go_at_call 14; refine (ahead1 _ _ _ _ core pp _ hM7 hpp).mono ?_; rintro e w8 ⟨rfl, hk8⟩; have hk68 := hk67.trans hk8; have lb8 : w8.cell? ⟨wr.heap.size, 1, none⟩ = some (.int .i64 core) := cell_blk (hk68.heap hB6 (fun h => h)) 1; have hl98 : w8.cell? ⟨b2, 1, none⟩ = some v9 := cell_blk (hk68.heap hb9 (fun h => h)) 1; have hR8 := hR6.same hk68)
            | (go_at_call 24; refine (rahead_any _ _ _ core _ hR8 (by omega) pp hpp).mono ?_; rintro e wy ⟨rfl, rfl⟩))
          have hM8 := hM6.same hk68
          obtain ⟨s0, hs0⟩ : ∃ s0 : Nat, s0 = (wr.alloc (.cells #[.int .i64 1, .int .i64 core] 29)).heap.size := ⟨_, rfl⟩
          rw [← hs0] at hown6 hR8 hszW
          have hS8 : New w w8 := hk6'.trans hk68
          obtain ⟨ao6, c6, rfl, _⟩ := Src.of_own hown6
          have HW : Hid (0 < L.length → ∃ g6 cs, ao6 = some ⟨g6, 0, none⟩ ∧ s0 ≤ g6 ∧ w8.heap[g6]? = some (.cells cs 3 (0, 0)) ∧ ∀ r, r < L.length → ∃ u : Int, cs[r]? = some (.int .i64 u)) := by
            intro hpos
            have hown8 := own_same hown6 hk68
            rcases hown8.2 with ⟨e1, e2⟩ | ⟨g6, cap6, cs6, e1, e2, e3, e4, e5, e6, e7⟩
            · omega
            · simp only [Value.slice.injEq] at e1
              refine ⟨g6, cs6, e1.1, e2, e3, fun r hr => ⟨L.getD r 0, ?_⟩⟩
              have e8 : (cs6.toList.take (L.length * 1))[r]? = (L.map (Value.int .i64))[r]? := by rw [e7]
              rw [List.getElem?_take, if_pos (by omega)] at e8
              rw [← Array.getElem?_toList, e8]
              simp [List.getD, hr]
          clear hs0 hM6 hR6 hown6 hk6' hb9 hown9 hv9 hl9 lb1 hd6 hnums hB6 hk67 hM7 hk68 hl9d lb1d lb7 hl97 lb8 hl98 hpp hk7 hk8
          go_wp2_with fail
          go_loopw [23] (fun s wi => ∃ q : Nat, q ≤ L.length ∧ s = .int .i64 q ∧ LK w.heap.size wi b g n L ∧ Rk (fun k => w.heap.size ≤ k ∧ k < s0) wi b2 n L ∧ New w wi ∧
            Hid (0 < L.length → ∃ g6 cs, ao6 = some ⟨g6, 0, none⟩ ∧ s0 ≤ g6 ∧ wi.heap[g6]? = some (.cells cs 3 (0, 0)) ∧ ∀ r, r < L.length → ∃ u : Int, cs[r]? = some (.int .i64 u))) (fun s _ => L.length - (intOf s).toNat)
          case atStart => exact ⟨0, by omega, rfl, hM8, hR8, hS8, HW⟩
          case round =>
            clear hM8 hR8 hS8 HW
            obtain ⟨q, hq, rfl, hMi, hRi, hki, HWi⟩ := hrel
            by_cases hql : q < L.length
            · obtain ⟨g6, cs, rfl, hg6, hgc, hcs⟩ := HWi.out (by omega)
              obtain ⟨u, hu⟩ := hcs q hql
              have hcu : wr.cell? ⟨g6, q, none⟩ = some (.int .i64 u) := by rw [cell_blk hgc q]; exact hu
              have hfu := free_blk hgc q
              have hW6 : w.heap.size ≤ s0 := hszW
              have hks : Kept (fun i => i = g6) wr (wr.setCell ⟨g6, q, none⟩ (.int .i64 99)) := (Kept.refl (fun i => i = g6) wr).setCell (p := ⟨g6, q, none⟩) (.inr rfl) _
              have hM7 := hMi.kept3 hks (fun i hi => ⟨cs, 3, hi ▸ hgc, by decide, by decide, by decide⟩)
              have hR7 := hRi.kept hks (fun i hi hF => by omega)
              have hk7 : New w (wr.setCell ⟨g6, q, none⟩ (.int .i64 99)) := hki.new hks (fun i hi => by omega)
              have hgc7 := heap_setCell_same wr g6 q cs 3 (.int .i64 99) hgc
              have HW7 : Hid (0 < L.length → ∃ g6' cs', some (⟨g6, 0, none⟩ : Addr) = some ⟨g6', 0, none⟩ ∧ s0 ≤ g6' ∧ (wr.setCell ⟨g6, q, none⟩ (.int .i64 99)).heap[g6']? = some (.cells cs' 3 (0, 0)) ∧ ∀ r, r < L.length → ∃ u : Int, cs'[r]? = some (.int .i64 u)) := by
                intro _
                refine ⟨g6, _, rfl, hg6, hgc7, fun r hr => ?_⟩
                rw [Array.getElem?_setIfInBounds]
                obtain ⟨u', hu'⟩ := hcs r hr
                have hrs : r < cs.size := (Array.getElem?_eq_some_iff.1 hu').1
                by_cases hrq : q = r
                · subst hrq; exact ⟨99, by rw [if_pos rfl, if_pos hrs]⟩
                · exact ⟨u', by rw [if_neg hrq]; exact hu'⟩
              clear hMi hRi hki hks hgc7 hW6
              go_wp2_with fail
              go_roundw
              case rel => exact ⟨q + 1, by omega, by go_num, hM7, hR7, hk7, HW7⟩
              case measure => simp [intOf]; omega
            · go_wp2_with fail
              go_roundw
              case rel => exact ⟨j + 1, b, g, L, by omega, by omega, rfl, by go_num, hMi, hRi.mono (fun k hk => hk.1), hki⟩
              case measure => simp [intOf]; omega
        by_cases h2' : kind = 2
        · have hkind := h2'
          clear h2'
          subst hkind
          have hMa := hM.alloc (.cells #[.int .i64 2, .int .i64 core] 29)
          have hRa := hR.alloc (.cells #[.int .i64 2, .int .i64 core] 29)
          have hka := hk.alloc (.cells #[.int .i64 2, .int .i64 core] 29)
          have hBa : (wr.alloc (.cells #[.int .i64 2, .int .i64 core] 29)).heap[wr.heap.size]? = some (.cells #[.int .i64 2, .int .i64 core] 29 (0, 0)) := heap_alloc_new _ _
          have hlen := hM.len
          clear hM hR hk
          obtain ⟨r, L', he⟩ : ∃ r L', leaveE n L core = (r, L') := ⟨_, _, rfl⟩
          go_wp2_with fail
          refine (leave1 _ _ _ _ L' core r _ hMa he).mono ?_
          rintro e w3 ⟨rfl, hM3, hk3⟩
          have hR3 := (hRa.typed.kept hk3 (fun i hi hF => hi.2.not_lt hF.2)).mono (O' := fun k => w.heap.size ≤ k) (fun _ h => h.1)
          have hB3 := hk3.heap hBa (fun h => not_lt hBa (by decide) (by decide) (by decide) h.2)
          have hk3' : New w w3 := hka.new hk3 (fun i hi => hi.1)
          have l1 : w3.cell? ⟨wr.heap.size, 1, none⟩ = some (.int .i64 core) := cell_blk hB3 1
          have hsz3 := hk3'.size
          clear hMa hRa hka hBa hk3
          go_wp2_with fail
          refine (rleave_any _ _ _ L' core r _ hR3 (by omega) he).mono ?_
          rintro e w4 ⟨rfl, hR4', hk4'⟩
          have hR4 := hR4'.mono (O' := fun k => w.heap.size ≤ k) (fun k hk => by omega)
          have hM4 := hM3.keptR hk4'
          have hB4 := hk4'.heap hB3 (fun h => by
            obtain ⟨_, c9, T9, e9, e8⟩ := h
            rw [hB3] at e9
            rcases e8 with rfl | rfl <;> simp at e9)
          have hk4 : New w w4 := hk3'.new hk4' (fun i hi => hi.1)
          clear hM3 hR3 hB3 hk3' l1 hR4' hk4' he hlen
          have hlL := hM4.len
          obtain ⟨hh, is, hho⟩ : ∃ hh is, holderE L' = (hh, is) := ⟨_, _, rfl⟩
          obtain ⟨pp, hpp⟩ : ∃ pp, pos core L' = pp := ⟨_, rfl⟩
          go_wp2_with fail
          refine (holder1 _ _ _ _ hh is _ hM4 hho).mono ?_
          rintro e wx ⟨rfl, rfl⟩
          go_wp2_with fail
          refine (rholder_any _ _ _ hh is _ hR4 hho).mono ?_
          rintro e wx ⟨rfl, rfl⟩
          clear hho
          go_wp2_with fail
          refine (lock_line _ _ _ _ _ hM4).mono ?_
          rintro e w6 ⟨v6, rfl, hown6, hk6⟩
          have hM6 := hM4.same hk6
          have hR6 := hR4.sized.same hk6
          have hB6 := hk6.heap hB4 (fun h => h)
          have hsz6 := hk6.size
          have hszW := hk4.size
          have hk6' := hk4.trans hk6
          clear hM4 hR4 hB4 hk4 hk6
          obtain ⟨v9, hb9, hown9, _, hv9⟩ := hR6
          have hR6 : Rk (fun k => w.heap.size ≤ k ∧ k < w4.heap.size) w6 b2 n L' := ⟨v9, hb9, hown9, by assumption, hv9⟩
          have hl9 : w6.cell? ⟨b2, 1, none⟩ = some v9 := cell_blk hb9 1
          have lb1 : w6.cell? ⟨wr.heap.size, 1, none⟩ = some (.int .i64 core) := cell_blk hB6 1
          go_wp2_with fail
          have hd6 : New w6 w6.drew := (Kept.refl _ _).drew
          have hnums : Calls Try.prog 16 #[v6, v9] w6.drew fun e w' => e = .returned (.bool true) ∧ New w6.drew w' := (nums_any v6 v9 _ _ L' L' w6.drew ((Src.of_own hown6).same hd6) ((Src.of_own hown9).same hd6) (by omega) (by omega)).mono (by rintro e w' ⟨rfl, h⟩; exact ⟨by simp, h⟩)
          have hg1 : decide (0 = 0) = true := rfl
          have hl9d : w6.drew.cell? ⟨b2, 1, none⟩ = some v9 := hl9
          have lb1d : w6.drew.cell? ⟨wr.heap.size, 1, none⟩ = some (.int .i64 core) := lb1
          go_region_held3 (fun W => W.cell? ⟨b2, 1, none⟩ = some v9 ∧ W.cell? ⟨wr.heap.size, 1, none⟩ = some (.int .i64 core)) (first | exact ⟨hl9d, lb1d⟩ | exact ⟨hl97, lb7⟩ | exact ⟨hl98, lb8⟩)
            (first
            | (go_at_call 16; refine hnums.mono ?_; rintro e w7 ⟨rfl, hk7⟩; have hk67 := hd6.trans hk7; have lb7 : w7.cell? ⟨wr.heap.size, 1, none⟩ = some (.int .i64 core) := cell_blk (hk67.heap hB6 (fun h => h)) 1; have hl97 : w7.cell? ⟨b2, 1, none⟩ = some v9 := cell_blk (hk67.heap hb9 (fun h => h)) 1; have hM7 := hM6.same hk67)
            | (go_at_call 14; refine (ahead1 _ _ _ _ core pp _ hM7 hpp).mono ?_; rintro e w8 ⟨rfl, hk8⟩; have hk68 := hk67.trans hk8; have lb8 : w8.cell? ⟨wr.heap.size, 1, none⟩ = some (.int .i64 core) := cell_blk (hk68.heap hB6 (fun h => h)) 1; have hl98 : w8.cell? ⟨b2, 1, none⟩ = some v9 := cell_blk (hk68.heap hb9 (fun h => h)) 1; have hR8 := hR6.same hk68)
            | (go_at_call 24; refine (rahead_any _ _ _ core _ hR8 (by omega) pp hpp).mono ?_; rintro e wy ⟨rfl, rfl⟩))
          have hM8 := hM6.same hk68
          obtain ⟨s0, hs0⟩ : ∃ s0 : Nat, s0 = w4.heap.size := ⟨_, rfl⟩
          rw [← hs0] at hown6 hR8 hszW
          have hS8 : New w w8 := hk6'.trans hk68
          obtain ⟨ao6, c6, rfl, _⟩ := Src.of_own hown6
          have HW : Hid (0 < L'.length → ∃ g6 cs, ao6 = some ⟨g6, 0, none⟩ ∧ s0 ≤ g6 ∧ w8.heap[g6]? = some (.cells cs 3 (0, 0)) ∧ ∀ r, r < L'.length → ∃ u : Int, cs[r]? = some (.int .i64 u)) := by
            intro hpos
            have hown8 := own_same hown6 hk68
            rcases hown8.2 with ⟨e1, e2⟩ | ⟨g6, cap6, cs6, e1, e2, e3, e4, e5, e6, e7⟩
            · omega
            · simp only [Value.slice.injEq] at e1
              refine ⟨g6, cs6, e1.1, e2, e3, fun r hr => ⟨L'.getD r 0, ?_⟩⟩
              have e8 : (cs6.toList.take (L'.length * 1))[r]? = (L'.map (Value.int .i64))[r]? := by rw [e7]
              rw [List.getElem?_take, if_pos (by omega)] at e8
              rw [← Array.getElem?_toList, e8]
              simp [List.getD, hr]
          clear hs0 hM6 hR6 hown6 hk6' hb9 hown9 hv9 hl9 lb1 hd6 hnums hB6 hk67 hM7 hk68 hl9d lb1d lb7 hl97 lb8 hl98 hpp hk7 hk8
          go_wp2_with fail
          go_loopw [23] (fun s wi => ∃ q : Nat, q ≤ L'.length ∧ s = .int .i64 q ∧ LK w.heap.size wi b g n L' ∧ Rk (fun k => w.heap.size ≤ k ∧ k < s0) wi b2 n L' ∧ New w wi ∧
            Hid (0 < L'.length → ∃ g6 cs, ao6 = some ⟨g6, 0, none⟩ ∧ s0 ≤ g6 ∧ wi.heap[g6]? = some (.cells cs 3 (0, 0)) ∧ ∀ r, r < L'.length → ∃ u : Int, cs[r]? = some (.int .i64 u))) (fun s _ => L'.length - (intOf s).toNat)
          case atStart => exact ⟨0, by omega, rfl, hM8, hR8, hS8, HW⟩
          case round =>
            clear hM8 hR8 hS8 HW
            obtain ⟨q, hq, rfl, hMi, hRi, hki, HWi⟩ := hrel
            by_cases hql : q < L'.length
            · obtain ⟨g6, cs, rfl, hg6, hgc, hcs⟩ := HWi.out (by omega)
              obtain ⟨u, hu⟩ := hcs q hql
              have hcu : wr.cell? ⟨g6, q, none⟩ = some (.int .i64 u) := by rw [cell_blk hgc q]; exact hu
              have hfu := free_blk hgc q
              have hW6 : w.heap.size ≤ s0 := hszW
              have hks : Kept (fun i => i = g6) wr (wr.setCell ⟨g6, q, none⟩ (.int .i64 99)) := (Kept.refl (fun i => i = g6) wr).setCell (p := ⟨g6, q, none⟩) (.inr rfl) _
              have hM7 := hMi.kept3 hks (fun i hi => ⟨cs, 3, hi ▸ hgc, by decide, by decide, by decide⟩)
              have hR7 := hRi.kept hks (fun i hi hF => by omega)
              have hk7 : New w (wr.setCell ⟨g6, q, none⟩ (.int .i64 99)) := hki.new hks (fun i hi => by omega)
              have hgc7 := heap_setCell_same wr g6 q cs 3 (.int .i64 99) hgc
              have HW7 : Hid (0 < L'.length → ∃ g6' cs', some (⟨g6, 0, none⟩ : Addr) = some ⟨g6', 0, none⟩ ∧ s0 ≤ g6' ∧ (wr.setCell ⟨g6, q, none⟩ (.int .i64 99)).heap[g6']? = some (.cells cs' 3 (0, 0)) ∧ ∀ r, r < L'.length → ∃ u : Int, cs'[r]? = some (.int .i64 u)) := by
                intro _
                refine ⟨g6, _, rfl, hg6, hgc7, fun r hr => ?_⟩
                rw [Array.getElem?_setIfInBounds]
                obtain ⟨u', hu'⟩ := hcs r hr
                have hrs : r < cs.size := (Array.getElem?_eq_some_iff.1 hu').1
                by_cases hrq : q = r
                · subst hrq; exact ⟨99, by rw [if_pos rfl, if_pos hrs]⟩
                · exact ⟨u', by rw [if_neg hrq]; exact hu'⟩
              clear hMi hRi hki hks hgc7 hW6
              go_wp2_with fail
              go_roundw
              case rel => exact ⟨q + 1, by omega, by go_num, hM7, hR7, hk7, HW7⟩
              case measure => simp [intOf]; omega
            · go_wp2_with fail
              go_roundw
              case rel => exact ⟨j + 1, b, g, L', by omega, by omega, rfl, by go_num, hMi, hRi.mono (fun k hk => hk.1), hki⟩
              case measure => simp [intOf]; omega
        by_cases h3' : kind = 3
        · have hkind := h3'
          clear h3'
          subst hkind
          have hMa := hM.alloc (.cells #[.int .i64 3, .int .i64 core] 29)
          have hRa := hR.alloc (.cells #[.int .i64 3, .int .i64 core] 29)
          have hka := hk.alloc (.cells #[.int .i64 3, .int .i64 core] 29)
          have hBa : (wr.alloc (.cells #[.int .i64 3, .int .i64 core] 29)).heap[wr.heap.size]? = some (.cells #[.int .i64 3, .int .i64 core] 29 (0, 0)) := heap_alloc_new _ _
          have hlen := hM.len
          clear hM hR hk
          obtain ⟨hh0, is0, he0⟩ : ∃ hh is, holderE L = (hh, is) := ⟨_, _, rfl⟩
          obtain ⟨r0, L0, he1⟩ : ∃ r L', leaveE n L hh0 = (r, L') := ⟨_, _, rfl⟩
          obtain ⟨r1, L1, he2⟩ : ∃ r L', enterE n L0 0 = (r, L') := ⟨_, _, rfl⟩
          go_wp2_with fail
          refine (lock_copy _ _ _ _ _ hMa hn1).mono ?_
          rintro e w3 ⟨b', g', rfl, hC3, hk3⟩
          have hM3 := hMa.sized.same hk3
          have hR3 := hRa.same hk3
          have hB3 := hk3.heap hBa (fun h => h)
          have hk3' : New w w3 := hka.trans hk3
          have hsa := hka.size
          have hs3 := hk3.size
          clear hMa hRa hka hBa hk3
          go_wp2_with fail
          refine (holder1 _ _ _ _ hh0 is0 _ hM3 he0).mono ?_
          rintro e wy ⟨rfl, rfl⟩
          go_wp2_with fail
          refine (leave2 _ _ _ L L0 hh0 r0 _ hM3 he1).mono ?_
          rintro e w4 ⟨rfl, hM4, hk4⟩
          have hC4 := hC3.apart hk4 (fun i hi hj => by omega)
          have hR4 := hR3.keptL hk4
          have hB4 := hk4.heap hB3 (Fr.not3 hB3 (by decide) (by decide) (by decide))
          have hk4' : New w w4 := hk3'.new hk4 (fun i hi => hi.1.1)
          have hs4 := hk4.size
          clear hM3 hC3 hR3 hB3 hk3' hk4 he0 he1
          go_wp2_with fail
          refine (enter2 _ _ _ L0 L1 0 r1 _ hM4 he2).mono ?_
          rintro e w5 ⟨rfl, _, hk5'⟩
          have hC5 := (hC4.apart hk5' (fun i hi hj => by omega)).mono (O' := fun k => w.heap.size ≤ k) (fun k hk => by omega)
          have hR5 := hR4.keptL hk5'
          have hB5 := hk5'.heap hB4 (Fr.not3 hB4 (by decide) (by decide) (by decide))
          have hk5 : New w w5 := hk4'.new hk5' (fun i hi => hi.1.1)
          clear hM4 hC4 hR4 hB4 hk4' hk5' he2 hlen
          have hlL := hC5.len
          obtain ⟨hh, is, hho⟩ : ∃ hh is, holderE L = (hh, is) := ⟨_, _, rfl⟩
          obtain ⟨pp, hpp⟩ : ∃ pp, pos core L = pp := ⟨_, rfl⟩
          go_wp2_with fail
          refine (holder1 _ _ _ _ hh is _ hC5 hho).mono ?_
          rintro e wx ⟨rfl, rfl⟩
          go_wp2_with fail
          refine (rholder_any _ _ _ hh is _ hR5 hho).mono ?_
          rintro e wx ⟨rfl, rfl⟩
          clear hho
          go_wp2_with fail
          refine (lock_line _ _ _ _ _ hC5).mono ?_
          rintro e w6 ⟨v6, rfl, hown6, hk6⟩
          have hM6 := hC5.same hk6
          have hR6 := hR5.sized.same hk6
          have hB6 := hk6.heap hB5 (fun h => h)
          have hsz6 := hk6.size
          have hszW := hk5.size
          have hk6' := hk5.trans hk6
          clear hC5 hR5 hB5 hk5 hk6
          obtain ⟨v9, hb9, hown9, _, hv9⟩ := hR6
          have hR6 : Rk (fun k => w.heap.size ≤ k ∧ k < w5.heap.size) w6 b2 n L := ⟨v9, hb9, hown9, by assumption, hv9⟩
          have hl9 : w6.cell? ⟨b2, 1, none⟩ = some v9 := cell_blk hb9 1
          have lb1 : w6.cell? ⟨wr.heap.size, 1, none⟩ = some (.int .i64 core) := cell_blk hB6 1
          go_wp2_with fail
          have hd6 : New w6 w6.drew := (Kept.refl _ _).drew
          have hnums : Calls Try.prog 16 #[v6, v9] w6.drew fun e w' => e = .returned (.bool true) ∧ New w6.drew w' := (nums_any v6 v9 _ _ L L w6.drew ((Src.of_own hown6).same hd6) ((Src.of_own hown9).same hd6) (by omega) (by omega)).mono (by rintro e w' ⟨rfl, h⟩; exact ⟨by simp, h⟩)
          have hg1 : decide (0 = 0) = true := rfl
          have hl9d : w6.drew.cell? ⟨b2, 1, none⟩ = some v9 := hl9
          have lb1d : w6.drew.cell? ⟨wr.heap.size, 1, none⟩ = some (.int .i64 core) := lb1
          go_region_held3 (fun W => W.cell? ⟨b2, 1, none⟩ = some v9 ∧ W.cell? ⟨wr.heap.size, 1, none⟩ = some (.int .i64 core)) (first | exact ⟨hl9d, lb1d⟩ | exact ⟨hl97, lb7⟩ | exact ⟨hl98, lb8⟩)
            (first
            | (go_at_call 16; refine hnums.mono ?_; rintro e w7 ⟨rfl, hk7⟩; have hk67 := hd6.trans hk7; have lb7 : w7.cell? ⟨wr.heap.size, 1, none⟩ = some (.int .i64 core) := cell_blk (hk67.heap hB6 (fun h => h)) 1; have hl97 : w7.cell? ⟨b2, 1, none⟩ = some v9 := cell_blk (hk67.heap hb9 (fun h => h)) 1; have hM7 := hM6.same hk67)
            | (go_at_call 14; refine (ahead1 _ _ _ _ core pp _ hM7 hpp).mono ?_; rintro e w8 ⟨rfl, hk8⟩; have hk68 := hk67.trans hk8; have lb8 : w8.cell? ⟨wr.heap.size, 1, none⟩ = some (.int .i64 core) := cell_blk (hk68.heap hB6 (fun h => h)) 1; have hl98 : w8.cell? ⟨b2, 1, none⟩ = some v9 := cell_blk (hk68.heap hb9 (fun h => h)) 1; have hR8 := hR6.same hk68)
            | (go_at_call 24; refine (rahead_any _ _ _ core _ hR8 (by omega) pp hpp).mono ?_; rintro e wy ⟨rfl, rfl⟩))
          have hM8 := hM6.same hk68
          obtain ⟨s0, hs0⟩ : ∃ s0 : Nat, s0 = w5.heap.size := ⟨_, rfl⟩
          rw [← hs0] at hown6 hR8 hszW
          have hS8 : New w w8 := hk6'.trans hk68
          obtain ⟨ao6, c6, rfl, _⟩ := Src.of_own hown6
          have HW : Hid (0 < L.length → ∃ g6 cs, ao6 = some ⟨g6, 0, none⟩ ∧ s0 ≤ g6 ∧ w8.heap[g6]? = some (.cells cs 3 (0, 0)) ∧ ∀ r, r < L.length → ∃ u : Int, cs[r]? = some (.int .i64 u)) := by
            intro hpos
            have hown8 := own_same hown6 hk68
            rcases hown8.2 with ⟨e1, e2⟩ | ⟨g6, cap6, cs6, e1, e2, e3, e4, e5, e6, e7⟩
            · omega
            · simp only [Value.slice.injEq] at e1
              refine ⟨g6, cs6, e1.1, e2, e3, fun r hr => ⟨L.getD r 0, ?_⟩⟩
              have e8 : (cs6.toList.take (L.length * 1))[r]? = (L.map (Value.int .i64))[r]? := by rw [e7]
              rw [List.getElem?_take, if_pos (by omega)] at e8
              rw [← Array.getElem?_toList, e8]
              simp [List.getD, hr]
          clear hs0 hM6 hR6 hown6 hk6' hb9 hown9 hv9 hl9 lb1 hd6 hnums hB6 hk67 hM7 hk68 hl9d lb1d lb7 hl97 lb8 hl98 hpp hk7 hk8
          go_wp2_with fail
          go_loopw [23] (fun s wi => ∃ q : Nat, q ≤ L.length ∧ s = .int .i64 q ∧ LK w.heap.size wi b' g' n L ∧ Rk (fun k => w.heap.size ≤ k ∧ k < s0) wi b2 n L ∧ New w wi ∧
            Hid (0 < L.length → ∃ g6 cs, ao6 = some ⟨g6, 0, none⟩ ∧ s0 ≤ g6 ∧ wi.heap[g6]? = some (.cells cs 3 (0, 0)) ∧ ∀ r, r < L.length → ∃ u : Int, cs[r]? = some (.int .i64 u))) (fun s _ => L.length - (intOf s).toNat)
          case atStart => exact ⟨0, by omega, rfl, hM8, hR8, hS8, HW⟩
          case round =>
            clear hM8 hR8 hS8 HW
            obtain ⟨q, hq, rfl, hMi, hRi, hki, HWi⟩ := hrel
            by_cases hql : q < L.length
            · obtain ⟨g6, cs, rfl, hg6, hgc, hcs⟩ := HWi.out (by omega)
              obtain ⟨u, hu⟩ := hcs q hql
              have hcu : wr.cell? ⟨g6, q, none⟩ = some (.int .i64 u) := by rw [cell_blk hgc q]; exact hu
              have hfu := free_blk hgc q
              have hW6 : w.heap.size ≤ s0 := hszW
              have hks : Kept (fun i => i = g6) wr (wr.setCell ⟨g6, q, none⟩ (.int .i64 99)) := (Kept.refl (fun i => i = g6) wr).setCell (p := ⟨g6, q, none⟩) (.inr rfl) _
              have hM7 := hMi.kept3 hks (fun i hi => ⟨cs, 3, hi ▸ hgc, by decide, by decide, by decide⟩)
              have hR7 := hRi.kept hks (fun i hi hF => by omega)
              have hk7 : New w (wr.setCell ⟨g6, q, none⟩ (.int .i64 99)) := hki.new hks (fun i hi => by omega)
              have hgc7 := heap_setCell_same wr g6 q cs 3 (.int .i64 99) hgc
              have HW7 : Hid (0 < L.length → ∃ g6' cs', some (⟨g6, 0, none⟩ : Addr) = some ⟨g6', 0, none⟩ ∧ s0 ≤ g6' ∧ (wr.setCell ⟨g6, q, none⟩ (.int .i64 99)).heap[g6']? = some (.cells cs' 3 (0, 0)) ∧ ∀ r, r < L.length → ∃ u : Int, cs'[r]? = some (.int .i64 u)) := by
                intro _
                refine ⟨g6, _, rfl, hg6, hgc7, fun r hr => ?_⟩
                rw [Array.getElem?_setIfInBounds]
                obtain ⟨u', hu'⟩ := hcs r hr
                have hrs : r < cs.size := (Array.getElem?_eq_some_iff.1 hu').1
                by_cases hrq : q = r
                · subst hrq; exact ⟨99, by rw [if_pos rfl, if_pos hrs]⟩
                · exact ⟨u', by rw [if_neg hrq]; exact hu'⟩
              clear hMi hRi hki hks hgc7 hW6
              go_wp2_with fail
              go_roundw
              case rel => exact ⟨q + 1, by omega, by go_num, hM7, hR7, hk7, HW7⟩
              case measure => simp [intOf]; omega
            · go_wp2_with fail
              go_roundw
              case rel => exact ⟨j + 1, b', g', L, by omega, by omega, rfl, by go_num, hMi, hRi.mono (fun k hk => hk.1), hki⟩
              case measure => simp [intOf]; omega
        have k0 : (kind == 0) = false := by simpa using h0
        have k1 : (kind == 1) = false := by simpa using h1'
        have k2 : (kind == 2) = false := by simpa using h2'
        have k3 : (kind == 3) = false := by simpa using h3'
        have hMa := hM.alloc (.cells #[.int .i64 kind, .int .i64 core] 29)
        have hRa := hR.alloc (.cells #[.int .i64 kind, .int .i64 core] 29)
        have hka := hk.alloc (.cells #[.int .i64 kind, .int .i64 core] 29)
        have hBa : (wr.alloc (.cells #[.int .i64 kind, .int .i64 core] 29)).heap[wr.heap.size]? = some (.cells #[.int .i64 kind, .int .i64 core] 29 (0, 0)) := heap_alloc_new _ _
        clear hM hR hk
        have hlL := hMa.len
        obtain ⟨hh, is, hho⟩ : ∃ hh is, holderE L = (hh, is) := ⟨_, _, rfl⟩
        obtain ⟨pp, hpp⟩ : ∃ pp, pos core L = pp := ⟨_, rfl⟩
        go_wp2_with fail
        refine (holder1 _ _ _ _ hh is _ hMa hho).mono ?_
        rintro e wx ⟨rfl, rfl⟩
        go_wp2_with fail
        refine (rholder_any _ _ _ hh is _ hRa hho).mono ?_
        rintro e wx ⟨rfl, rfl⟩
        clear hho
        go_wp2_with fail
        refine (lock_line _ _ _ _ _ hMa).mono ?_
        rintro e w6 ⟨v6, rfl, hown6, hk6⟩
        have hM6 := hMa.same hk6
        have hR6 := hRa.sized.same hk6
        have hB6 := hk6.heap hBa (fun h => h)
        have hsz6 := hk6.size
        have hszW := hka.size
        have hk6' := hka.trans hk6
        clear hMa hRa hBa hka hk6
        obtain ⟨v9, hb9, hown9, _, hv9⟩ := hR6
        have hR6 : Rk (fun k => w.heap.size ≤ k ∧ k < (wr.alloc (.cells #[.int .i64 kind, .int .i64 core] 29)).heap.size) w6 b2 n L := ⟨v9, hb9, hown9, by assumption, hv9⟩
        have hl9 : w6.cell? ⟨b2, 1, none⟩ = some v9 := cell_blk hb9 1
        have lb1 : w6.cell? ⟨wr.heap.size, 1, none⟩ = some (.int .i64 core) := cell_blk hB6 1
        go_wp2_with fail
        have hd6 : New w6 w6.drew := (Kept.refl _ _).drew
        have hnums : Calls Try.prog 16 #[v6, v9] w6.drew fun e w' => e = .returned (.bool true) ∧ New w6.drew w' := (nums_any v6 v9 _ _ L L w6.drew ((Src.of_own hown6).same hd6) ((Src.of_own hown9).same hd6) (by omega) (by omega)).mono (by rintro e w' ⟨rfl, h⟩; exact ⟨by simp, h⟩)
        have hg1 : decide (0 = 0) = true := rfl
        have hl9d : w6.drew.cell? ⟨b2, 1, none⟩ = some v9 := hl9
        have lb1d : w6.drew.cell? ⟨wr.heap.size, 1, none⟩ = some (.int .i64 core) := lb1
        go_region_held3 (fun W => W.cell? ⟨b2, 1, none⟩ = some v9 ∧ W.cell? ⟨wr.heap.size, 1, none⟩ = some (.int .i64 core)) (first | exact ⟨hl9d, lb1d⟩ | exact ⟨hl97, lb7⟩ | exact ⟨hl98, lb8⟩)
          (first
          | (go_at_call 16; refine hnums.mono ?_; rintro e w7 ⟨rfl, hk7⟩; have hk67 := hd6.trans hk7; have lb7 : w7.cell? ⟨wr.heap.size, 1, none⟩ = some (.int .i64 core) := cell_blk (hk67.heap hB6 (fun h => h)) 1; have hl97 : w7.cell? ⟨b2, 1, none⟩ = some v9 := cell_blk (hk67.heap hb9 (fun h => h)) 1; have hM7 := hM6.same hk67)
          | (go_at_call 14; refine (ahead1 _ _ _ _ core pp _ hM7 hpp).mono ?_; rintro e w8 ⟨rfl, hk8⟩; have hk68 := hk67.trans hk8; have lb8 : w8.cell? ⟨wr.heap.size, 1, none⟩ = some (.int .i64 core) := cell_blk (hk68.heap hB6 (fun h => h)) 1; have hl98 : w8.cell? ⟨b2, 1, none⟩ = some v9 := cell_blk (hk68.heap hb9 (fun h => h)) 1; have hR8 := hR6.same hk68)
          | (go_at_call 24; refine (rahead_any _ _ _ core _ hR8 (by omega) pp hpp).mono ?_; rintro e wy ⟨rfl, rfl⟩))
        have hM8 := hM6.same hk68
        obtain ⟨s0, hs0⟩ : ∃ s0 : Nat, s0 = (wr.alloc (.cells #[.int .i64 kind, .int .i64 core] 29)).heap.size := ⟨_, rfl⟩
        rw [← hs0] at hown6 hR8 hszW
        have hS8 : New w w8 := hk6'.trans hk68
        obtain ⟨ao6, c6, rfl, _⟩ := Src.of_own hown6
        have HW : Hid (0 < L.length → ∃ g6 cs, ao6 = some ⟨g6, 0, none⟩ ∧ s0 ≤ g6 ∧ w8.heap[g6]? = some (.cells cs 3 (0, 0)) ∧ ∀ r, r < L.length → ∃ u : Int, cs[r]? = some (.int .i64 u)) := by
          intro hpos
          have hown8 := own_same hown6 hk68
          rcases hown8.2 with ⟨e1, e2⟩ | ⟨g6, cap6, cs6, e1, e2, e3, e4, e5, e6, e7⟩
          · omega
          · simp only [Value.slice.injEq] at e1
            refine ⟨g6, cs6, e1.1, e2, e3, fun r hr => ⟨L.getD r 0, ?_⟩⟩
            have e8 : (cs6.toList.take (L.length * 1))[r]? = (L.map (Value.int .i64))[r]? := by rw [e7]
            rw [List.getElem?_take, if_pos (by omega)] at e8
            rw [← Array.getElem?_toList, e8]
            simp [List.getD, hr]
        clear hs0 hM6 hR6 hown6 hk6' hb9 hown9 hv9 hl9 lb1 hd6 hnums hB6 hk67 hM7 hk68 hl9d lb1d lb7 hl97 lb8 hl98 hpp hk7 hk8
        go_wp2_with fail
        go_loopw [23] (fun s wi => ∃ q : Nat, q ≤ L.length ∧ s = .int .i64 q ∧ LK w.heap.size wi b g n L ∧ Rk (fun k => w.heap.size ≤ k ∧ k < s0) wi b2 n L ∧ New w wi ∧
          Hid (0 < L.length → ∃ g6 cs, ao6 = some ⟨g6, 0, none⟩ ∧ s0 ≤ g6 ∧ wi.heap[g6]? = some (.cells cs 3 (0, 0)) ∧ ∀ r, r < L.length → ∃ u : Int, cs[r]? = some (.int .i64 u))) (fun s _ => L.length - (intOf s).toNat)
        case atStart => exact ⟨0, by omega, rfl, hM8, hR8, hS8, HW⟩
        case round =>
          clear hM8 hR8 hS8 HW
          obtain ⟨q, hq, rfl, hMi, hRi, hki, HWi⟩ := hrel
          by_cases hql : q < L.length
          · obtain ⟨g6, cs, rfl, hg6, hgc, hcs⟩ := HWi.out (by omega)
            obtain ⟨u, hu⟩ := hcs q hql
            have hcu : wr.cell? ⟨g6, q, none⟩ = some (.int .i64 u) := by rw [cell_blk hgc q]; exact hu
            have hfu := free_blk hgc q
            have hW6 : w.heap.size ≤ s0 := hszW
            have hks : Kept (fun i => i = g6) wr (wr.setCell ⟨g6, q, none⟩ (.int .i64 99)) := (Kept.refl (fun i => i = g6) wr).setCell (p := ⟨g6, q, none⟩) (.inr rfl) _
            have hM7 := hMi.kept3 hks (fun i hi => ⟨cs, 3, hi ▸ hgc, by decide, by decide, by decide⟩)
            have hR7 := hRi.kept hks (fun i hi hF => by omega)
            have hk7 : New w (wr.setCell ⟨g6, q, none⟩ (.int .i64 99)) := hki.new hks (fun i hi => by omega)
            have hgc7 := heap_setCell_same wr g6 q cs 3 (.int .i64 99) hgc
            have HW7 : Hid (0 < L.length → ∃ g6' cs', some (⟨g6, 0, none⟩ : Addr) = some ⟨g6', 0, none⟩ ∧ s0 ≤ g6' ∧ (wr.setCell ⟨g6, q, none⟩ (.int .i64 99)).heap[g6']? = some (.cells cs' 3 (0, 0)) ∧ ∀ r, r < L.length → ∃ u : Int, cs'[r]? = some (.int .i64 u)) := by
              intro _
              refine ⟨g6, _, rfl, hg6, hgc7, fun r hr => ?_⟩
              rw [Array.getElem?_setIfInBounds]
              obtain ⟨u', hu'⟩ := hcs r hr
              have hrs : r < cs.size := (Array.getElem?_eq_some_iff.1 hu').1
              by_cases hrq : q = r
              · subst hrq; exact ⟨99, by rw [if_pos rfl, if_pos hrs]⟩
              · exact ⟨u', by rw [if_neg hrq]; exact hu'⟩
            clear hMi hRi hki hks hgc7 hW6
            go_wp2_with fail
            go_roundw
            case rel => exact ⟨q + 1, by omega, by go_num, hM7, hR7, hk7, HW7⟩
            case measure => simp [intOf]; omega
          · go_wp2_with fail
            go_roundw
            case rel => exact ⟨j + 1, b, g, L, by omega, by omega, rfl, by go_num, hMi, hRi.mono (fun k hk => hk.1), hki⟩
            case measure => simp [intOf]; omega
      · have h2z : ¬ ((j : Int) < 100) := by omega
        go_wp2_with fail
        refine (fixed_any _).mono ?_
        rintro e wf ⟨rfl, hkf⟩
        go_wp2
        go_ret
        exact ⟨rfl, none_below (hk.trans hkf)⟩
    · go_wp2_with fail
      refine (fixed_any _).mono ?_
      rintro e wf ⟨rfl, hkf⟩
      go_wp2
      go_ret
      exact ⟨rfl, none_below (hk.trans hkf)⟩
end Go.Proofs.Ytbnjfkfmkbijnaa

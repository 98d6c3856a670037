/- The walk of the law MailboxFlow. -/
import Derived.Test.YtfdnmgebpfopjaaBoxF
set_option linter.all false
namespace Go.Proofs.Ytfdnmgebpfopjaa
open Go.RowKit

/-- What core 0 sent. -/
def flow (n : Nat) : List Ml := (List.range n).map (fun j : Nat => ⟨0, (j : Int), 7⟩)
theorem flow_len (n : Nat) : (flow n).length = n := by simp [flow]
theorem flow_snoc (n : Nat) : flow (n + 1) = flow n ++ [⟨0, (n : Int), 7⟩] := by simp [flow, List.range_succ]
def ofZ (L : List Ml) : List Ml := L.filter (fun m => m.fr == 0)
theorem three_send (i : Nat) (hi : i < 2) (L : List Ml) (kd ab : Int) (h : L.length < 64) : sendE [[], [], L] i 2 kd ab = (0, [[], [], L ++ [⟨i, kd, ab⟩]]) := by
  unfold sendE
  rw [if_neg (by
    have e1 : inR [[], [], L] (i : Int) = true := by simp [inR]; omega
    have e2 : inR [[], [], L] 2 = true := by simp [inR]
    rw [e1, e2]; simp), if_neg (by omega)]
  unfold sendB
  have e3 : [(2 : Int).toNat].any (fullB [[], [], L]) = false := by
    show (fullB [[], [], L] 2 || false) = false
    have : fullB [[], [], L] 2 = false := by
      show decide (64 ≤ L.length) = false
      simp; omega
    rw [this]; rfl
  rw [if_neg (by rw [e3]; decide)]
  rfl
theorem three_take (x : Ml) (l : List Ml) : takeE [[], [], x :: l] 2 = ((x, true), [[], [], l]) := takeE_at (X := [[], [], x :: l]) (j := 2) rfl
theorem three_none : takeE [[], [], []] 2 = ((⟨0, 0, 0⟩, false), [[], [], []]) := by decide
theorem three_len (L : List Ml) : ([[], [], L] : List (List Ml)).length ≤ 8 := by show 3 ≤ 8; decide
theorem three_size {L : List Ml} {q : Nat} (h : L.length ≤ q) : ∀ M ∈ [[], [], L], M.length ≤ q := by
  intro M hM
  simp only [List.mem_cons, List.not_mem_nil, or_false] at hM
  rcases hM with rfl | rfl | rfl
  · simp
  · simp
  · exact h
theorem flow_drop {n t : Nat} {x : Ml} {l : List Ml} (h : x :: l = (flow n).drop t) : x = ⟨0, (t : Int), 7⟩ ∧ l = (flow n).drop (t + 1) ∧ t < n := by
  have ht : t < n := by
    have := congrArg List.length h
    rw [List.length_drop, flow_len] at this
    simp only [List.length_cons] at this
    omega
  rw [List.drop_eq_getElem_cons (by rw [flow_len]; exact ht)] at h
  simp only [List.cons.injEq] at h
  refine ⟨?_, h.2, ht⟩
  rw [h.1]
  simp [flow]

set_option maxRecDepth 100000 in
set_option maxHeartbeats 8000000 in
theorem walkMailboxFlow (w : World) (v : Value) (rows : List (List Value)) (hs : Src w v rows.length 5 rows.flatten) (hr : ∀ x ∈ rows, FlatOk [.int .i64, .int .i64, .int .i64, .int .i64, .int .i64] x) (hm : rows.length ≤ maxLen) :
    Calls Try.prog 6 #[v] w fun e w' => e = .returned (.bool true) ∧ Below w.heap.size w w' := by
  obtain ⟨L, hfl, hll⟩ := mos_of_rows hr
  rw [hfl] at hs
  obtain ⟨len, hlen⟩ : ∃ len, len = rows.length := ⟨_, rfl⟩
  rw [← hlen] at hs hm hll
  clear hr hfl hlen
  have Hs := Lib.hid hs
  obtain ⟨-, ao, c, rfl, hcells⟩ := Src.mos hs
  have Hll := Lib.hid hll
  have hlenm : len ≤ 9223372036854775807 := by have : maxLen = 9223372036854775807 := rfl; omega
  have hnew : Calls Try.prog 8 #[.int .i64 3] w _ := new_any 3 w (by decide) (by decide)
  have Hnew := Lib.hid hnew
  clear hs hll hcells hm hnew
  go_enter Try.func6, Try.ntmps6
  go_wp2_with fail
  refine Hnew.out.mono ?_
  rintro e w1 ⟨b, rfl, -, hB0, hk⟩
  clear Hnew
  go_wp2_with fail
  go_loopw [5, 6] (fun p i wr => ∃ (k n : Nat) (M : List Ml), k ≤ 40 ∧ k ≤ len ∧ i = .int .i64 k ∧ p = .int .i64 n ∧ n ≤ k ∧ M.length = k ∧ Hid (ofZ M = flow n) ∧ New w wr ∧ Bs (fun k => w.heap.size ≤ k) wr b [[], [], M]) (fun _ i _ => 40 - (intOf i).toNat)
  case atStart => exact ⟨0, 0, [], by omega, by omega, rfl, rfl, by omega, rfl, rfl, hk, hB0⟩
  case round =>
    clear hB0 hk
    obtain ⟨k, n, M, hk6, hk, rfl, rfl, hnk, hMk, HF, hkr, hB⟩ := hrel
    have HMk := Lib.hid hMk
    have hM64 : M.length < 64 := by omega
    clear hMk
    by_cases h1 : k < len ∧ k < 40
    · obtain ⟨h1, h2⟩ := h1
      have h2' : (k : Int) < 40 := by omega
      obtain ⟨z, hz⟩ : ∃ z, L[k]? = some z := ⟨_, List.getElem?_eq_getElem (by have := Hll.out; omega)⟩
      obtain ⟨ao', c', he, hcl⟩ := (Src.mos (Hs.out.same hkr)).2
      cases he
      obtain ⟨B, Of, rfl, c0, c1, c2, c3, c4⟩ := hcl k z hz
      obtain ⟨y, hy, y0, y1⟩ := and_small z.fr 1 (by decide)
      simp only [Int.reducePow, Int.reduceSub] at hy y1
      by_cases hyz : y = 0
      · subst hyz
        have hcall := Send_any b [[], [], M] [[], [], M ++ [⟨0, n, 7⟩]] 0 2 n 7 0 wr hB (three_len M) (three_size (by omega)) (three_send 0 (by decide) M n 7 hM64)
        have Hcall := Lib.hid hcall
        have hF' : ofZ (M ++ [⟨0, n, 7⟩]) = flow (n + 1) := by unfold ofZ; rw [List.filter_append, flow_snoc, ← HF.out]; rfl
        have HF' := Lib.hid hF'
        have hl' : (M ++ ([⟨0, (n : Int), 7⟩] : List Ml)).length = k + 1 := by rw [List.length_append, HMk.out]; rfl
        have Hl' := Lib.hid hl'
        clear hcall hF' hl' hcl hz hB
        go_wp2_with fail
        refine Hcall.out.mono ?_
        rintro e w3 ⟨rfl, hB3, hk3⟩
        have hB3' := Bs.mono (O' := fun k => w.heap.size ≤ k) hB3 (fun k h => h.elim id (fun h => Nat.le_trans hkr.size h))
        have hkr3 := hkr.new hk3 (fun i hi => hi)
        clear hB3 hk3 Hcall
        go_wp2_with fail
        go_roundw
        case rel => exact ⟨k + 1, n + 1, M ++ ([⟨0, (n : Int), 7⟩] : List Ml), by omega, by omega, by go_num, by go_num, by omega, Hl'.out, HF'.out, hkr3, hB3'⟩
        case measure => simp [intOf]; omega
      · obtain rfl : y = 1 := by omega
        have hcall := fun (W' : World) (hk' : New wr W') => Send_any b [[], [], M] [[], [], M ++ [⟨1, z.wh, 8⟩]] 1 2 z.wh 8 0 W' (hB.same hk') (three_len M) (three_size (by omega)) (three_send 1 (by decide) M z.wh 8 hM64)
        have Hcall := Lib.hid hcall
        have hF' : ofZ (M ++ [⟨1, z.wh, 8⟩]) = flow n := by unfold ofZ; rw [List.filter_append, ← HF.out]; simp [ofZ]
        have HF' := Lib.hid hF'
        have hl' : (M ++ ([⟨1, z.wh, 8⟩] : List Ml)).length = k + 1 := by rw [List.length_append, HMk.out]; rfl
        have Hl' := Lib.hid hl'
        clear hcall hF' hl' hcl hz hB
        go_wp2_with fail
        refine (Hcall.out _ (Kept.refl _ _)).mono ?_
        rintro e w3 ⟨rfl, hB3, hk3⟩
        have hB3' := Bs.mono (O' := fun k => w.heap.size ≤ k) hB3 (fun k h => h.elim id (fun h => Nat.le_trans hkr.size h))
        have hkr3 := hkr.new hk3 (fun i hi => hi)
        clear hB3 hk3 Hcall
        go_wp2_with fail
        go_roundw
        case rel => exact ⟨k + 1, n, M ++ ([⟨1, z.wh, 8⟩] : List Ml), by omega, by omega, by go_num, rfl, by omega, Hl'.out, HF'.out, hkr3, hB3'⟩
        case measure => simp [intOf]; omega
    · by_cases h3 : k < len
      · have h2' : ¬ ((k : Int) < 40) := by omega
        have hMl : M.length ≤ 40 := by have := HMk.out; omega
        have HMl := Lib.hid hMl
        clear hMl hM64 HMk
        go_wp2_with fail
        go_loopw [7, 8] (fun p i wr => ∃ (i' t : Nat) (M : List Ml), i' ≤ 40 ∧ i = .int .i64 i' ∧ p = .int .i64 t ∧ t ≤ n ∧ Hid (M.length + i' ≤ 40) ∧ Hid (ofZ M = (flow n).drop t) ∧ New w wr ∧ Bs (fun k => w.heap.size ≤ k) wr b [[], [], M]) (fun _ i _ => 40 - (intOf i).toNat)
        case atStart => exact ⟨0, 0, M, by omega, rfl, rfl, by omega, by have := HMl.out; show M.length + 0 ≤ 40; omega, HF.out, hkr, hB⟩
        case round =>
          clear hB hkr HF HMl
          obtain ⟨i, t, M, hi, rfl, rfl, htn, HL, HF, hkr, hB⟩ := hrel
          by_cases h5 : i < 40
          · have h5' : (i : Int) < 40 := by omega
            cases M with
            | nil =>
              have hcall := Take_any b [[], [], []] [[], [], []] 2 ⟨0, 0, 0⟩ false wr hB (by decide) (by decide) three_none
              have Hcall := Lib.hid hcall
              have htn2 : t = n := by
                have h9 := congrArg List.length HF.out
                rw [List.length_drop, flow_len] at h9
                have h8 : (ofZ ([] : List Ml)).length = 0 := rfl
                omega
              subst htn2
              clear hcall hB HF HL
              go_wp2_with fail
              refine Hcall.out.mono ?_
              rintro e w3 ⟨rfl, hB3, hk3⟩
              have hB3' := Bs.mono (O' := fun k => w.heap.size ≤ k) hB3 (fun k h => h.elim id (fun h => Nat.le_trans hkr.size h))
              have hkr3 := hkr.new hk3 (fun i hi => hi)
              have kA : New w3 (w3.alloc (blkM ⟨0, 0, 0⟩)) := (Kept.refl _ _).alloc _
              have hB4 := hB3'.same kA
              have hkr4 := hkr3.trans kA
              clear hB3 hk3 Hcall hB3' hkr3 kA
              have hcall := owed_any b [[], [], []] 0 0 _ hB4 (by decide) (by decide) rfl
              have Hcall := Lib.hid hcall
              clear hcall
              go_wp2_with fail
              refine Hcall.out.mono ?_
              rintro e w5 ⟨rfl, hk5⟩
              go_wp2_with fail
              refine (fixed_any _).mono ?_
              rintro e w11 ⟨rfl, hk11⟩
              go_wp2_with fail
              go_ret
              exact ⟨rfl, none_below ((hkr4.trans hk5).trans hk11)⟩
            | cons x l =>
              have hcall := Take_any b [[], [], x :: l] [[], [], l] 2 x true wr hB (three_len _) (three_size (by have := HL.out; omega)) (three_take x l)
              have Hcall := Lib.hid hcall
              have hL' : l.length + (i + 1) ≤ 40 := by have := HL.out; simp only [List.length_cons] at this; omega
              have HL' := Lib.hid hL'
              by_cases hx0 : x.fr = 0
              · have hof : ofZ (x :: l) = x :: ofZ l := by unfold ofZ; rw [List.filter_cons, if_pos (by simpa using hx0)]
                have h9 := HF.out
                rw [hof] at h9
                obtain ⟨rfl, h8, htl⟩ := flow_drop h9
                have HF' := Lib.hid h8
                clear hcall hL' hB hof h9 h8 HF HL hx0
                go_wp2_with fail
                refine Hcall.out.mono ?_
                rintro e w3 ⟨rfl, hB3, hk3⟩
                have hB3' := Bs.mono (O' := fun k => w.heap.size ≤ k) hB3 (fun k h => h.elim id (fun h => Nat.le_trans hkr.size h))
                have hkr3 := hkr.new hk3 (fun i hi => hi)
                have kA : New w3 (w3.alloc (blkM ⟨0, t, 7⟩)) := (Kept.refl _ _).alloc _
                have hB4 := hB3'.same kA
                have hkr4 := hkr3.trans kA
                obtain ⟨y0, y1, y2⟩ := of3 (heap_alloc_new w3 (blkM ⟨0, t, 7⟩))
                clear hB3 hk3 Hcall hB3' hkr3 kA
                go_wp2_with fail
                go_roundw
                case rel => exact ⟨i + 1, t + 1, l, by omega, by go_num, by go_num, by omega, HL'.out, HF'.out, hkr4, hB4⟩
                case measure => simp [intOf]; omega
              · have hof : ofZ (x :: l) = ofZ l := by unfold ofZ; rw [List.filter_cons, if_neg (by simpa using hx0)]
                have h9 := HF.out
                rw [hof] at h9
                have HF' := Lib.hid h9
                have hxb : (x.fr == 0) = false := by simpa using hx0
                clear hcall hL' hB hof h9 HF HL
                go_wp2_with fail
                refine Hcall.out.mono ?_
                rintro e w3 ⟨rfl, hB3, hk3⟩
                have hB3' := Bs.mono (O' := fun k => w.heap.size ≤ k) hB3 (fun k h => h.elim id (fun h => Nat.le_trans hkr.size h))
                have hkr3 := hkr.new hk3 (fun i hi => hi)
                have kA : New w3 (w3.alloc (blkM x)) := (Kept.refl _ _).alloc _
                have hB4 := hB3'.same kA
                have hkr4 := hkr3.trans kA
                obtain ⟨y0, y1, y2⟩ := of3 (heap_alloc_new w3 (blkM x))
                clear hB3 hk3 Hcall hB3' hkr3 kA
                go_wp2_with fail
                go_roundw
                case rel => exact ⟨i + 1, t, l, by omega, by go_num, rfl, by omega, HL'.out, HF'.out, hkr4, hB4⟩
                case measure => simp [intOf]; omega
          · have h5' : ¬ (i : Int) < 40 := by omega
            obtain rfl : M = [] := List.eq_nil_of_length_eq_zero (by have := HL.out; omega)
            have htn2 : t = n := by
              have h9 := congrArg List.length HF.out
              rw [List.length_drop, flow_len] at h9
              have h8 : (ofZ ([] : List Ml)).length = 0 := rfl
              omega
            subst htn2
            clear HF HL
            have hcall := owed_any b [[], [], []] 0 0 wr hB (by decide) (by decide) rfl
            have Hcall := Lib.hid hcall
            clear hcall
            go_wp2_with fail
            refine Hcall.out.mono ?_
            rintro e w5 ⟨rfl, hk5⟩
            go_wp2_with fail
            refine (fixed_any _).mono ?_
            rintro e w11 ⟨rfl, hk11⟩
            go_wp2_with fail
            go_ret
            exact ⟨rfl, none_below ((hkr.trans hk5).trans hk11)⟩
      · have h3' : ¬ ((k : Int) < len) := by omega
        have hMl : M.length ≤ 40 := by have := HMk.out; omega
        have HMl := Lib.hid hMl
        clear hMl hM64 HMk
        go_wp2_with fail
        go_loopw [7, 8] (fun p i wr => ∃ (i' t : Nat) (M : List Ml), i' ≤ 40 ∧ i = .int .i64 i' ∧ p = .int .i64 t ∧ t ≤ n ∧ Hid (M.length + i' ≤ 40) ∧ Hid (ofZ M = (flow n).drop t) ∧ New w wr ∧ Bs (fun k => w.heap.size ≤ k) wr b [[], [], M]) (fun _ i _ => 40 - (intOf i).toNat)
        case atStart => exact ⟨0, 0, M, by omega, rfl, rfl, by omega, by have := HMl.out; show M.length + 0 ≤ 40; omega, HF.out, hkr, hB⟩
        case round =>
          clear hB hkr HF HMl
          obtain ⟨i, t, M, hi, rfl, rfl, htn, HL, HF, hkr, hB⟩ := hrel
          by_cases h5 : i < 40
          · have h5' : (i : Int) < 40 := by omega
            cases M with
            | nil =>
              have hcall := Take_any b [[], [], []] [[], [], []] 2 ⟨0, 0, 0⟩ false wr hB (by decide) (by decide) three_none
              have Hcall := Lib.hid hcall
              have htn2 : t = n := by
                have h9 := congrArg List.length HF.out
                rw [List.length_drop, flow_len] at h9
                have h8 : (ofZ ([] : List Ml)).length = 0 := rfl
                omega
              subst htn2
              clear hcall hB HF HL
              go_wp2_with fail
              refine Hcall.out.mono ?_
              rintro e w3 ⟨rfl, hB3, hk3⟩
              have hB3' := Bs.mono (O' := fun k => w.heap.size ≤ k) hB3 (fun k h => h.elim id (fun h => Nat.le_trans hkr.size h))
              have hkr3 := hkr.new hk3 (fun i hi => hi)
              have kA : New w3 (w3.alloc (blkM ⟨0, 0, 0⟩)) := (Kept.refl _ _).alloc _
              have hB4 := hB3'.same kA
              have hkr4 := hkr3.trans kA
              clear hB3 hk3 Hcall hB3' hkr3 kA
              have hcall := owed_any b [[], [], []] 0 0 _ hB4 (by decide) (by decide) rfl
              have Hcall := Lib.hid hcall
              clear hcall
              go_wp2_with fail
              refine Hcall.out.mono ?_
              rintro e w5 ⟨rfl, hk5⟩
              go_wp2_with fail
              refine (fixed_any _).mono ?_
              rintro e w11 ⟨rfl, hk11⟩
              go_wp2_with fail
              go_ret
              exact ⟨rfl, none_below ((hkr4.trans hk5).trans hk11)⟩
            | cons x l =>
              have hcall := Take_any b [[], [], x :: l] [[], [], l] 2 x true wr hB (three_len _) (three_size (by have := HL.out; omega)) (three_take x l)
              have Hcall := Lib.hid hcall
              have hL' : l.length + (i + 1) ≤ 40 := by have := HL.out; simp only [List.length_cons] at this; omega
              have HL' := Lib.hid hL'
              by_cases hx0 : x.fr = 0
              · have hof : ofZ (x :: l) = x :: ofZ l := by unfold ofZ; rw [List.filter_cons, if_pos (by simpa using hx0)]
                have h9 := HF.out
                rw [hof] at h9
                obtain ⟨rfl, h8, htl⟩ := flow_drop h9
                have HF' := Lib.hid h8
                clear hcall hL' hB hof h9 h8 HF HL hx0
                go_wp2_with fail
                refine Hcall.out.mono ?_
                rintro e w3 ⟨rfl, hB3, hk3⟩
                have hB3' := Bs.mono (O' := fun k => w.heap.size ≤ k) hB3 (fun k h => h.elim id (fun h => Nat.le_trans hkr.size h))
                have hkr3 := hkr.new hk3 (fun i hi => hi)
                have kA : New w3 (w3.alloc (blkM ⟨0, t, 7⟩)) := (Kept.refl _ _).alloc _
                have hB4 := hB3'.same kA
                have hkr4 := hkr3.trans kA
                obtain ⟨y0, y1, y2⟩ := of3 (heap_alloc_new w3 (blkM ⟨0, t, 7⟩))
                clear hB3 hk3 Hcall hB3' hkr3 kA
                go_wp2_with fail
                go_roundw
                case rel => exact ⟨i + 1, t + 1, l, by omega, by go_num, by go_num, by omega, HL'.out, HF'.out, hkr4, hB4⟩
                case measure => simp [intOf]; omega
              · have hof : ofZ (x :: l) = ofZ l := by unfold ofZ; rw [List.filter_cons, if_neg (by simpa using hx0)]
                have h9 := HF.out
                rw [hof] at h9
                have HF' := Lib.hid h9
                have hxb : (x.fr == 0) = false := by simpa using hx0
                clear hcall hL' hB hof h9 HF HL
                go_wp2_with fail
                refine Hcall.out.mono ?_
                rintro e w3 ⟨rfl, hB3, hk3⟩
                have hB3' := Bs.mono (O' := fun k => w.heap.size ≤ k) hB3 (fun k h => h.elim id (fun h => Nat.le_trans hkr.size h))
                have hkr3 := hkr.new hk3 (fun i hi => hi)
                have kA : New w3 (w3.alloc (blkM x)) := (Kept.refl _ _).alloc _
                have hB4 := hB3'.same kA
                have hkr4 := hkr3.trans kA
                obtain ⟨y0, y1, y2⟩ := of3 (heap_alloc_new w3 (blkM x))
                clear hB3 hk3 Hcall hB3' hkr3 kA
                go_wp2_with fail
                go_roundw
                case rel => exact ⟨i + 1, t, l, by omega, by go_num, rfl, by omega, HL'.out, HF'.out, hkr4, hB4⟩
                case measure => simp [intOf]; omega
          · have h5' : ¬ (i : Int) < 40 := by omega
            obtain rfl : M = [] := List.eq_nil_of_length_eq_zero (by have := HL.out; omega)
            have htn2 : t = n := by
              have h9 := congrArg List.length HF.out
              rw [List.length_drop, flow_len] at h9
              have h8 : (ofZ ([] : List Ml)).length = 0 := rfl
              omega
            subst htn2
            clear HF HL
            have hcall := owed_any b [[], [], []] 0 0 wr hB (by decide) (by decide) rfl
            have Hcall := Lib.hid hcall
            clear hcall
            go_wp2_with fail
            refine Hcall.out.mono ?_
            rintro e w5 ⟨rfl, hk5⟩
            go_wp2_with fail
            refine (fixed_any _).mono ?_
            rintro e w11 ⟨rfl, hk11⟩
            go_wp2_with fail
            go_ret
            exact ⟨rfl, none_below ((hkr.trans hk5).trans hk11)⟩
end Go.Proofs.Ytfdnmgebpfopjaa

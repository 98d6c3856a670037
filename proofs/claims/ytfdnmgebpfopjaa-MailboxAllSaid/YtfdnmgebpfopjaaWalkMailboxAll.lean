/- The walk of the law MailboxAll. -/
import Derived.Test.YtfdnmgebpfopjaaBoxF
set_option linter.all false
namespace Go.Proofs.Ytfdnmgebpfopjaa
open Go.RowKit

theorem addB_get (m : Ml) : ∀ (T : List Nat) (X : List (List Ml)) (i : Nat), T.Nodup → (addB X m T)[i]? = if i ∈ T then (X[i]?).map (fun L => L ++ [m]) else X[i]?
  | [], X, i, _ => by simp [addB]
  | j :: T, X, i, h => by
    obtain ⟨h1, h2⟩ := List.nodup_cons.1 h
    have ih := addB_get m T (X.set j (X.getD j [] ++ [m])) i h2
    show (addB (X.set j (X.getD j [] ++ [m])) m T)[i]? = _
    rw [ih]
    by_cases hij : i = j
    · subst hij
      rw [if_neg h1, if_pos (by simp)]
      by_cases hl : i < X.length
      · rw [List.getElem?_set_self hl, List.getElem?_eq_getElem hl, List.getD_eq_getElem?_getD, List.getElem?_eq_getElem hl]
        rfl
      · rw [List.getElem?_eq_none (by rw [List.length_set]; omega), List.getElem?_eq_none (by omega)]
        rfl
    · rw [List.getElem?_set_ne (fun e => hij e.symm)]
      by_cases hiT : i ∈ T
      · rw [if_pos hiT, if_pos (by simp [hiT])]
      · rw [if_neg hiT, if_neg (by simp [hiT, hij])]
/-- One in each box but one. -/
def allX (n c : Nat) (m : Ml) : List (List Ml) := (List.range n).map (fun i => if i = c then [] else [m])
theorem allX_at {n c i : Nat} (m : Ml) (h : i < n) : (allX n c m)[i]? = some (if i = c then [] else [m]) := by
  unfold allX
  rw [List.getElem?_map, List.getElem?_range h]
  rfl
theorem allE_new (n c : Nat) (kd ab : Int) (h : c < n) : allE (List.replicate n []) c kd ab = (0, allX n c ⟨c, kd, ab⟩) := by
  unfold allE
  rw [if_neg (by
    have : inR (List.replicate n ([] : List Ml)) (c : Int) = true := by unfold inR; simp; omega
    rw [this]; decide)]
  unfold sendB
  rw [if_neg]
  · refine Prod.ext rfl ?_
    show addB _ _ _ = _
    apply List.ext_getElem?
    intro i
    rw [addB_get _ _ _ _ ((List.filter_sublist).nodup List.nodup_range), List.length_replicate]
    by_cases hi : i < n
    · rw [allX_at _ hi]
      have hr : (List.replicate n ([] : List Ml))[i]? = some [] := by simp [hi]
      rw [hr]
      by_cases hic : i = c
      · rw [if_pos hic, if_neg (by
          rw [List.mem_filter]
          rintro ⟨-, h2⟩
          rw [hic] at h2
          simp at h2)]
      · rw [if_neg hic, if_pos (by
          rw [List.mem_filter, List.mem_range]
          refine ⟨hi, ?_⟩
          have : ¬ ((i : Int) = c) := by omega
          simpa using this)]
        rfl
    · have e1 : (allX n c ⟨c, kd, ab⟩)[i]? = none := List.getElem?_eq_none (by unfold allX; simp; omega)
      have hr : (List.replicate n ([] : List Ml))[i]? = none := List.getElem?_eq_none (by simp; omega)
      rw [e1, hr]
      simp
  · intro h9
    rw [List.any_eq_true] at h9
    obtain ⟨i, -, h8⟩ := h9
    unfold fullB at h8
    have : (List.replicate n ([] : List Ml)).getD i [] = [] := by
      rw [List.getD_eq_getElem?_getD]
      cases hh : (List.replicate n ([] : List Ml))[i]? with
      | none => rfl
      | some L => rw [List.eq_of_mem_replicate (List.mem_of_getElem? hh)]; rfl
    rw [this] at h8
    simp at h8
theorem ones_sum : ∀ n : Fin 9, ∀ c : Fin 9, c.val < n.val → ((List.range n.val).map (fun i => if i = c.val then 0 else 1)).sum = n.val - 1 := by decide
theorem allX_owed {n c : Nat} (kd ab : Int) (hn : n ≤ 8) (h : c < n) : owedE (allX n c ⟨c, kd, ab⟩) c = n - 1 := by
  have h1 := ones_sum ⟨n, by omega⟩ ⟨c, by omega⟩ h
  rw [← h1]
  unfold owedE allX
  rw [List.map_map]
  congr 1
  apply List.map_congr_left
  intro i _
  show cntB (if i = c then [] else [⟨c, kd, ab⟩]) c = if i = c then 0 else 1
  by_cases hi : i = c
  · rw [if_pos hi, if_pos hi]; rfl
  · rw [if_neg hi, if_neg hi]
    unfold cntB
    simp
theorem allX_size {n c : Nat} (m : Ml) : ∀ L ∈ allX n c m, L.length ≤ 64 := by
  intro L hL
  obtain ⟨i, -, rfl⟩ := List.mem_map.1 hL
  split <;> simp

set_option maxRecDepth 100000 in
set_option maxHeartbeats 8000000 in
theorem walkMailboxAll (w : World) (cores : Int) (hwf : (Lit.int .i64 cores).wf = true) (fr : Int) (hwf2 : (Lit.int .i64 fr).wf = true) (cs : List Value) (hcs : FlatOk [.int .i64, .int .i64, .int .i64] cs) :
    Calls Try.prog 5 #[.int .i64 cores, .int .i64 fr, .agg cs.toArray] w fun e w' => e = .returned (.bool true) ∧ Below w.heap.size w w' := by
  obtain ⟨m0, l0, rfl, _, h0⟩ := hcs.int
  obtain ⟨kd, l1, rfl, _, h1⟩ := h0.int
  obtain ⟨ab, l2, rfl, _, h2⟩ := h1.int
  obtain rfl := h2.nil
  obtain ⟨y, hy, y0, y1⟩ := and_small cores 3 (by decide)
  obtain ⟨u, hu, u0, u1⟩ := and_small fr 16 (by decide)
  simp only [Int.reducePow, Int.reduceSub] at hy y1 hu u1
  obtain ⟨r, rfl⟩ := Int.eq_ofNat_of_zero_le y0
  obtain ⟨n, hn⟩ : ∃ n : Nat, n = 1 + r := ⟨_, rfl⟩
  have hw1 : IntKind.i64.wrap (1 + (r : Int)) = (n : Int) := by rw [IntKind.wrap_i64]; omega
  obtain ⟨c, hr2, hcn⟩ : ∃ c : Nat, u.tmod (n : Int) = (c : Int) ∧ c < n := ⟨(u % (n : Int)).toNat, by rw [Int.tmod_eq_emod_of_nonneg u0]; have := Int.emod_nonneg u (b := (n : Int)) (by omega); omega, by have := Int.emod_nonneg u (b := (n : Int)) (by omega); have := Int.emod_lt_of_pos u (b := (n : Int)) (by omega); omega⟩
  have hn1 : 1 ≤ n := by omega
  have hn8 : n ≤ 8 := by omega
  have hnz : ¬ ((n : Int) = 0) := by omega
  have hwn : IntKind.i64.wrap ((n : Int) - 1) = ((n - 1 : Nat) : Int) := by rw [IntKind.wrap_i64]; omega
  have hk0 : New w (w.alloc (blkM ⟨m0, kd, ab⟩)) := (Kept.refl _ _).alloc _
  obtain ⟨W, hW⟩ : ∃ W, W = w.alloc (blkM ⟨m0, kd, ab⟩) := ⟨_, rfl⟩
  obtain ⟨qm, hqm⟩ : ∃ qm, qm = w.heap.size := ⟨_, rfl⟩
  have hM0 : W.heap[qm]? = some (blkM ⟨m0, kd, ab⟩) := by rw [hW, hqm]; exact heap_alloc_new _ _
  have hqW : qm < W.heap.size := lt_of_heap hM0
  rw [← hW] at hk0
  have Hk0 := Lib.hid hk0
  have Hqm := Lib.hid hqm
  have HW := Lib.hid hW
  have HM0 := Lib.hid hM0
  have hnew := new_any n W hn1 hn8
  have Hnew := Lib.hid hnew
  obtain ⟨X, hX⟩ : ∃ X, X = allX n c ⟨c, kd, ab⟩ := ⟨_, rfl⟩
  have HX := Lib.hid hX
  have hXl : X.length = n := by rw [hX]; simp [allX]
  have HXl := Lib.hid hXl
  have Hsz := Lib.hid (show ∀ L ∈ X, L.length ≤ 64 by rw [hX]; exact allX_size _)
  clear hW hk0 hqm hM0 hnew hwf hwf2 hcs h0 h1 h2 hX hXl hn
  show Calls Try.prog 5 #[.int .i64 cores, .int .i64 fr, .agg #[.int .i64 m0, .int .i64 kd, .int .i64 ab]] w _
  go_enter Try.func5, Try.ntmps5
  go_wp2_with fail
  have hW2 := HW.out
  simp only [blkM] at hW2
  rw [← hW2, ← Hqm.out]
  clear hW2
  refine Hnew.out.mono ?_
  rintro e w1 ⟨b, rfl, -, hB, hk⟩
  obtain ⟨x0, x1, x2⟩ := of3 (hk.heap HM0.out (fun h => h))
  have hcall := All_any b (List.replicate n []) X c kd ab 0 w1 hB (by simpa using hn8) (fun L hL => by rw [List.eq_of_mem_replicate hL]; simp) (by rw [allE_new n c kd ab hcn, HX.out])
  have Hcall := Lib.hid hcall
  clear hcall hB Hnew
  go_wp2_with fail
  refine Hcall.out.mono ?_
  rintro e w2 ⟨rfl, hB2, hk2⟩
  have hB2' := Bs.mono (O' := fun k => W.heap.size ≤ k) hB2 (fun k h => h.elim id (fun h => Nat.le_trans hk.size h))
  replace hk := hk.new hk2 (fun i hi => hi)
  clear hB2 hk2 Hcall x0 x1 x2
  go_wp2_with fail
  go_loopw [12] (fun p wr => ∃ i : Nat, i ≤ n ∧ p = .int .i64 i ∧ New W wr ∧ Bs (fun k => W.heap.size ≤ k) wr b X) (fun p _ => n - (intOf p).toNat)
  case atStart => exact ⟨0, by omega, rfl, hk, hB2'⟩
  case round =>
    clear hB2' hk
    obtain ⟨i, hi, rfl, hkr, hB⟩ := hrel
    by_cases h1 : i < n
    · have h1' : (i : Int) < n := by omega
      have hM := hkr.heap HM0.out (fun h => h)
      obtain ⟨x0, x1, x2⟩ := of3 hM
      have kA : New wr (wr.alloc (.cells #[.int .i64 c, .int .i64 kd, .int .i64 ab] 30)) := (Kept.refl _ _).alloc _
      have hB1 := hB.same kA
      by_cases hic : i = c
      · subst hic
        have hXi : X[i]? = some [] := by rw [HX.out, allX_at _ h1, if_pos rfl]
        have kB := kA.alloc (.cells #[] 30)
        have hbox := Box_any b X i [] _ (hB.same kB) (by rw [HXl.out]; exact hn8) Hsz.out (boxE_at hXi)
        have Hbox := Lib.hid hbox
        have hlit := Src.lit (wr.alloc (.cells #[.int .i64 i, .int .i64 kd, .int .i64 ab] 30)) #[] 30 0 3 rfl
        rw [show (wr.alloc (.cells #[.int .i64 i, .int .i64 kd, .int .i64 ab] 30)).heap.size = wr.heap.size + 1 from Array.size_push ..] at hlit
        have Hlit := Lib.hid hlit
        have hkrB := hkr.trans kB
        have HB2 := Lib.hid (hB.same kB)
        clear hXi hbox hlit hB hB1 hM kA kB
        go_wp2_with fail
        refine Hbox.out.mono ?_
        rintro e w3 ⟨v, rfl, hown, -, hk3⟩
        have hsame := same_any v _ 0 [] w3 (Src.of_own hown) (Hlit.out.same hk3) (by decide)
        have Hsame := Lib.hid hsame
        have hB3 := HB2.out.same hk3
        have hkr3 := hkrB.trans hk3
        clear hsame hown Hbox Hlit HB2 hk3
        go_wp2_with fail
        refine Hsame.out.mono ?_
        rintro e w4 ⟨rfl, hk4⟩
        go_wp2_with fail
        go_roundw
        case rel => exact ⟨i + 1, by omega, by go_num, hkr3.trans hk4, hB3.same hk4⟩
        case measure => simp [intOf]; omega
      · have hic2 : ¬ ((i : Int) = c) := by omega
        have hXi : X[i]? = some [⟨c, kd, ab⟩] := by rw [HX.out, allX_at _ h1, if_neg hic]
        have hbox := Box_any b X i [⟨c, kd, ab⟩] _ hB1 (by rw [HXl.out]; exact hn8) Hsz.out (boxE_at hXi)
        have Hbox := Lib.hid hbox
        have hlit := Src.lit wr #[.int .i64 c, .int .i64 kd, .int .i64 ab] 30 1 3 rfl
        have Hlit := Lib.hid hlit
        have hkrB := hkr.trans kA
        have HB2 := Lib.hid hB1
        clear hXi hbox hlit hB hB1 hM kA
        go_wp2_with fail
        refine Hbox.out.mono ?_
        rintro e w3 ⟨v, rfl, hown, -, hk3⟩
        have hsame := same_any v _ 1 [⟨c, kd, ab⟩] w3 (Src.of_own hown) (Hlit.out.same hk3) (by decide)
        have Hsame := Lib.hid hsame
        have hB3 := HB2.out.same hk3
        have hkr3 := hkrB.trans hk3
        clear hsame hown Hbox Hlit HB2 hk3
        go_wp2_with fail
        refine Hsame.out.mono ?_
        rintro e w4 ⟨rfl, hk4⟩
        go_wp2_with fail
        go_roundw
        case rel => exact ⟨i + 1, by omega, by go_num, hkr3.trans hk4, hB3.same hk4⟩
        case measure => simp [intOf]; omega
    · have h1' : ¬ (i : Int) < n := by omega
      have hcall := owed_any b X c (n - 1) wr hB (by rw [HXl.out]; exact hn8) Hsz.out (by rw [HX.out, allX_owed kd ab hn8 hcn])
      have Hcall := Lib.hid hcall
      clear hcall hB
      go_wp2_with fail
      refine Hcall.out.mono ?_
      rintro e w3 ⟨rfl, hk3⟩
      go_wp2_with fail
      refine (fixed_any _).mono ?_
      rintro e w4 ⟨rfl, hk4⟩
      go_wp2_with fail
      go_ret
      exact ⟨rfl, none_below (Hk0.out.trans ((hkr.trans hk3).trans hk4))⟩
end Go.Proofs.Ytfdnmgebpfopjaa

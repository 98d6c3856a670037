/- The walk of the law MailboxFull. -/
import Derived.Test.YtfdnmgebpfopjaaBoxE
set_option linter.all false
namespace Go.Proofs.Ytfdnmgebpfopjaa
open Go.RowKit

/-- One core alone has some. -/
def bx (n c : Nat) (L : List Ml) : List (List Ml) := (List.replicate n []).set c L
theorem bx_len (n c : Nat) (L : List Ml) : (bx n c L).length = n := by unfold bx; simp
theorem bx_at {n c : Nat} (L : List Ml) (h : c < n) : (bx n c L)[c]? = some L := by unfold bx; rw [List.getElem?_set_self (by simpa using h)]
theorem bx_set (n c : Nat) (L L' : List Ml) : (bx n c L).set c L' = bx n c L' := by unfold bx; rw [List.set_set]
theorem bx_nil (n c : Nat) : bx n c [] = List.replicate n [] := by
  unfold bx
  apply List.ext_getElem?
  intro i
  by_cases h : c = i
  · subst h
    by_cases h2 : c < n
    · rw [List.getElem?_set_self (by simpa using h2)]; simp [h2]
    · rw [List.getElem?_eq_none (by simpa using h2), List.getElem?_eq_none (by simpa using h2)]
  · rw [List.getElem?_set_ne h]
theorem bx_size {n c q : Nat} {L : List Ml} (h : L.length ≤ q) : ∀ M ∈ bx n c L, M.length ≤ q := by
  intro M hM
  unfold bx at hM
  rcases List.mem_or_eq_of_mem_set hM with h1 | h1
  · rw [List.eq_of_mem_replicate h1]; simp
  · rw [h1]; exact h
theorem bx_in {n c : Nat} {L : List Ml} {i : Nat} (h : i < n) : inR (bx n c L) (i : Int) = true := by
  unfold inR; rw [bx_len]; simp; omega
theorem bx_full {n c : Nat} {L : List Ml} (h : c < n) : fullB (bx n c L) c = decide (64 ≤ L.length) := by
  unfold fullB; rw [getD_at (bx_at L h)]
theorem bx_send {n c : Nat} {L : List Ml} (k a : Int) (h0 : 0 < c) (h : c < n) : sendE (bx n c L) 0 c k a = if 64 ≤ L.length then (2, bx n c L) else (0, bx n c (L ++ [⟨0, k, a⟩])) := by
  unfold sendE
  rw [if_neg (by rw [bx_in h, show (0 : Int) = ((0 : Nat) : Int) from rfl, bx_in (by omega)]; simp), if_neg (by omega)]
  unfold sendB addB
  simp only [Int.toNat_natCast, List.any_cons, List.any_nil, Bool.or_false, List.foldl_cons, List.foldl_nil]
  rw [bx_full h, getD_at (bx_at L h), bx_set]
  by_cases h9 : 64 ≤ L.length
  · rw [if_pos (by simpa using h9), if_pos h9]
  · rw [if_neg (by simpa using h9), if_neg h9]
theorem bx_all {n c : Nat} {L : List Ml} (k a : Int) (h0 : 0 < c) (h : c < n) (hL : 64 ≤ L.length) : allE (bx n c L) 0 k a = (2, bx n c L) := by
  unfold allE
  rw [if_neg (by rw [show (0 : Int) = ((0 : Nat) : Int) from rfl, bx_in (by omega)]; simp)]
  unfold sendB
  rw [if_pos]
  rw [List.any_eq_true]
  refine ⟨c, ?_, by rw [bx_full h]; simpa using hL⟩
  rw [List.mem_filter, List.mem_range, bx_len]
  refine ⟨h, ?_⟩
  have : ¬ ((c : Int) = 0) := by omega
  simpa using this
theorem bx_take {n c : Nat} {x : Ml} {L : List Ml} (h : c < n) : takeE (bx n c (x :: L)) c = ((x, true), bx n c L) := by
  unfold takeE boxE
  rw [bx_in h, if_pos rfl, Int.toNat_natCast, getD_at (bx_at _ h)]
  simp only [bx_set]
theorem owed_zero : ∀ (n : Nat) (c : Int), owedE (List.replicate n []) c = 0
  | 0, _ => rfl
  | n + 1, c => by
    have h := owed_zero n c
    unfold owedE at h ⊢
    rw [List.replicate_succ, List.map_cons, List.sum_cons, h]
    rfl
theorem bx_owed : ∀ {n c : Nat} (L : List Ml) (q : Int), c < n → owedE (bx n c L) q = cntB L q
  | n + 1, 0, L, q, _ => by
    have h := owed_zero n q
    unfold owedE at h ⊢
    unfold bx
    rw [List.replicate_succ, List.set_cons_zero, List.map_cons, List.sum_cons, h]
    rfl
  | n + 1, c + 1, L, q, h => by
    have h2 := bx_owed (n := n) (c := c) L q (by omega)
    unfold owedE bx at h2 ⊢
    rw [List.replicate_succ, List.set_cons_succ, List.map_cons, List.sum_cons, h2]
    exact Nat.zero_add _
/-- What one core sent. -/
def msgs (i : Nat) : List Ml := (List.range i).map (fun j : Nat => ⟨0, (j : Int), 0⟩)
theorem msgs_len (i : Nat) : (msgs i).length = i := by simp [msgs]
theorem msgs_snoc (i : Nat) : msgs (i + 1) = msgs i ++ [⟨0, (i : Int), 0⟩] := by simp [msgs, List.range_succ]
theorem msgs_cnt (L : List Ml) (h : ∀ m ∈ L, m.fr = 0) : cntB L 0 = L.length := by
  unfold cntB
  rw [List.filter_eq_self.2 (fun m hm => by simpa using h m hm)]
theorem msgs_fr {m : Ml} {i : Nat} (h : m ∈ msgs i) : m.fr = 0 := by
  unfold msgs at h
  obtain ⟨j, -, rfl⟩ := List.mem_map.1 h
  rfl
theorem msgs_drop {i : Nat} (h : i < 64) : (msgs 64).drop i = ⟨0, (i : Int), 0⟩ :: (msgs 64).drop (i + 1) := by
  have hl := msgs_len 64
  rw [List.drop_eq_getElem_cons (by omega)]
  congr 1
  simp [msgs]
theorem all_new : ∀ n : Fin 9, 1 ≤ n.val → (allE (List.replicate n.val []) 0 66 0).1 = 0 ∧ owedE (allE (List.replicate n.val []) 0 66 0).2 0 = n.val - 1 ∧ (allE (List.replicate n.val []) 0 66 0).2.length = n.val ∧ ((allE (List.replicate n.val []) 0 66 0).2.all (fun L => decide (L.length ≤ 64))) = true := by decide

set_option maxRecDepth 100000 in
set_option maxHeartbeats 8000000 in
theorem walkMailboxFull (w : World) (cores : Int) (hwf : (Lit.int .i64 cores).wf = true) (to : Int) (hwf2 : (Lit.int .i64 to).wf = true) :
    Calls Try.prog 3 #[.int .i64 cores, .int .i64 to] w fun e w' => e = .returned (.bool true) ∧ Below w.heap.size w w' := by
  obtain ⟨y, hy, y0, y1⟩ := and_small cores 16 (by decide)
  obtain ⟨u, hu, u0, u1⟩ := and_small to 16 (by decide)
  simp only [Int.reducePow, Int.reduceSub] at hy y1 hu u1
  obtain ⟨r, hr⟩ : ∃ r : Nat, y.tmod 7 = (r : Int) ∧ r < 7 := ⟨(y % 7).toNat, by rw [Int.tmod_eq_emod_of_nonneg y0]; omega, by omega⟩
  obtain ⟨hr, hr7⟩ := hr
  obtain ⟨n, hn⟩ : ∃ n : Nat, n = 2 + r := ⟨_, rfl⟩
  have hw1 : IntKind.i64.wrap (2 + (r : Int)) = (n : Int) := by rw [IntKind.wrap_i64]; omega
  obtain ⟨n1, hn1⟩ : ∃ n1 : Nat, n1 = 1 + r := ⟨_, rfl⟩
  have hw2 : IntKind.i64.wrap ((n : Int) - 1) = (n1 : Int) := by rw [IntKind.wrap_i64]; omega
  obtain ⟨r2, hr2, hr27⟩ : ∃ r2 : Nat, u.tmod (n1 : Int) = (r2 : Int) ∧ r2 < n1 := ⟨(u % (n1 : Int)).toNat, by rw [Int.tmod_eq_emod_of_nonneg u0]; have := Int.emod_nonneg u (b := (n1 : Int)) (by omega); omega, by have := Int.emod_nonneg u (b := (n1 : Int)) (by omega); have := Int.emod_lt_of_pos u (b := (n1 : Int)) (by omega); omega⟩
  obtain ⟨c, hc⟩ : ∃ c : Nat, c = 1 + r2 := ⟨_, rfl⟩
  have hw3 : IntKind.i64.wrap (1 + (r2 : Int)) = (c : Int) := by rw [IntKind.wrap_i64]; omega
  have hn2 : 2 ≤ n := by omega
  have hn8 : n ≤ 8 := by omega
  have hcn : c < n := by omega
  have hc0 : 0 < c := by omega
  have hn1n : n = n1 + 1 := by omega
  have hn1z : ¬ ((n1 : Int) = 0) := by omega
  have Hn1n := Lib.hid hn1n
  have hnew := new_any n w (by omega) hn8
  have Hnew := Lib.hid hnew
  clear hn hn1 hc hnew hwf hwf2 hn1n
  go_enter Try.func3, Try.ntmps3
  go_wp2_with fail
  refine Hnew.out.mono ?_
  rintro e w1 ⟨b, rfl, -, hB, hk⟩
  have hB0 : Bs (fun k => w.heap.size ≤ k) w1 b (bx n c (msgs 0)) := by rw [show msgs 0 = [] from rfl, bx_nil]; exact hB
  have hbl : (bx n c (msgs 0)).length ≤ 8 := by rw [bx_len]; exact hn8
  clear Hnew hB hbl
  go_wp2_with fail
  go_loopw [9] (fun p wr => ∃ i : Nat, i ≤ 64 ∧ p = .int .i64 i ∧ New w wr ∧ Bs (fun k => w.heap.size ≤ k) wr b (bx n c (msgs i))) (fun p _ => 64 - (intOf p).toNat)
  case atStart => exact ⟨0, by omega, rfl, hk, hB0⟩
  case round =>
    clear hB0 hk
    obtain ⟨i, hi, rfl, hkr, hB⟩ := hrel
    by_cases h1 : i < 64
    · have h1' : (i : Int) < 64 := by omega
      have hcall := Send_any b (bx n c (msgs i)) (bx n c (msgs (i + 1))) 0 c i 0 0 wr hB (by rw [bx_len]; exact hn8) (bx_size (by rw [msgs_len]; omega)) (by rw [bx_send _ _ hc0 hcn, if_neg (by rw [msgs_len]; omega), msgs_snoc])
      have Hcall := Lib.hid hcall
      clear hcall hB
      go_wp2_with fail
      refine Hcall.out.mono ?_
      rintro e w2 ⟨rfl, hB2, hk2⟩
      have hB2' := Bs.mono (O' := fun k => w.heap.size ≤ k) hB2 (fun k h => h.elim id (fun h => Nat.le_trans hkr.size h))
      have hkr2 := hkr.new hk2 (fun i hi => hi)
      clear hB2 hk2 Hcall
      go_wp2_with fail
      go_roundw
      case rel => exact ⟨i + 1, by omega, by go_num, hkr2, hB2'⟩
      case measure => simp [intOf]; omega
    · obtain rfl : i = 64 := by omega
      have hcall := Send_any b (bx n c (msgs 64)) (bx n c (msgs 64)) 0 c 64 0 2 wr hB (by rw [bx_len]; exact hn8) (bx_size (by rw [msgs_len]; omega)) (by rw [bx_send _ _ hc0 hcn, if_pos (by rw [msgs_len]; omega)])
      have Hcall := Lib.hid hcall
      clear hcall hB
      go_wp2_with fail
      refine Hcall.out.mono ?_
      rintro e w2 ⟨rfl, hB2, hk2⟩
      have hB2' := Bs.mono (O' := fun k => w.heap.size ≤ k) hB2 (fun k h => h.elim id (fun h => Nat.le_trans hkr.size h))
      replace hkr := hkr.new hk2 (fun i hi => hi)
      clear hB2 hk2 Hcall
      have hcall := All_any b (bx n c (msgs 64)) (bx n c (msgs 64)) 0 65 0 2 w2 hB2' (by rw [bx_len]; exact hn8) (bx_size (by rw [msgs_len]; omega)) (bx_all _ _ hc0 hcn (by rw [msgs_len]; omega))
      have Hcall := Lib.hid hcall
      clear hcall hB2'
      go_wp2_with fail
      refine Hcall.out.mono ?_
      rintro e w3 ⟨rfl, hB2, hk2⟩
      have hB2' := Bs.mono (O' := fun k => w.heap.size ≤ k) hB2 (fun k h => h.elim id (fun h => Nat.le_trans hkr.size h))
      replace hkr := hkr.new hk2 (fun i hi => hi)
      clear hB2 hk2 Hcall
      have hcall := owed_any b (bx n c (msgs 64)) 0 64 w3 hB2' (by rw [bx_len]; exact hn8) (bx_size (by rw [msgs_len]; omega)) (by rw [bx_owed _ _ hcn, msgs_cnt _ (fun m h => msgs_fr h), msgs_len])
      have Hcall := Lib.hid hcall
      clear hcall
      go_wp2_with fail
      refine Hcall.out.mono ?_
      rintro e w4 ⟨rfl, hk4⟩
      have hB4 : Bs (fun k => w.heap.size ≤ k) w4 b (bx n c ((msgs 64).drop 0)) := hB2'.same hk4
      replace hkr := hkr.trans hk4
      clear hB2' hk4 Hcall
      go_wp2_with fail
      go_loopw [12] (fun p wr => ∃ i : Nat, i ≤ 64 ∧ p = .int .i64 i ∧ New w wr ∧ Bs (fun k => w.heap.size ≤ k) wr b (bx n c ((msgs 64).drop i))) (fun p _ => 64 - (intOf p).toNat)
      case atStart => exact ⟨0, by omega, rfl, hkr, hB4⟩
      case round =>
        clear hB4 hkr h1
        obtain ⟨i, hi, rfl, hkr, hB⟩ := hrel
        have hdl : ∀ j, ((msgs 64).drop j).length ≤ 64 := fun j => by rw [List.length_drop, msgs_len]; omega
        by_cases h1 : i < 64
        · have h1' : (i : Int) < 64 := by omega
          have hcall := Take_any b (bx n c ((msgs 64).drop i)) (bx n c ((msgs 64).drop (i + 1))) c ⟨0, i, 0⟩ true wr hB (by rw [bx_len]; exact hn8) (bx_size (hdl i)) (by rw [msgs_drop h1, bx_take hcn])
          have Hcall := Lib.hid hcall
          have Hdl := Lib.hid hdl
          obtain ⟨q, hq⟩ : ∃ q : Nat, q = 63 - i := ⟨_, rfl⟩
          have hwq : IntKind.i64.wrap (63 - (i : Int)) = (q : Int) := by rw [IntKind.wrap_i64]; omega
          have hqo : q = owedE (bx n c ((msgs 64).drop (i + 1))) 0 := by
            rw [bx_owed _ _ hcn, msgs_cnt _ (fun m h => msgs_fr (List.mem_of_mem_drop h)), List.length_drop, msgs_len]; omega
          have Hqo := Lib.hid hqo
          clear hcall hB hdl hq hqo
          go_wp2_with fail
          refine Hcall.out.mono ?_
          rintro e w2 ⟨rfl, hB2, hk2⟩
          have kA : New w2 (w2.alloc (blkM ⟨0, i, 0⟩)) := (Kept.refl _ _).alloc _
          have hB2' := (Bs.mono (O' := fun k => w.heap.size ≤ k) hB2 (fun k h => h.elim id (fun h => Nat.le_trans hkr.size h))).same kA
          have hkr2 := (hkr.new hk2 (fun i hi => hi)).trans kA
          obtain ⟨t0, t1, t2⟩ := of3 (heap_alloc_new w2 (blkM ⟨0, i, 0⟩))
          have hcall := owed_any b _ 0 q _ hB2' (by rw [bx_len]; exact hn8) (bx_size (Hdl.out (i + 1))) Hqo.out
          have Hcall2 := Lib.hid hcall
          clear hB2 hk2 Hcall hcall kA
          go_wp2_with fail
          refine Hcall2.out.mono ?_
          rintro e w3 ⟨rfl, hk3⟩
          have hB3 := hB2'.same hk3
          have hkr3 := hkr2.trans hk3
          clear hB2' Hcall2 hk3 hkr2
          go_wp2_with fail
          go_roundw
          case rel => exact ⟨i + 1, by omega, by go_num, hkr3, hB3⟩
          case measure => simp [intOf]; omega
        · obtain rfl : i = 64 := by omega
          obtain ⟨a1, a2, a3, a4⟩ := all_new ⟨n, by omega⟩ (by show 1 ≤ n; omega)
          obtain ⟨X', hX'⟩ : ∃ X', X' = (allE (List.replicate n []) 0 66 0).2 := ⟨_, rfl⟩
          have hB1 : Bs (fun k => w.heap.size ≤ k) wr b (List.replicate n []) := by
            rw [List.drop_of_length_le (by rw [msgs_len]; omega), bx_nil] at hB; exact hB
          replace a2 : owedE X' 0 = n - 1 := by rw [hX']; exact a2
          replace a3 : X'.length = n := by rw [hX']; exact a3
          replace a4 : ∀ L ∈ X', L.length ≤ 64 := by rw [hX']; intro L hL; simpa using List.all_eq_true.1 a4 L hL
          have hcall := All_any b (List.replicate n []) X' 0 66 0 0 wr hB1 (by simpa using hn8) (fun L hL => by rw [List.eq_of_mem_replicate hL]; simp) (by rw [hX']; exact Prod.ext a1 rfl)
          have Hcall := Lib.hid hcall
          have A2 := Lib.hid a2
          have A3 := Lib.hid a3
          have A4 := Lib.hid a4
          clear hcall hB hB1 hdl a1 a2 a3 a4 hX'
          go_wp2_with fail
          refine Hcall.out.mono ?_
          rintro e w2 ⟨rfl, hB2, hk2⟩
          have hB2' := Bs.mono (O' := fun k => w.heap.size ≤ k) hB2 (fun k h => h.elim id (fun h => Nat.le_trans hkr.size h))
          replace hkr := hkr.new hk2 (fun i hi => hi)
          have hcall := owed_any b X' 0 n1 w2 hB2' (by rw [A3.out]; exact hn8) A4.out (by rw [A2.out, Hn1n.out]; rfl)
          have Hcall2 := Lib.hid hcall
          clear hB2 hB2' hk2 Hcall hcall
          go_wp2_with fail
          refine Hcall2.out.mono ?_
          rintro e w3 ⟨rfl, hk3⟩
          go_wp2_with fail
          refine (fixed_any _).mono ?_
          rintro e w4 ⟨rfl, hk4⟩
          go_wp2_with fail
          go_ret
          exact ⟨rfl, none_below ((hkr.trans hk3).trans hk4)⟩
end Go.Proofs.Ytfdnmgebpfopjaa

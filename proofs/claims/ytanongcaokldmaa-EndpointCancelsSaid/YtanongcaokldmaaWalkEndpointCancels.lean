/- The walk of the law EndpointCancels. -/
import Derived.Test.YtanongcaokldmaaEndL
import Derived.Deep.DeepCutAuto
set_option linter.all false
namespace Go.Proofs.Ytanongcaokldmaa
open Go.RowKit

set_option maxRecDepth 100000 in
set_option maxHeartbeats 16000000 in
theorem walkEndpointCancels (w : World) (v : Value) (rows : List (List Value)) (hs : Src w v rows.length 10 rows.flatten) (hr : ∀ x ∈ rows, FlatOk [.int .i64, .int .i64, .int .i64, .int .u64, .int .u64, .int .u64, .int .u64, .int .u64, .bool, .bool] x) (hm : rows.length ≤ maxLen) (s : Int) (hwf : (Lit.int .u64 s).wf = true) :
    Calls Try.prog 6 #[v, .int .u64 s] w fun e w' => e = .returned (.bool true) ∧ Below w.heap.size w w' := by
  obtain ⟨L, hfl, hll, -⟩ := ops_of_rows hr
  rw [hfl] at hs
  obtain ⟨len, hlen⟩ : ∃ len, len = rows.length := ⟨_, rfl⟩
  rw [← hlen] at hs hm hll
  clear hr hfl hlen hwf
  have Hs := Lib.hid hs
  obtain ⟨-, ao, c, rfl, hcells⟩ := Src.ops hs
  have Hll := Lib.hid hll
  have hlenm : len ≤ 9223372036854775807 := by have : maxLen = 9223372036854775807 := rfl; omega
  clear hs hll hcells hm
  go_enter Try.func6, Try.ntmps6
  go_wp2_with fail
  refine (new_any w).mono ?_
  rintro e w1 ⟨rfl, hN, hk1⟩
  obtain ⟨b, hb⟩ : ∃ b, b = w.heap.size := ⟨_, rfl⟩
  rw [← hb] at hN ⊢
  have Hb := Lib.hid hb
  clear hb
  have kA : New w1 (w1.alloc (.cells #[] 3)) := (Kept.refl _ _).alloc _
  have hS1 := Sep.fresh (O := fun k => w.heap.size ≤ k) (N := LQ (.slice (some ⟨w1.heap.size, 0, none⟩) 0 0) []) (EP.ok b false []) (show EP b false [] (fun k => w.heap.size ≤ k) w1 from hN.mono (fun k hk => by have := Hb.out; omega)) (LQ.made w1) kA (fun k hk => Nat.le_trans hk1.size hk)
  have hk2 := hk1.trans kA
  have kB : New (w1.alloc (.cells #[] 3)) ((w1.alloc (.cells #[] 3)).alloc (.cells #[] 3)) := (Kept.refl _ _).alloc _
  have hS2 := Sep.fresh (O := fun k => w.heap.size ≤ k) (N := LQ (.slice (some ⟨(w1.alloc (.cells #[] 3)).heap.size, 0, none⟩) 0 0) []) (Sep.ok (LQ.ok _ _) (EP.ok b false [])) hS1 (LQ.made _) kB (fun k hk => Nat.le_trans hk2.size hk)
  have hk3 := hk2.trans kB
  rw [show (w1.alloc (.cells #[] 3)).heap.size = w1.heap.size + 1 from Array.size_push ..] at hS2
  replace hS2 := (hS2.inr (fun _ h => h.swap)).turn.inr (fun _ h => h.swap)
  clear hN hS1 hk1 hk2 kA kB
  go_wp2_with fail
  go_loopw [6, 7, 8] (fun v6 v7 i wr => ∃ (k : Nat) (M : List On) (aw ar : Option Addr) (cw cr : Nat), k ≤ 30 ∧ k ≤ len ∧ v6 = .slice aw (hasB M s).length cw ∧ v7 = .slice ar (restB M s).length cr ∧ i = .int .i64 k ∧ M.length ≤ k ∧ Hid (Once1 M) ∧ New w wr ∧ Sep (EP b (decide (0 < M.length)) M) (Sep (LQ (.slice aw (hasB M s).length cw) (hasB M s)) (LQ (.slice ar (restB M s).length cr) (restB M s))) (fun k => w.heap.size ≤ k) wr) (fun _ _ i _ => 30 - (intOf i).toNat)
  case atStart => exact ⟨0, [], _, _, _, _, by omega, by omega, rfl, rfl, rfl, by simp, by simp [Hid, Once1], hk3, hS2⟩
  case round =>
    clear hS2 hk3
    obtain ⟨k, M, aw, ar, cw, cr, hk6, hk, rfl, rfl, rfl, hMk, hon, hkr, hS⟩ := hrel
    obtain ⟨nw, hnw⟩ : ∃ nw, nw = (hasB M s).length := ⟨_, rfl⟩
    obtain ⟨nr, hnr⟩ : ∃ nr, nr = (restB M s).length := ⟨_, rfl⟩
    rw [← hnw, ← hnr] at hS
    rw [← hnw, ← hnr]
    have hnw30 : nw ≤ 30 := by have := hasB_length M s; omega
    have hnr30 : nr ≤ 30 := by rw [hnr]; unfold restB; rw [List.length_map]; have := List.length_filter_le (fun x => !(x.bg == s)) M; omega
    have Hnw := Lib.hid hnw
    have Hnr := Lib.hid hnr
    clear hnw hnr
    by_cases h1 : k < len ∧ k < 30
    · obtain ⟨h1, h2⟩ := h1
      have h2' : (k : Int) < 30 := by omega
      obtain ⟨z, hz⟩ : ∃ z, L[k]? = some z := ⟨_, List.getElem?_eq_getElem (by have := Hll.out; omega)⟩
      obtain ⟨ao', c', he, hcl⟩ := (Src.ops Hs.out).2
      cases he
      obtain ⟨B, Of, rfl, c0, c1, c2, c3, c4, c5, c6, c7, c8, c9⟩ := hcl k z hz
      have hsk : ∀ W', New w W' → W'.cell? ⟨B, Of + k * 10 + 1, none⟩ = some (.int .i64 z.x.who) ∧ W'.cell? ⟨B, Of + k * 10 + 2, none⟩ = some (.int .i64 z.x.la) ∧ W'.cell? ⟨B, Of + k * 10 + 3, none⟩ = some (.int .u64 z.x.w0) ∧ W'.cell? ⟨B, Of + k * 10 + 4, none⟩ = some (.int .u64 z.x.w1) ∧ W'.cell? ⟨B, Of + k * 10 + 5, none⟩ = some (.int .u64 z.x.w2) ∧ W'.cell? ⟨B, Of + k * 10 + 6, none⟩ = some (.int .u64 z.x.w3) ∧ W'.cell? ⟨B, Of + k * 10 + 7, none⟩ = some (.int .u64 z.x.bg) ∧ W'.cell? ⟨B, Of + k * 10 + 8, none⟩ = some (.bool z.x.ca) := fun W' hk => ⟨cell_kept hk c1 (fun h => h), cell_kept hk c2 (fun h => h), cell_kept hk c3 (fun h => h), cell_kept hk c4 (fun h => h), cell_kept hk c5 (fun h => h), cell_kept hk c6 (fun h => h), cell_kept hk c7 (fun h => h), cell_kept hk c8 (fun h => h)⟩
      have Hsk := Lib.hid hsk
      obtain ⟨er, her⟩ : ∃ er : Int, er = if M.any (fun y => y.who == z.x.who) then 110 else 0 := ⟨_, rfl⟩
      have hcall := fun (W' : World) (hk : New wr W') => send_sep3 (Sep.ok (LQ.ok (.slice aw nw cw) (hasB M s)) (LQ.ok (.slice ar nr cr) (restB M s))) w.heap.size b _ _ true false M (lineN M z.x) z.x on0 0 0 er wr hS hkr.size (by omega) (sendE_inN M z.x er her) W' hk
      have Hcall := Lib.hid hcall
      have Her := Lib.hid her
      have hlM := lineN_length M z.x
      clear hcl hz c0 c1 c2 c3 c4 c5 c6 c7 c8 c9 hS hsk hcall her
      have hd1 : New wr wr.drew := (Kept.refl _ _).drew
      have hdB : New wr (wr.alloc (.cells #[.bool false, .int .i64 0, .int .i64 0, .int .i64 0, .int .u64 0, .int .u64 0, .int .u64 0, .int .u64 0, .int .u64 0, .bool false] 35)).drew := ((Kept.refl _ _).alloc _).drew
      have hbz : (wr.alloc (.cells #[.bool false, .int .i64 0, .int .i64 0, .int .i64 0, .int .u64 0, .int .u64 0, .int .u64 0, .int .u64 0, .int .u64 0, .bool false] 35)).drew.heap[wr.heap.size]? = some (blkT false 0 0 on0) := heap_alloc_new wr _
      have hkrd := hkr.trans hd1
      have hkrB := hkr.trans hdB
      go_upto_region 8 with fail
      go_cut [10] (fun s9 wx => s9 = .int .i64 er ∧ New w wx ∧ Hid (Sep (EP b (decide (0 < (lineN M z.x).length)) (lineN M z.x)) (Sep (LQ (.slice aw nw cw) (hasB M s)) (LQ (.slice ar nr cr) (restB M s))) (fun k => w.heap.size ≤ k) wx))
      case first =>
        go_region_held3 (fun W' => W'.cell? ⟨B, Of + k * 10 + 1, none⟩ = some (.int .i64 z.x.who) ∧ W'.cell? ⟨B, Of + k * 10 + 2, none⟩ = some (.int .i64 z.x.la) ∧ W'.cell? ⟨B, Of + k * 10 + 3, none⟩ = some (.int .u64 z.x.w0) ∧ W'.cell? ⟨B, Of + k * 10 + 4, none⟩ = some (.int .u64 z.x.w1) ∧ W'.cell? ⟨B, Of + k * 10 + 5, none⟩ = some (.int .u64 z.x.w2) ∧ W'.cell? ⟨B, Of + k * 10 + 6, none⟩ = some (.int .u64 z.x.w3) ∧ W'.cell? ⟨B, Of + k * 10 + 7, none⟩ = some (.int .u64 z.x.bg) ∧ W'.cell? ⟨B, Of + k * 10 + 8, none⟩ = some (.bool z.x.ca)) ((refine Hsk.out _ ?_; (first | with_reducible exact hkrd | with_reducible exact hkrB | with_reducible exact hkA | with_reducible exact hkA1 | with_reducible exact hkB | with_reducible exact hkB1)))
          (first
            | (go_at_call 12; with_reducible refine (Hcall.out _ hd1).mono ?_; rintro e w4 ⟨he, hS4, hk4⟩; simp only [metV, on0] at he; subst he; have hkA := hkrd.new hk4 (fun i hi => hi.1); have hkA1 : New w (w4.alloc (.cells #[.bool false, .int .i64 0, .int .i64 0, .int .i64 0, .int .u64 0, .int .u64 0, .int .u64 0, .int .u64 0, .int .u64 0, .bool false] 35)) := hkA.alloc _)
            | (go_at_call 12; with_reducible refine (Hcall.out _ hdB).mono ?_; rintro e w4 ⟨he, hS4, hk4⟩; simp only [metV, on0] at he; subst he; have hkB := hkrB.new hk4 (fun i hi => hi.1); obtain ⟨z0, y0, z1, y1, z2, y2, z3, y3, z4, y4, z5, y5, z6, y6, z7, y7, z8, y8, z9, y9⟩ := of10 (hk4.heap hbz (fun h => absurd h.2 (Nat.lt_irrefl _))); have hkB1 : New w ((((((((((w4.setCell ⟨wr.heap.size, 0, none⟩ (.bool false)).setCell ⟨wr.heap.size, 1, none⟩ (.int .i64 0)).setCell ⟨wr.heap.size, 2, none⟩ (.int .i64 0)).setCell ⟨wr.heap.size, 3, none⟩ (.int .i64 0)).setCell ⟨wr.heap.size, 4, none⟩ (.int .u64 0)).setCell ⟨wr.heap.size, 5, none⟩ (.int .u64 0)).setCell ⟨wr.heap.size, 6, none⟩ (.int .u64 0)).setCell ⟨wr.heap.size, 7, none⟩ (.int .u64 0)).setCell ⟨wr.heap.size, 8, none⟩ (.int .u64 0)).setCell ⟨wr.heap.size, 9, none⟩ (.bool false)) := hkB.trans' (ten_kept w4 wr.heap.size _ _ _ _ _ _ _ _ _ _) (fun i hi e => absurd hi (by rw [e]; have := hkr.size; omega))))
        all_goals go_wp2_with fail
        all_goals go_meet
        · exact ⟨rfl, hkA1, (Sep.ok (EP.ok _ _ _) (Sep.ok (LQ.ok _ _) (LQ.ok _ _))).mono ((Sep.ok (EP.ok _ _ _) (Sep.ok (LQ.ok _ _) (LQ.ok _ _))).kept hS4 ((Kept.refl (fun _ => False) w4).alloc _) (fun _ _ h => h)) (fun _ h => h.1)⟩
        · exact ⟨rfl, hkB1, (Sep.ok (EP.ok _ _ _) (Sep.ok (LQ.ok _ _) (LQ.ok _ _))).mono ((Sep.ok (EP.ok _ _ _) (Sep.ok (LQ.ok _ _) (LQ.ok _ _))).kept hS4 (ten_kept w4 wr.heap.size _ _ _ _ _ _ _ _ _ _) (fun i h e => by have h2 := h.2; have h3 : ((wr.alloc (.cells #[.bool false, .int .i64 0, .int .i64 0, .int .i64 0, .int .u64 0, .int .u64 0, .int .u64 0, .int .u64 0, .int .u64 0, .bool false] 35)).drew).heap.size = wr.heap.size + 1 := Array.size_push ..; rw [h3] at h2; omega)) (fun _ h => h.1)⟩
      case rest =>
        obtain ⟨rfl, hkc, HS⟩ := hcut
        obtain ⟨e1, e2, e3, e4, e5, e6, e7, e8⟩ := Hsk.out wc hkc
        by_cases hm : M.any (fun y => y.who == z.x.who) = true
        · have her : er = 110 := by rw [Her.out, if_pos hm]
          rw [lineN_old hm] at HS
          subst her
          clear hm e1 e2 e3 e4 e5 e6 e7 e8
          go_wp2_with fail
          go_roundw
          case rel => exact ⟨k + 1, M, aw, ar, cw, cr, by omega, by omega, by rw [← Hnw.out], by rw [← Hnr.out], by go_num, by omega, hon, hkc, by rw [← Hnw.out, ← Hnr.out]; exact HS.out⟩
          case measure => simp [intOf]; omega
        · have her : er = 0 := by rw [Her.out, if_neg hm]
          have hm' : M.any (fun y => y.who == z.x.who) = false := by simpa using hm
          have hon' := Lib.hid (Once1.line hon.out z.x)
          rw [lineN_new hm'] at HS hon' hlM
          subst her
          have kL : New wc (wc.alloc (.cells #[.int .i64 z.x.who] 3)) := (Kept.refl _ _).alloc _
          have hSL := (Sep.ok (EP.ok _ _ _) (Sep.ok (LQ.ok _ _) (LQ.ok _ _))).kept HS.out kL (fun _ _ h => h)
          obtain ⟨_, q1⟩ := Sep.any hSL
          obtain ⟨_, q2⟩ := Sep.one q1
          obtain ⟨_, q3⟩ := Sep.any q1
          have o6 := q2.1
          have o7 := q3.1
          rw [← Hnw.out] at o6
          rw [← Hnr.out] at o7
          have O6 := Lib.hid o6
          have O7 := Lib.hid o7
          have Hlit := Lib.hid (Src.lit wc #[.int .i64 z.x.who] 3 1 1 rfl)
          obtain ⟨i3, hi, hz0, hz1, hz2⟩ := info_parts info3
          have hnwr : w.heap.size ≤ wc.heap.size := hkc.size
          have Hkc := Lib.hid hkc
          clear hm q1 q2 q3 o6 o7 hSL Hsk
          cases hh : (z.x.bg == s) with
          | true =>
            have heq : z.x.bg = s := by simpa using hh
            obtain ⟨p1, p2⟩ := hasB_snoc M z.x s hh
            have P1 := Lib.hid p1
            have P2 := Lib.hid p2
            rw [heq] at e7
            clear hh heq p1 p2
            go_wp2_with (at_builtin; refine wpList_append_src2 rfl _ _ 31 rfl 0 3 i3 (.int .i64 0) 1 8 Try.underlying31 hi hz0 hz1 hz2 rfl (by decide) (.slice aw nw cw) nw (vI (hasB M s)) rfl O6.out _ 1 _ rfl Hlit.out (by simp [Value.oneCell']) (by unfold maxLen; omega) (by omega) (by simp) ?_; intro v' w5 hown' hgr hid; obtain ⟨ao5, c5, hv5, _⟩ := Src.of_own hown'; rw [hv5])
            obtain ⟨hS5, hk5⟩ := Sep.push (Sep.ok (EP.ok _ _ _) (LQ.ok _ _)) HS.out.turn hnwr kL (by rw [← Hnw.out]) hown' hgr hid
            have hkr5 := Hkc.out.new hk5 (fun i hi => hi)
            rw [hv5] at hS5
            have l1 : (hasB M s ++ [z.x.who]).length = nw + 1 := by rw [List.length_append, ← Hnw.out]; rfl
            have L1 := Lib.hid l1
            clear l1
            go_roundw
            case rel => exact ⟨k + 1, M ++ [z.x], ao5, ar, c5, cr, by omega, by omega, by rw [P1.out, L1.out], by rw [P2.out, ← Hnr.out], by go_num, by omega, hon', hkr5, by rw [P1.out, P2.out, L1.out, ← Hnr.out]; exact hS5.turn⟩
            case measure => simp [intOf]; omega
          | false =>
            have hne : ¬ z.x.bg = s := by simpa using hh
            obtain ⟨p1, p2⟩ := restB_snoc M z.x s hh
            have P1 := Lib.hid p1
            have P2 := Lib.hid p2
            clear hh p1 p2
            go_wp2_with (at_builtin; refine wpList_append_src2 rfl _ _ 31 rfl 0 3 i3 (.int .i64 0) 1 8 Try.underlying31 hi hz0 hz1 hz2 rfl (by decide) (.slice ar nr cr) nr (vI (restB M s)) rfl O7.out _ 1 _ rfl Hlit.out (by simp [Value.oneCell']) (by unfold maxLen; omega) (by omega) (by simp) ?_; intro v' w5 hown' hgr hid; obtain ⟨ao5, c5, hv5, _⟩ := Src.of_own hown'; rw [hv5])
            obtain ⟨hS5, hk5⟩ := Sep.push (Sep.ok (EP.ok _ _ _) (LQ.ok _ _)) ((HS.out.inr (fun _ h => h.swap)).turn) hnwr kL (by rw [← Hnr.out]) hown' hgr hid
            have hkr5 := Hkc.out.new hk5 (fun i hi => hi)
            rw [hv5] at hS5
            have l1 : (restB M s ++ [z.x.who]).length = nr + 1 := by rw [List.length_append, ← Hnr.out]; rfl
            have L1 := Lib.hid l1
            clear l1
            go_roundw
            case rel => exact ⟨k + 1, M ++ [z.x], aw, ao5, cw, c5, by omega, by omega, by rw [P1.out, ← Hnw.out], by rw [P2.out, L1.out], by go_num, by omega, hon', hkr5, by rw [P1.out, P2.out, L1.out, ← Hnw.out]; exact hS5.turn.inr (fun _ h => h.swap)⟩
            case measure => simp [intOf]; omega
    · by_cases h3 : k < len
      · have h2' : ¬ ((k : Int) < 30) := by omega
        obtain ⟨P, hP⟩ : ∃ P, P = M.filter (fun x => !(x.bg == s)) := ⟨_, rfl⟩
        have hR : restB M s = P.map (fun x => x.who) := by rw [hP]; rfl
        have hPn : nr = P.length := by rw [Hnr.out, hR, List.length_map]
        have hPM : P.length ≤ M.length := by rw [hP]; exact List.length_filter_le _ _
        have hbE := badgeE_all M s
        rw [← hP] at hbE
        have hon2 : Once1 P := by rw [hP]; exact hon.out.filter _
        obtain ⟨sd, hsd⟩ : ∃ sd, sd = decide (0 < M.length) := ⟨_, rfl⟩
        have hsdP : ∀ x, x ∈ P → sd = true := fun x hx => by
          rw [hsd]
          have := List.length_pos_of_mem hx
          simp only [decide_eq_true_eq]
          omega
        rw [← hsd] at hbE hS
        rw [hR] at hS
        have HbE := Lib.hid hbE
        have HPn := Lib.hid hPn
        have HsdP := Lib.hid hsdP
        have Hon := Lib.hid hon2
        have hPl : P.length ≤ 900 := by omega
        have hM9 : M.length ≤ 900 := by omega
        clear hP hR hPn hPM hbE hon2 hsd hsdP hon Hnr hMk
        have hcall := badge_sep2 (Sep.ok (LQ.ok (.slice aw nw cw) (hasB M s)) (LQ.ok (.slice ar nr cr) (P.map (fun x => x.who)))) w.heap.size b sd M P (hasB M s) s wr hS hkr.size hM9 HbE.out wr (Kept.refl _ _)
        have Hcall := Lib.hid hcall
        clear hS hcall
        go_wp2_with fail
        refine Hcall.out.mono ?_
        rintro e w5 ⟨a8, c8, rfl, hown, hS5, hk5⟩
        have hkw := hkr.new hk5 (fun i hi => hi.1)
        rw [← Hnw.out] at hown
        rw [← Hnw.out]
        have s8 := Src.of_own hown
        obtain ⟨_, q1⟩ := Sep.any hS5
        obtain ⟨_, q2⟩ := Sep.one q1
        have s6 := Src.of_own q2.1
        rw [← Hnw.out] at s6
        have hnums := nums_any _ _ nw (hasB M s) w5 s8 s6 (by omega)
        have Hnums := Lib.hid hnums
        replace hS5 := hS5.inr (Q' := LQ (.slice ar nr cr) (P.map (fun x => x.who))) (fun _ h => let ⟨_, _, _, g2, _, g4⟩ := h; (LQ.ok _ _).mono g2 g4)
        clear hnums s8 s6 q1 q2 hown hk5 hkr Hcall HbE
        go_wp2_with fail
        refine Hnums.out.mono ?_
        rintro e w6 ⟨rfl, q6, rfl⟩
        have hS6 := (Sep.ok (EP.ok _ _ _) (LQ.ok _ _)).kept hS5 ((Kept.refl (fun _ => False) w5).drewN q6) (fun _ _ h => h)
        have hkw6 := hkw.drewN q6
        clear hS5 hkw Hnums
        go_wp2_with fail
        go_loopw [11] (fun i wr => ∃ k : Nat, k ≤ nr ∧ i = .int .i64 k ∧ New w wr ∧ Sep (EP b sd (left P k)) (LQ (.slice ar nr cr) (P.map (fun x => x.who))) (fun k => w.heap.size ≤ k) wr) (fun i _ => nr - (intOf i).toNat)
        case atStart => exact ⟨0, by omega, rfl, hkw6, by rw [left_zero]; exact hS6⟩
        case round =>
          clear hS6 hkw6
          obtain ⟨j, hj, rfl, hkr, hS⟩ := hrel
          by_cases h5 : j < nr
          · obtain ⟨x, hx⟩ : ∃ x, P[j]? = some x := ⟨_, List.getElem?_eq_getElem (by have := HPn.out; omega)⟩
            obtain ⟨_, q1⟩ := Sep.any hS
            obtain ⟨g, rfl, hc⟩ := LQ.at (y := x.who) q1 (by rw [List.length_map]; exact HPn.out) (j := j) (by rw [List.getElem?_map, hx]; rfl)
            have hlj := left_length P j
            rcases Nat.mod_two_eq_zero_or_one j with hp | hp
            · obtain ⟨f1, f2⟩ := left_even Hon.out hx hp
              have hcall := cancel_sep2 (LQ.ok (.slice (some ⟨g, 0, none⟩) nr cr) (P.map (fun x => x.who))) w.heap.size b sd (left P j) (left P (j + 1)) x.who true wr hS hkr.size (by omega) f1 (by simpa using f2) wr (Kept.refl _ _)
              have Hcall := Lib.hid hcall
              have hpz : Int.tmod (j : Int) 2 = 0 := by rw [Int.tmod_eq_emod_of_nonneg (by omega)]; omega
              clear hx q1 hcall hS hp f1 f2 hlj
              go_wp2_with fail
              refine Hcall.out.mono ?_
              rintro e w7 ⟨rfl, hS7, hk7⟩
              have hkr7 := hkr.new hk7 (fun i hi => hi.1)
              clear hk7 Hcall hc hpz
              go_wp2_with fail
              go_roundw
              case rel => exact ⟨j + 1, by omega, by go_num, hkr7, hS7⟩
              case measure => simp [intOf]; omega
            · have f1 := Lib.hid (left_odd hx hp)
              have hpz : Int.tmod (j : Int) 2 = 1 := by rw [Int.tmod_eq_emod_of_nonneg (by omega)]; omega
              clear hx q1 hp hlj
              go_wp2_with fail
              go_roundw
              case rel => exact ⟨j + 1, by omega, by go_num, hkr, by rw [f1.out]; exact hS⟩
              case measure => simp [intOf]; omega
          · have hS2 : Sep (EP b sd (odds P)) (LQ (.slice ar nr cr) (P.map (fun x => x.who))) (fun k => w.heap.size ≤ k) wr := by
              rw [show j = P.length by have := HPn.out; omega, left_all] at hS; exact hS
            have hkr2 := hkr
            clear hS hkr hj
            go_wp2_with fail
            go_loopw [12] (fun i wr => ∃ t j : Nat, Hid (j = 2 * t + 1) ∧ j ≤ nr + 1 ∧ i = .int .i64 j ∧ New w wr ∧ Sep (EP b sd ((odds P).drop t)) (LQ (.slice ar nr cr) (P.map (fun x => x.who))) (fun k => w.heap.size ≤ k) wr) (fun i _ => nr + 1 - (intOf i).toNat)
            case atStart => exact ⟨0, 1, rfl, by omega, rfl, hkr2, hS2⟩
            case round =>
              clear hS2 hkr2
              obtain ⟨t, j, hjt, hj, rfl, hkr, hS⟩ := hrel
              have hlo : ((odds P).drop t).length ≤ 900 := by rw [List.length_drop, odds_length]; omega
              by_cases h6 : j < nr
              · obtain ⟨x, hx⟩ : ∃ x, P[j]? = some x := ⟨_, List.getElem?_eq_getElem (by have := HPn.out; omega)⟩
                have hso : (odds P)[t]? = some x := by rw [odds_get, ← hjt.out]; exact hx
                have hsd : sd = true := HsdP.out x (List.mem_of_getElem? hx)
                have hdr := drop_at hso
                obtain ⟨_, q1⟩ := Sep.any hS
                obtain ⟨g, rfl, hc⟩ := LQ.at (y := x.who) q1 (by rw [List.length_map]; exact HPn.out) (j := j) (by rw [List.getElem?_map, hx]; rfl)
                rw [hdr] at hS hlo
                subst hsd
                have HS := Lib.hid hS
                have Hdr := Lib.hid hdr
                clear hx hso hdr hS q1
                have HC := Lib.hid (fun W' (hk : New w W') (hS' : Sep (EP b true (x :: (odds P).drop (t + 1))) (LQ (.slice (some ⟨g, 0, none⟩) nr cr) (P.map (fun x => x.who))) (fun k => w.heap.size ≤ k) W') => hS')
                by_cases hm : (x :: (odds P).drop (t + 1)).any (fun y => y.who == -7) = true
                · have hrE : recvE true (x :: (odds P).drop (t + 1)) ⟨-7, 0, 0, 0, 0, 0, 0, false⟩ false = ((false, 0, 0, on0, 110), true, x :: (odds P).drop (t + 1)) := by unfold recvE; rw [if_pos hm]
                  have hcall := recv_sep2 (LQ.ok (.slice (some ⟨g, 0, none⟩) nr cr) (P.map (fun x => x.who))) w.heap.size b true true false false _ _ ⟨-7, 0, 0, 0, 0, 0, 0, false⟩ on0 0 0 110 wr HS.out hkr.size (by omega) hrE wr (Kept.refl _ _)
                  have Hcall := Lib.hid hcall
                  clear hrE hcall hm hc HC
                  go_wp2_with fail
                  refine Hcall.out.mono ?_
                  rintro e w7 ⟨he, hS7, hk7⟩
                  simp only [metV, on0] at he
                  subst he
                  have hkr7 := hkr.new hk7 (fun i hi => hi.1)
                  have kT : New w7 (w7.alloc (blkT false 0 0 on0)) := (Kept.refl _ _).alloc _
                  have hS8 := (Sep.ok (EP.ok _ _ _) (LQ.ok _ _)).kept hS7 kT (fun _ _ h => h)
                  have hkr8 := hkr7.trans kT
                  obtain ⟨_, q1⟩ := Sep.any hS8
                  obtain ⟨g', hg', hc8⟩ := LQ.at (y := x.who) q1 (by rw [List.length_map]; exact HPn.out) (j := j) (by
                    have h9 := congrArg (fun l => l[0]?) Hdr.out
                    simp only [List.getElem?_drop, Nat.add_zero, List.getElem?_cons_zero, odds_get] at h9
                    rw [List.getElem?_map, hjt.out, h9]; rfl)
                  cases hg'
                  obtain ⟨t0, -, t1, -⟩ := of10 (heap_alloc_new w7 (blkT false 0 0 on0))
                  clear hk7 Hcall hS7 hkr7 q1 hS8
                  go_wp2_with fail
                  go_quiet (fail)
                  go_wp2_with fail
                  refine (fixed_any _).mono ?_
                  rintro e w11 ⟨rfl, hk11⟩
                  go_wp2_with fail
                  go_ret
                  exact ⟨rfl, none_below (hkr8.trans (((Kept.refl _ _).drewN _).trans hk11))⟩
                · have hrE : recvE true (x :: (odds P).drop (t + 1)) ⟨-7, 0, 0, 0, 0, 0, 0, false⟩ false = ((true, x.who, -7, x, 0), true, (odds P).drop (t + 1)) := by unfold recvE; rw [if_neg hm, if_pos ⟨rfl, by simp⟩]; rfl
                  have hcall := recv_sep2 (LQ.ok (.slice (some ⟨g, 0, none⟩) nr cr) (P.map (fun x => x.who))) w.heap.size b true true false true _ _ ⟨-7, 0, 0, 0, 0, 0, 0, false⟩ x x.who (-7) 0 wr HS.out hkr.size (by omega) hrE wr (Kept.refl _ _)
                  have Hcall := Lib.hid hcall
                  clear hrE hcall hm hc HC
                  go_wp2_with fail
                  refine Hcall.out.mono ?_
                  rintro e w7 ⟨he, hS7, hk7⟩
                  simp only [metV] at he
                  subst he
                  have hkr7 := hkr.new hk7 (fun i hi => hi.1)
                  have kT : New w7 (w7.alloc (blkT true x.who (-7) x)) := (Kept.refl _ _).alloc _
                  have hS8 := (Sep.ok (EP.ok _ _ _) (LQ.ok _ _)).kept hS7 kT (fun _ _ h => h)
                  have hkr8 := hkr7.trans kT
                  obtain ⟨_, q1⟩ := Sep.any hS8
                  obtain ⟨g', hg', hc8⟩ := LQ.at (y := x.who) q1 (by rw [List.length_map]; exact HPn.out) (j := j) (by
                    have h9 := congrArg (fun l => l[0]?) Hdr.out
                    simp only [List.getElem?_drop, Nat.add_zero, List.getElem?_cons_zero, odds_get] at h9
                    rw [List.getElem?_map, hjt.out, h9]; rfl)
                  cases hg'
                  obtain ⟨t0, -, t1, -⟩ := of10 (heap_alloc_new w7 (blkT true x.who (-7) x))
                  have HS8 := Lib.hid hS8
                  clear hk7 Hcall hS7 hkr7 q1 hS8
                  go_wp2_with fail
                  go_quiet (fail)
                  go_wp2_with fail
                  have hjt2 : Hid (j + 2 = 2 * (t + 1) + 1) := by have := hjt.out; show _ = _; omega
                  go_roundw
                  case rel => exact ⟨t + 1, j + 2, hjt2, by omega, by go_num, hkr8.trans ((Kept.refl _ _).drewN _), (Sep.ok (EP.ok _ _ _) (LQ.ok _ _)).kept HS8.out ((Kept.refl (fun _ => False) _).drewN _) (fun _ _ h => h)⟩
                  case measure => simp [intOf]; omega
              · have hnil : (odds P).drop t = [] := by
                  rw [List.drop_eq_nil_iff, odds_length]
                  have := hjt.out
                  have := HPn.out
                  omega
                rw [hnil] at hS
                have hrE : recvE sd [] ⟨-7, 0, 0, 0, 0, 0, 0, false⟩ false = ((false, 0, 0, on0, 0), sd, []) := by unfold recvE; simp
                have hcall := recv_sep2 (LQ.ok (.slice ar nr cr) (P.map (fun x => x.who))) w.heap.size b sd sd false false _ _ ⟨-7, 0, 0, 0, 0, 0, 0, false⟩ on0 0 0 0 wr hS hkr.size (by decide) hrE wr (Kept.refl _ _)
                have Hcall := Lib.hid hcall
                clear hrE hcall hS hnil
                go_wp2_with fail
                refine Hcall.out.mono ?_
                rintro e w7 ⟨he, hS7, hk7⟩
                simp only [metV, on0] at he
                subst he
                have hkr7 := hkr.new hk7 (fun i hi => hi.1)
                have kT : New w7 (w7.alloc (blkT false 0 0 on0)) := (Kept.refl _ _).alloc _
                have hkr8 := hkr7.trans kT
                obtain ⟨t0, -⟩ := of10 (heap_alloc_new w7 (blkT false 0 0 on0))
                clear hk7 Hcall hS7 hkr7
                go_wp2_with fail
                refine (fixed_any _).mono ?_
                rintro e w11 ⟨rfl, hk11⟩
                go_wp2_with fail
                go_ret
                exact ⟨rfl, none_below (hkr8.trans hk11)⟩
      · have h3' : ¬ ((k : Int) < len) := by omega
        obtain ⟨P, hP⟩ : ∃ P, P = M.filter (fun x => !(x.bg == s)) := ⟨_, rfl⟩
        have hR : restB M s = P.map (fun x => x.who) := by rw [hP]; rfl
        have hPn : nr = P.length := by rw [Hnr.out, hR, List.length_map]
        have hPM : P.length ≤ M.length := by rw [hP]; exact List.length_filter_le _ _
        have hbE := badgeE_all M s
        rw [← hP] at hbE
        have hon2 : Once1 P := by rw [hP]; exact hon.out.filter _
        obtain ⟨sd, hsd⟩ : ∃ sd, sd = decide (0 < M.length) := ⟨_, rfl⟩
        have hsdP : ∀ x, x ∈ P → sd = true := fun x hx => by
          rw [hsd]
          have := List.length_pos_of_mem hx
          simp only [decide_eq_true_eq]
          omega
        rw [← hsd] at hbE hS
        rw [hR] at hS
        have HbE := Lib.hid hbE
        have HPn := Lib.hid hPn
        have HsdP := Lib.hid hsdP
        have Hon := Lib.hid hon2
        have hPl : P.length ≤ 900 := by omega
        have hM9 : M.length ≤ 900 := by omega
        clear hP hR hPn hPM hbE hon2 hsd hsdP hon Hnr hMk
        have hcall := badge_sep2 (Sep.ok (LQ.ok (.slice aw nw cw) (hasB M s)) (LQ.ok (.slice ar nr cr) (P.map (fun x => x.who)))) w.heap.size b sd M P (hasB M s) s wr hS hkr.size hM9 HbE.out wr (Kept.refl _ _)
        have Hcall := Lib.hid hcall
        clear hS hcall
        go_wp2_with fail
        refine Hcall.out.mono ?_
        rintro e w5 ⟨a8, c8, rfl, hown, hS5, hk5⟩
        have hkw := hkr.new hk5 (fun i hi => hi.1)
        rw [← Hnw.out] at hown
        rw [← Hnw.out]
        have s8 := Src.of_own hown
        obtain ⟨_, q1⟩ := Sep.any hS5
        obtain ⟨_, q2⟩ := Sep.one q1
        have s6 := Src.of_own q2.1
        rw [← Hnw.out] at s6
        have hnums := nums_any _ _ nw (hasB M s) w5 s8 s6 (by omega)
        have Hnums := Lib.hid hnums
        replace hS5 := hS5.inr (Q' := LQ (.slice ar nr cr) (P.map (fun x => x.who))) (fun _ h => let ⟨_, _, _, g2, _, g4⟩ := h; (LQ.ok _ _).mono g2 g4)
        clear hnums s8 s6 q1 q2 hown hk5 hkr Hcall HbE
        go_wp2_with fail
        refine Hnums.out.mono ?_
        rintro e w6 ⟨rfl, q6, rfl⟩
        have hS6 := (Sep.ok (EP.ok _ _ _) (LQ.ok _ _)).kept hS5 ((Kept.refl (fun _ => False) w5).drewN q6) (fun _ _ h => h)
        have hkw6 := hkw.drewN q6
        clear hS5 hkw Hnums
        go_wp2_with fail
        go_loopw [11] (fun i wr => ∃ k : Nat, k ≤ nr ∧ i = .int .i64 k ∧ New w wr ∧ Sep (EP b sd (left P k)) (LQ (.slice ar nr cr) (P.map (fun x => x.who))) (fun k => w.heap.size ≤ k) wr) (fun i _ => nr - (intOf i).toNat)
        case atStart => exact ⟨0, by omega, rfl, hkw6, by rw [left_zero]; exact hS6⟩
        case round =>
          clear hS6 hkw6
          obtain ⟨j, hj, rfl, hkr, hS⟩ := hrel
          by_cases h5 : j < nr
          · obtain ⟨x, hx⟩ : ∃ x, P[j]? = some x := ⟨_, List.getElem?_eq_getElem (by have := HPn.out; omega)⟩
            obtain ⟨_, q1⟩ := Sep.any hS
            obtain ⟨g, rfl, hc⟩ := LQ.at (y := x.who) q1 (by rw [List.length_map]; exact HPn.out) (j := j) (by rw [List.getElem?_map, hx]; rfl)
            have hlj := left_length P j
            rcases Nat.mod_two_eq_zero_or_one j with hp | hp
            · obtain ⟨f1, f2⟩ := left_even Hon.out hx hp
              have hcall := cancel_sep2 (LQ.ok (.slice (some ⟨g, 0, none⟩) nr cr) (P.map (fun x => x.who))) w.heap.size b sd (left P j) (left P (j + 1)) x.who true wr hS hkr.size (by omega) f1 (by simpa using f2) wr (Kept.refl _ _)
              have Hcall := Lib.hid hcall
              have hpz : Int.tmod (j : Int) 2 = 0 := by rw [Int.tmod_eq_emod_of_nonneg (by omega)]; omega
              clear hx q1 hcall hS hp f1 f2 hlj
              go_wp2_with fail
              refine Hcall.out.mono ?_
              rintro e w7 ⟨rfl, hS7, hk7⟩
              have hkr7 := hkr.new hk7 (fun i hi => hi.1)
              clear hk7 Hcall hc hpz
              go_wp2_with fail
              go_roundw
              case rel => exact ⟨j + 1, by omega, by go_num, hkr7, hS7⟩
              case measure => simp [intOf]; omega
            · have f1 := Lib.hid (left_odd hx hp)
              have hpz : Int.tmod (j : Int) 2 = 1 := by rw [Int.tmod_eq_emod_of_nonneg (by omega)]; omega
              clear hx q1 hp hlj
              go_wp2_with fail
              go_roundw
              case rel => exact ⟨j + 1, by omega, by go_num, hkr, by rw [f1.out]; exact hS⟩
              case measure => simp [intOf]; omega
          · have hS2 : Sep (EP b sd (odds P)) (LQ (.slice ar nr cr) (P.map (fun x => x.who))) (fun k => w.heap.size ≤ k) wr := by
              rw [show j = P.length by have := HPn.out; omega, left_all] at hS; exact hS
            have hkr2 := hkr
            clear hS hkr hj
            go_wp2_with fail
            go_loopw [12] (fun i wr => ∃ t j : Nat, Hid (j = 2 * t + 1) ∧ j ≤ nr + 1 ∧ i = .int .i64 j ∧ New w wr ∧ Sep (EP b sd ((odds P).drop t)) (LQ (.slice ar nr cr) (P.map (fun x => x.who))) (fun k => w.heap.size ≤ k) wr) (fun i _ => nr + 1 - (intOf i).toNat)
            case atStart => exact ⟨0, 1, rfl, by omega, rfl, hkr2, hS2⟩
            case round =>
              clear hS2 hkr2
              obtain ⟨t, j, hjt, hj, rfl, hkr, hS⟩ := hrel
              have hlo : ((odds P).drop t).length ≤ 900 := by rw [List.length_drop, odds_length]; omega
              by_cases h6 : j < nr
              · obtain ⟨x, hx⟩ : ∃ x, P[j]? = some x := ⟨_, List.getElem?_eq_getElem (by have := HPn.out; omega)⟩
                have hso : (odds P)[t]? = some x := by rw [odds_get, ← hjt.out]; exact hx
                have hsd : sd = true := HsdP.out x (List.mem_of_getElem? hx)
                have hdr := drop_at hso
                obtain ⟨_, q1⟩ := Sep.any hS
                obtain ⟨g, rfl, hc⟩ := LQ.at (y := x.who) q1 (by rw [List.length_map]; exact HPn.out) (j := j) (by rw [List.getElem?_map, hx]; rfl)
                rw [hdr] at hS hlo
                subst hsd
                have HS := Lib.hid hS
                have Hdr := Lib.hid hdr
                clear hx hso hdr hS q1
                have HC := Lib.hid (fun W' (hk : New w W') (hS' : Sep (EP b true (x :: (odds P).drop (t + 1))) (LQ (.slice (some ⟨g, 0, none⟩) nr cr) (P.map (fun x => x.who))) (fun k => w.heap.size ≤ k) W') => hS')
                by_cases hm : (x :: (odds P).drop (t + 1)).any (fun y => y.who == -7) = true
                · have hrE : recvE true (x :: (odds P).drop (t + 1)) ⟨-7, 0, 0, 0, 0, 0, 0, false⟩ false = ((false, 0, 0, on0, 110), true, x :: (odds P).drop (t + 1)) := by unfold recvE; rw [if_pos hm]
                  have hcall := recv_sep2 (LQ.ok (.slice (some ⟨g, 0, none⟩) nr cr) (P.map (fun x => x.who))) w.heap.size b true true false false _ _ ⟨-7, 0, 0, 0, 0, 0, 0, false⟩ on0 0 0 110 wr HS.out hkr.size (by omega) hrE wr (Kept.refl _ _)
                  have Hcall := Lib.hid hcall
                  clear hrE hcall hm hc HC
                  go_wp2_with fail
                  refine Hcall.out.mono ?_
                  rintro e w7 ⟨he, hS7, hk7⟩
                  simp only [metV, on0] at he
                  subst he
                  have hkr7 := hkr.new hk7 (fun i hi => hi.1)
                  have kT : New w7 (w7.alloc (blkT false 0 0 on0)) := (Kept.refl _ _).alloc _
                  have hS8 := (Sep.ok (EP.ok _ _ _) (LQ.ok _ _)).kept hS7 kT (fun _ _ h => h)
                  have hkr8 := hkr7.trans kT
                  obtain ⟨_, q1⟩ := Sep.any hS8
                  obtain ⟨g', hg', hc8⟩ := LQ.at (y := x.who) q1 (by rw [List.length_map]; exact HPn.out) (j := j) (by
                    have h9 := congrArg (fun l => l[0]?) Hdr.out
                    simp only [List.getElem?_drop, Nat.add_zero, List.getElem?_cons_zero, odds_get] at h9
                    rw [List.getElem?_map, hjt.out, h9]; rfl)
                  cases hg'
                  obtain ⟨t0, -, t1, -⟩ := of10 (heap_alloc_new w7 (blkT false 0 0 on0))
                  clear hk7 Hcall hS7 hkr7 q1 hS8
                  go_wp2_with fail
                  go_quiet (fail)
                  go_wp2_with fail
                  refine (fixed_any _).mono ?_
                  rintro e w11 ⟨rfl, hk11⟩
                  go_wp2_with fail
                  go_ret
                  exact ⟨rfl, none_below (hkr8.trans (((Kept.refl _ _).drewN _).trans hk11))⟩
                · have hrE : recvE true (x :: (odds P).drop (t + 1)) ⟨-7, 0, 0, 0, 0, 0, 0, false⟩ false = ((true, x.who, -7, x, 0), true, (odds P).drop (t + 1)) := by unfold recvE; rw [if_neg hm, if_pos ⟨rfl, by simp⟩]; rfl
                  have hcall := recv_sep2 (LQ.ok (.slice (some ⟨g, 0, none⟩) nr cr) (P.map (fun x => x.who))) w.heap.size b true true false true _ _ ⟨-7, 0, 0, 0, 0, 0, 0, false⟩ x x.who (-7) 0 wr HS.out hkr.size (by omega) hrE wr (Kept.refl _ _)
                  have Hcall := Lib.hid hcall
                  clear hrE hcall hm hc HC
                  go_wp2_with fail
                  refine Hcall.out.mono ?_
                  rintro e w7 ⟨he, hS7, hk7⟩
                  simp only [metV] at he
                  subst he
                  have hkr7 := hkr.new hk7 (fun i hi => hi.1)
                  have kT : New w7 (w7.alloc (blkT true x.who (-7) x)) := (Kept.refl _ _).alloc _
                  have hS8 := (Sep.ok (EP.ok _ _ _) (LQ.ok _ _)).kept hS7 kT (fun _ _ h => h)
                  have hkr8 := hkr7.trans kT
                  obtain ⟨_, q1⟩ := Sep.any hS8
                  obtain ⟨g', hg', hc8⟩ := LQ.at (y := x.who) q1 (by rw [List.length_map]; exact HPn.out) (j := j) (by
                    have h9 := congrArg (fun l => l[0]?) Hdr.out
                    simp only [List.getElem?_drop, Nat.add_zero, List.getElem?_cons_zero, odds_get] at h9
                    rw [List.getElem?_map, hjt.out, h9]; rfl)
                  cases hg'
                  obtain ⟨t0, -, t1, -⟩ := of10 (heap_alloc_new w7 (blkT true x.who (-7) x))
                  have HS8 := Lib.hid hS8
                  clear hk7 Hcall hS7 hkr7 q1 hS8
                  go_wp2_with fail
                  go_quiet (fail)
                  go_wp2_with fail
                  have hjt2 : Hid (j + 2 = 2 * (t + 1) + 1) := by have := hjt.out; show _ = _; omega
                  go_roundw
                  case rel => exact ⟨t + 1, j + 2, hjt2, by omega, by go_num, hkr8.trans ((Kept.refl _ _).drewN _), (Sep.ok (EP.ok _ _ _) (LQ.ok _ _)).kept HS8.out ((Kept.refl (fun _ => False) _).drewN _) (fun _ _ h => h)⟩
                  case measure => simp [intOf]; omega
              · have hnil : (odds P).drop t = [] := by
                  rw [List.drop_eq_nil_iff, odds_length]
                  have := hjt.out
                  have := HPn.out
                  omega
                rw [hnil] at hS
                have hrE : recvE sd [] ⟨-7, 0, 0, 0, 0, 0, 0, false⟩ false = ((false, 0, 0, on0, 0), sd, []) := by unfold recvE; simp
                have hcall := recv_sep2 (LQ.ok (.slice ar nr cr) (P.map (fun x => x.who))) w.heap.size b sd sd false false _ _ ⟨-7, 0, 0, 0, 0, 0, 0, false⟩ on0 0 0 0 wr hS hkr.size (by decide) hrE wr (Kept.refl _ _)
                have Hcall := Lib.hid hcall
                clear hrE hcall hS hnil
                go_wp2_with fail
                refine Hcall.out.mono ?_
                rintro e w7 ⟨he, hS7, hk7⟩
                simp only [metV, on0] at he
                subst he
                have hkr7 := hkr.new hk7 (fun i hi => hi.1)
                have kT : New w7 (w7.alloc (blkT false 0 0 on0)) := (Kept.refl _ _).alloc _
                have hkr8 := hkr7.trans kT
                obtain ⟨t0, -⟩ := of10 (heap_alloc_new w7 (blkT false 0 0 on0))
                clear hk7 Hcall hS7 hkr7
                go_wp2_with fail
                refine (fixed_any _).mono ?_
                rintro e w11 ⟨rfl, hk11⟩
                go_wp2_with fail
                go_ret
                exact ⟨rfl, none_below (hkr8.trans hk11)⟩
end Go.Proofs.Ytanongcaokldmaa

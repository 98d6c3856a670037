/- The walk of the law EndpointApart. -/
import Derived.Test.YtanongcaokldmaaEndK
set_option linter.all false
namespace Go.Proofs.Ytanongcaokldmaa
open Go.RowKit

set_option maxRecDepth 100000 in
set_option maxHeartbeats 8000000 in
theorem walkEndpointApart (w : World) (v : Value) (rows : List (List Value)) (hs : Src w v rows.length 10 rows.flatten) (hr : ∀ x ∈ rows, FlatOk [.int .i64, .int .i64, .int .i64, .int .u64, .int .u64, .int .u64, .int .u64, .int .u64, .bool, .bool] x) (hm : rows.length ≤ maxLen) (cs : List Value) (hc : FlatOk [.int .i64, .int .i64, .int .i64, .int .u64, .int .u64, .int .u64, .int .u64, .int .u64, .bool, .bool] cs) :
    Calls Try.prog 9 #[v, .agg cs.toArray] w fun e w' => e = .returned (.bool true) ∧ Below w.heap.size w w' := by
  obtain ⟨o, rfl, -⟩ := opr_of_flat hc
  clear hc
  obtain ⟨L, hfl, hll, -⟩ := ops_of_rows hr
  rw [hfl] at hs
  obtain ⟨len, hlen⟩ : ∃ len, len = rows.length := ⟨_, rfl⟩
  rw [← hlen] at hs hm hll
  clear hr hfl hlen
  have hk0 : New w (w.alloc (blkP o)) := (Kept.refl _ _).alloc _
  obtain ⟨W, hW⟩ : ∃ W, W = w.alloc (blkP o) := ⟨_, rfl⟩
  obtain ⟨qm, hqm⟩ : ∃ qm, qm = w.heap.size := ⟨_, rfl⟩
  have hM0 : W.heap[qm]? = some (blkP o) := by rw [hW, hqm]; exact heap_alloc_new _ _
  have hqW : qm < W.heap.size := lt_of_heap hM0
  rw [← hW] at hk0
  have Hk0 := Lib.hid hk0
  have Hqm := Lib.hid hqm
  have Hs := Lib.hid (hs.same hk0)
  obtain ⟨-, ao, c, rfl, hcells⟩ := Src.ops hs
  have Hll := Lib.hid hll
  have hlenm : len ≤ 9223372036854775807 := by have : maxLen = 9223372036854775807 := rfl; omega
  have HW := Lib.hid hW
  have HM0 := Lib.hid hM0
  clear hs hll hcells hm hW hk0 hqm hM0
  show Calls Try.prog 9 #[.slice ao len c, .agg #[.int .i64 o.kind, .int .i64 o.x.who, .int .i64 o.x.la, .int .u64 o.x.w0, .int .u64 o.x.w1, .int .u64 o.x.w2, .int .u64 o.x.w3, .int .u64 o.x.bg, .bool o.x.ca, .bool o.wa]] w _
  go_enter Try.func9, Try.ntmps9
  go_wp2_with fail
  have hW2 := HW.out
  simp only [blkP] at hW2
  rw [← hW2, ← Hqm.out]
  clear hW2
  refine (new_any W).mono ?_
  rintro e w1 ⟨rfl, hN, hk1⟩
  obtain ⟨b, hb⟩ : ∃ b, b = W.heap.size := ⟨_, rfl⟩
  have hN1 : Ep (fun k => W.heap.size ≤ k) w1 b false [] := by rw [hb]; exact hN
  rw [← hb]
  clear hb hN
  go_wp2_with fail
  go_loopw [6] (fun i wr => ∃ (k : Nat) (sd : Bool) (M : List On), k ≤ 30 ∧ k ≤ len ∧ i = .int .i64 k ∧ M.length ≤ k ∧ New W wr ∧ Ep (fun k => W.heap.size ≤ k) wr b sd M) (fun i _ => 30 - (intOf i).toNat)
  case atStart => exact ⟨0, false, [], by omega, by omega, rfl, by simp, hk1, hN1⟩
  case round =>
    clear hN1 hk1
    obtain ⟨k, sd, M, hk6, hk, rfl, hMk, hkr, hN⟩ := hrel
    by_cases h1 : k < len ∧ k < 30
    · obtain ⟨h1, h2⟩ := h1
      have h2' : (k : Int) < 30 := by omega
      obtain ⟨z, hz⟩ : ∃ z, L[k]? = some z := ⟨_, List.getElem?_eq_getElem (by have := Hll.out; omega)⟩
      obtain ⟨ao', c', he, hcl⟩ := (Src.ops Hs.out).2
      cases he
      obtain ⟨B, Of, rfl, c0, c1, c2, c3, c4, c5, c6, c7, c8, c9⟩ := hcl k z hz
      have hsk : ∀ W', New W W' → W'.cell? ⟨B, Of + k * 10 + 1, none⟩ = some (.int .i64 z.x.who) ∧ W'.cell? ⟨B, Of + k * 10 + 2, none⟩ = some (.int .i64 z.x.la) ∧ W'.cell? ⟨B, Of + k * 10 + 3, none⟩ = some (.int .u64 z.x.w0) ∧ W'.cell? ⟨B, Of + k * 10 + 4, none⟩ = some (.int .u64 z.x.w1) ∧ W'.cell? ⟨B, Of + k * 10 + 5, none⟩ = some (.int .u64 z.x.w2) ∧ W'.cell? ⟨B, Of + k * 10 + 6, none⟩ = some (.int .u64 z.x.w3) ∧ W'.cell? ⟨B, Of + k * 10 + 7, none⟩ = some (.int .u64 z.x.bg) ∧ W'.cell? ⟨B, Of + k * 10 + 8, none⟩ = some (.bool z.x.ca) ∧ W'.cell? ⟨B, Of + k * 10 + 9, none⟩ = some (.bool z.wa) := fun W' hk => ⟨cell_kept hk c1 (fun h => h), cell_kept hk c2 (fun h => h), cell_kept hk c3 (fun h => h), cell_kept hk c4 (fun h => h), cell_kept hk c5 (fun h => h), cell_kept hk c6 (fun h => h), cell_kept hk c7 (fun h => h), cell_kept hk c8 (fun h => h), cell_kept hk c9 (fun h => h)⟩
      have Hsk := Lib.hid hsk
      obtain ⟨⟨⟨m1, m2, m3, m4, er⟩, sd', M'⟩, hsE⟩ : ∃ r, sendE sd M z.x z.wa = r := ⟨_, rfl⟩
      have hM' := sendE_length hsE
      have hd1 : New wr wr.drew := (Kept.refl _ _).drew
      have hkrd := hkr.trans hd1
      have hcall := send_st b sd sd' z.wa m1 M M' z.x m4 m2 m3 er wr.drew (hN.same hd1) (by omega) hsE
      have Hcall := Lib.hid hcall
      clear hcl hz hsk hsE c0 c1 c2 c3 c4 c5 c6 c7 c8 c9 hcall
      go_wp2_with fail
      go_region_held3 (fun W' => W'.cell? ⟨B, Of + k * 10 + 1, none⟩ = some (.int .i64 z.x.who) ∧ W'.cell? ⟨B, Of + k * 10 + 2, none⟩ = some (.int .i64 z.x.la) ∧ W'.cell? ⟨B, Of + k * 10 + 3, none⟩ = some (.int .u64 z.x.w0) ∧ W'.cell? ⟨B, Of + k * 10 + 4, none⟩ = some (.int .u64 z.x.w1) ∧ W'.cell? ⟨B, Of + k * 10 + 5, none⟩ = some (.int .u64 z.x.w2) ∧ W'.cell? ⟨B, Of + k * 10 + 6, none⟩ = some (.int .u64 z.x.w3) ∧ W'.cell? ⟨B, Of + k * 10 + 7, none⟩ = some (.int .u64 z.x.bg) ∧ W'.cell? ⟨B, Of + k * 10 + 8, none⟩ = some (.bool z.x.ca) ∧ W'.cell? ⟨B, Of + k * 10 + 9, none⟩ = some (.bool z.wa)) (first | with_reducible exact Hsk.out _ hkr3 | with_reducible exact Hsk.out _ hkrd)
        (first | (go_at_call 12; refine Hcall.out.mono ?_; rintro e w3 ⟨rfl, hN3, hk3⟩; have hkr3 := hkrd.new hk3 (fun i hi => hi)))
      all_goals have hN3' := Ep.mono (O' := fun k => W.heap.size ≤ k) hN3 (fun i h => h.elim id (fun h => Nat.le_trans hkr.size h))
      all_goals clear hN3 hk3 hN Hcall Hsk
      all_goals go_wp2_with fail
      all_goals go_roundw
      case rel => exact ⟨k + 1, sd', M', by omega, by omega, by go_num, by omega, hkr3, hN3'⟩
      case measure => simp [intOf]; omega
    · by_cases h3 : k < len
      · have h2' : ¬ ((k : Int) < 30) := by omega
        go_wp2_with fail
        refine (copy_any b sd M _ hN (by omega)).mono ?_
        rintro e w4 ⟨b', rfl, -, hN4, hk4⟩
        have hS := Sep.fresh (N := EP b' sd M) (EP.ok b sd M) (show EP b sd M (fun k => W.heap.size ≤ k) _ from hN) hN4 hk4 (fun k hk => Nat.le_trans hkr.size hk)
        have hkw := hkr.trans hk4
        clear hN hN4 hk4 hkr
        obtain ⟨r, hr⟩ : ∃ r, r = (sd && decide (0 < M.length)) := ⟨_, rfl⟩
        have Hr := Lib.hid hr
        obtain ⟨F, hF⟩ : ∃ F, F = M.map (fun x => x.who) := ⟨_, rfl⟩
        have HF := Lib.hid hF
        have hFM : F.length = M.length := by rw [hF, List.length_map]
        obtain ⟨mF, hmF⟩ : ∃ mF, mF = F.length := ⟨_, rfl⟩
        have HmF := Lib.hid hmF
        have hmF30 : mF ≤ 30 := by omega
        have HFM := Lib.hid hFM
        clear hr hF hmF hFM
        obtain ⟨_, hn⟩ := Sep.one hS
        go_wp2_with fail
        refine (waits_any b' sd r M _ hn (by omega) Hr.out).mono ?_
        rintro e w5 ⟨v5, rfl, hown, hkx⟩
        rw [← HF.out, ← HFM.out] at hown
        obtain ⟨ao5, c5, hv5, -⟩ := Src.of_own hown
        replace hS := Sep.fresh (N := LQ v5 F) (Sep.ok (EP.ok _ _ _) (EP.ok _ _ _)) hS (LQ.fresh hown) hkx (fun k hk => Nat.le_trans hkw.size hk)
        replace hS := (hS.inr (fun _ h => h.swap)).turn
        replace hkw := hkw.trans hkx
        rw [← HmF.out] at hv5
        subst hv5
        clear hown hkx hn
        obtain ⟨⟨⟨m1, m2, m3, m4, er⟩, sd1, M1⟩, hrE⟩ : ∃ r, recvE sd M ⟨1099511627776, 0, 0, 0, 0, 0, 0, false⟩ false = r := ⟨_, rfl⟩
        have hM1 := recvE_length hrE
        have HrE := Lib.hid hrE
        clear hrE
        obtain ⟨O1, O2, h1, h2, h3, h4⟩ := hS
        have H2 := Lib.hid h2
        have H3 := Lib.hid h3
        have H4 := Lib.hid h4
        clear h2 h3 h4
        go_wp2_with fail
        refine (recv_st b sd sd1 false m1 M M1 ⟨1099511627776, 0, 0, 0, 0, 0, 0, false⟩ m4 m2 m3 er _ h1 (by omega) HrE.out).mono ?_
        rintro e w6 ⟨rfl, hA, hkx⟩
        obtain ⟨hS, hkst⟩ := Sep.step (P' := EP b sd1 M1) (Sep.ok (LQ.ok _ _) (EP.ok _ _ _)) H2.out H3.out H4.out hA hkx (fun k hk9 => Nat.le_trans hkw.size hk9)
        replace hkw := hkw.new hkst (fun i hi => hi)
        clear hA hkx hkst h1 H2 H3 H4
        clear HrE
        obtain ⟨M2, hM2⟩ : ∃ M2, M1.filter (fun x => !(x.who == o.x.who)) = M2 := ⟨_, rfl⟩
        have hM2l : M2.length ≤ M1.length := by rw [← hM2]; exact List.length_filter_le _ _
        have HM2 := Lib.hid hM2
        obtain ⟨r2, hr2⟩ : ∃ r2, r2 = decide (M2.length < M1.length) := ⟨_, rfl⟩
        have Hr2 := Lib.hid hr2
        have x1 := cell_blk (hkw.heap HM0.out (fun h => h)) 1
        clear hM2 hr2
        obtain ⟨O1, O2, h1, h2, h3, h4⟩ := hS
        have H2 := Lib.hid h2
        have H3 := Lib.hid h3
        have H4 := Lib.hid h4
        clear h2 h3 h4
        go_wp2_with fail
        refine (cancel_any b sd1 M1 M2 o.x.who r2 _ h1 (by omega) HM2.out Hr2.out).mono ?_
        rintro e w7 ⟨rfl, hA, hkx⟩
        obtain ⟨hS, hkst⟩ := Sep.step (P' := EP b sd1 M2) (Sep.ok (LQ.ok _ _) (EP.ok _ _ _)) H2.out H3.out H4.out (Ep.mono hA (fun _ h => .inl h)) hkx (fun k hk9 => Nat.le_trans hkw.size hk9)
        replace hkw := hkw.new hkst (fun i hi => hi)
        clear hA hkx hkst h1 H2 H3 H4
        clear HM2 Hr2 x1
        obtain ⟨⟨F3, M3⟩, hbE⟩ : ∃ r, badgeE sd1 M2 o.x.bg = r := ⟨_, rfl⟩
        have HbE := Lib.hid hbE
        have x1 := cell_blk (hkw.heap HM0.out (fun h => h)) 7
        clear hbE
        obtain ⟨O1, O2, h1, h2, h3, h4⟩ := hS
        have H2 := Lib.hid h2
        have H3 := Lib.hid h3
        have H4 := Lib.hid h4
        clear h2 h3 h4
        go_wp2_with fail
        refine (badge_any b sd1 M2 M3 F3 o.x.bg _ h1 (by omega) HbE.out).mono ?_
        rintro e w8 ⟨v8, rfl, -, -, hA, hkx⟩
        obtain ⟨hS, hkst⟩ := Sep.step (P' := EP b sd1 M3) (Sep.ok (LQ.ok _ _) (EP.ok _ _ _)) H2.out H3.out H4.out (Ep.mono hA (fun _ h => .inl h.1)) hkx (fun k hk9 => Nat.le_trans hkw.size hk9)
        replace hkw := hkw.new hkst (fun i hi => hi)
        clear hA hkx hkst h1 H2 H3 H4
        clear HbE x1
        obtain ⟨_, hn⟩ := Sep.any hS
        obtain ⟨_, hn⟩ := Sep.any hn
        go_wp2_with fail
        refine (waits_any b' sd r M _ hn (by omega) Hr.out).mono ?_
        rintro e w9 ⟨v9, rfl, hown, hkx⟩
        rw [← HF.out, ← HFM.out] at hown
        obtain ⟨ao9, c9, hv9, -⟩ := Src.of_own hown
        obtain ⟨_, hl⟩ := Sep.any hS
        obtain ⟨_, hl⟩ := Sep.one hl
        have hs5 := Src.of_own ((LQ.ok _ _).kept hl hkx (fun _ _ h => h)).1
        have hs9 := Src.of_own hown
        rw [← HmF.out] at hv9 hs5 hs9
        subst hv9
        have hnums := nums_any _ _ mF F w9 hs5 hs9 (by omega)
        have Hnums := Lib.hid hnums
        have hkw9 := hkw.trans hkx
        clear hnums hs5 hs9 hl hown hkx hS hkw hn Hr HF HFM HmF
        cases r
        all_goals go_wp2_with fail
        all_goals refine Hnums.out.mono ?_
        all_goals rintro e w10 ⟨rfl, q10, rfl⟩
        all_goals go_wp2_with fail
        all_goals refine (fixed_any _).mono ?_
        all_goals rintro e w11 ⟨rfl, hk11⟩
        all_goals go_wp2_with fail
        all_goals go_ret
        all_goals exact ⟨rfl, none_below (Hk0.out.trans ((hkw9.drewN _).trans hk11))⟩
      · have h3' : ¬ ((k : Int) < len) := by omega
        go_wp2_with fail
        refine (copy_any b sd M _ hN (by omega)).mono ?_
        rintro e w4 ⟨b', rfl, -, hN4, hk4⟩
        have hS := Sep.fresh (N := EP b' sd M) (EP.ok b sd M) (show EP b sd M (fun k => W.heap.size ≤ k) _ from hN) hN4 hk4 (fun k hk => Nat.le_trans hkr.size hk)
        have hkw := hkr.trans hk4
        clear hN hN4 hk4 hkr
        obtain ⟨r, hr⟩ : ∃ r, r = (sd && decide (0 < M.length)) := ⟨_, rfl⟩
        have Hr := Lib.hid hr
        obtain ⟨F, hF⟩ : ∃ F, F = M.map (fun x => x.who) := ⟨_, rfl⟩
        have HF := Lib.hid hF
        have hFM : F.length = M.length := by rw [hF, List.length_map]
        obtain ⟨mF, hmF⟩ : ∃ mF, mF = F.length := ⟨_, rfl⟩
        have HmF := Lib.hid hmF
        have hmF30 : mF ≤ 30 := by omega
        have HFM := Lib.hid hFM
        clear hr hF hmF hFM
        obtain ⟨_, hn⟩ := Sep.one hS
        go_wp2_with fail
        refine (waits_any b' sd r M _ hn (by omega) Hr.out).mono ?_
        rintro e w5 ⟨v5, rfl, hown, hkx⟩
        rw [← HF.out, ← HFM.out] at hown
        obtain ⟨ao5, c5, hv5, -⟩ := Src.of_own hown
        replace hS := Sep.fresh (N := LQ v5 F) (Sep.ok (EP.ok _ _ _) (EP.ok _ _ _)) hS (LQ.fresh hown) hkx (fun k hk => Nat.le_trans hkw.size hk)
        replace hS := (hS.inr (fun _ h => h.swap)).turn
        replace hkw := hkw.trans hkx
        rw [← HmF.out] at hv5
        subst hv5
        clear hown hkx hn
        obtain ⟨⟨⟨m1, m2, m3, m4, er⟩, sd1, M1⟩, hrE⟩ : ∃ r, recvE sd M ⟨1099511627776, 0, 0, 0, 0, 0, 0, false⟩ false = r := ⟨_, rfl⟩
        have hM1 := recvE_length hrE
        have HrE := Lib.hid hrE
        clear hrE
        obtain ⟨O1, O2, h1, h2, h3, h4⟩ := hS
        have H2 := Lib.hid h2
        have H3 := Lib.hid h3
        have H4 := Lib.hid h4
        clear h2 h3 h4
        go_wp2_with fail
        refine (recv_st b sd sd1 false m1 M M1 ⟨1099511627776, 0, 0, 0, 0, 0, 0, false⟩ m4 m2 m3 er _ h1 (by omega) HrE.out).mono ?_
        rintro e w6 ⟨rfl, hA, hkx⟩
        obtain ⟨hS, hkst⟩ := Sep.step (P' := EP b sd1 M1) (Sep.ok (LQ.ok _ _) (EP.ok _ _ _)) H2.out H3.out H4.out hA hkx (fun k hk9 => Nat.le_trans hkw.size hk9)
        replace hkw := hkw.new hkst (fun i hi => hi)
        clear hA hkx hkst h1 H2 H3 H4
        clear HrE
        obtain ⟨M2, hM2⟩ : ∃ M2, M1.filter (fun x => !(x.who == o.x.who)) = M2 := ⟨_, rfl⟩
        have hM2l : M2.length ≤ M1.length := by rw [← hM2]; exact List.length_filter_le _ _
        have HM2 := Lib.hid hM2
        obtain ⟨r2, hr2⟩ : ∃ r2, r2 = decide (M2.length < M1.length) := ⟨_, rfl⟩
        have Hr2 := Lib.hid hr2
        have x1 := cell_blk (hkw.heap HM0.out (fun h => h)) 1
        clear hM2 hr2
        obtain ⟨O1, O2, h1, h2, h3, h4⟩ := hS
        have H2 := Lib.hid h2
        have H3 := Lib.hid h3
        have H4 := Lib.hid h4
        clear h2 h3 h4
        go_wp2_with fail
        refine (cancel_any b sd1 M1 M2 o.x.who r2 _ h1 (by omega) HM2.out Hr2.out).mono ?_
        rintro e w7 ⟨rfl, hA, hkx⟩
        obtain ⟨hS, hkst⟩ := Sep.step (P' := EP b sd1 M2) (Sep.ok (LQ.ok _ _) (EP.ok _ _ _)) H2.out H3.out H4.out (Ep.mono hA (fun _ h => .inl h)) hkx (fun k hk9 => Nat.le_trans hkw.size hk9)
        replace hkw := hkw.new hkst (fun i hi => hi)
        clear hA hkx hkst h1 H2 H3 H4
        clear HM2 Hr2 x1
        obtain ⟨⟨F3, M3⟩, hbE⟩ : ∃ r, badgeE sd1 M2 o.x.bg = r := ⟨_, rfl⟩
        have HbE := Lib.hid hbE
        have x1 := cell_blk (hkw.heap HM0.out (fun h => h)) 7
        clear hbE
        obtain ⟨O1, O2, h1, h2, h3, h4⟩ := hS
        have H2 := Lib.hid h2
        have H3 := Lib.hid h3
        have H4 := Lib.hid h4
        clear h2 h3 h4
        go_wp2_with fail
        refine (badge_any b sd1 M2 M3 F3 o.x.bg _ h1 (by omega) HbE.out).mono ?_
        rintro e w8 ⟨v8, rfl, -, -, hA, hkx⟩
        obtain ⟨hS, hkst⟩ := Sep.step (P' := EP b sd1 M3) (Sep.ok (LQ.ok _ _) (EP.ok _ _ _)) H2.out H3.out H4.out (Ep.mono hA (fun _ h => .inl h.1)) hkx (fun k hk9 => Nat.le_trans hkw.size hk9)
        replace hkw := hkw.new hkst (fun i hi => hi)
        clear hA hkx hkst h1 H2 H3 H4
        clear HbE x1
        obtain ⟨_, hn⟩ := Sep.any hS
        obtain ⟨_, hn⟩ := Sep.any hn
        go_wp2_with fail
        refine (waits_any b' sd r M _ hn (by omega) Hr.out).mono ?_
        rintro e w9 ⟨v9, rfl, hown, hkx⟩
        rw [← HF.out, ← HFM.out] at hown
        obtain ⟨ao9, c9, hv9, -⟩ := Src.of_own hown
        obtain ⟨_, hl⟩ := Sep.any hS
        obtain ⟨_, hl⟩ := Sep.one hl
        have hs5 := Src.of_own ((LQ.ok _ _).kept hl hkx (fun _ _ h => h)).1
        have hs9 := Src.of_own hown
        rw [← HmF.out] at hv9 hs5 hs9
        subst hv9
        have hnums := nums_any _ _ mF F w9 hs5 hs9 (by omega)
        have Hnums := Lib.hid hnums
        have hkw9 := hkw.trans hkx
        clear hnums hs5 hs9 hl hown hkx hS hkw hn Hr HF HFM HmF
        cases r
        all_goals go_wp2_with fail
        all_goals refine Hnums.out.mono ?_
        all_goals rintro e w10 ⟨rfl, q10, rfl⟩
        all_goals go_wp2_with fail
        all_goals refine (fixed_any _).mono ?_
        all_goals rintro e w11 ⟨rfl, hk11⟩
        all_goals go_wp2_with fail
        all_goals go_ret
        all_goals exact ⟨rfl, none_below (Hk0.out.trans ((hkw9.drewN _).trans hk11))⟩
end Go.Proofs.Ytanongcaokldmaa

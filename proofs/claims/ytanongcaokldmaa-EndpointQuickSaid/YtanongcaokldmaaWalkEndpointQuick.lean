/- The walk of the law EndpointQuick. -/
import Derived.Test.YtanongcaokldmaaEndH
import Derived.Deep.RegionHeld3
set_option linter.all false
namespace Go.Proofs.Ytanongcaokldmaa
open Go.RowKit

set_option maxRecDepth 100000 in
set_option maxHeartbeats 8000000 in
theorem walkEndpointQuick (w : World) (v : Value) (rows : List (List Value)) (hs : Src w v rows.length 1 rows.flatten) (hr : ∀ x ∈ rows, FlatOk [.int .i64] x) (hm : rows.length ≤ maxLen) (who : Int) (hwho : (Lit.int .i64 who).wf = true) (cs : List Value) (hc : FlatOk [.int .i64, .int .u64, .int .u64, .int .u64, .int .u64, .int .u64, .bool] cs) :
    Calls Try.prog 5 #[v, .int .i64 who, .agg cs.toArray] w fun e w' => e = .returned (.bool true) ∧ Below w.heap.size w w' := by
  obtain ⟨x, rfl, hx⟩ := msg_of_flat hc who
  rw [hx]
  clear hc hx hwho
  obtain ⟨L, hfl, hll, -⟩ := ints_of_rows hr
  rw [hfl] at hs
  obtain ⟨len, hlen⟩ : ∃ len, len = rows.length := ⟨_, rfl⟩
  rw [← hlen] at hs hm hll
  clear hr hfl hlen
  have hk0 : New w (w.alloc (blkM x)) := (Kept.refl _ _).alloc _
  obtain ⟨W, hW⟩ : ∃ W, W = w.alloc (blkM x) := ⟨_, rfl⟩
  obtain ⟨qm, hqm⟩ : ∃ qm, qm = w.heap.size := ⟨_, rfl⟩
  have hM0 : W.heap[qm]? = some (blkM x) := by rw [hW, hqm]; exact heap_alloc_new _ _
  have hqW : qm < W.heap.size := lt_of_heap hM0
  rw [← hW] at hk0
  have Hk0 := Lib.hid hk0
  have Hqm := Lib.hid hqm
  have Hs := Lib.hid (hs.same hk0)
  obtain ⟨-, ao, c, rfl, hcells⟩ := Src.nums hs
  have Hll := Lib.hid hll
  have hlenm : len ≤ 9223372036854775807 := by have : maxLen = 9223372036854775807 := rfl; omega
  have HW := Lib.hid hW
  have HM0 := Lib.hid hM0
  clear hs hll hcells hm hW hk0 hqm hM0
  go_enter Try.func5, Try.ntmps5
  go_wp2_with fail
  have hW2 := HW.out
  simp only [blkM] at hW2
  rw [← hW2, ← Hqm.out]
  clear hW2
  refine (new_any W).mono ?_
  rintro e w1 ⟨rfl, hN, hk1⟩
  obtain ⟨b, hb⟩ : ∃ b, b = W.heap.size := ⟨_, rfl⟩
  have hN1 : Ep (fun k => W.heap.size ≤ k) w1 b false (([] : List Int).map RO) := by rw [hb]; exact hN
  rw [← hb]
  clear hb hN
  go_wp2_with fail
  go_loopw [8] (fun i wr => ∃ k : Nat, k ≤ 30 ∧ k ≤ len ∧ i = .int .i64 k ∧ New W wr ∧ Ep (fun k => W.heap.size ≤ k) wr b false ((linesE (L.take k)).map RO)) (fun i _ => 30 - (intOf i).toNat)
  case atStart => exact ⟨0, by omega, by omega, rfl, hk1, hN1⟩
  case round =>
    clear hN1 hk1
    obtain ⟨k, hk6, hk, rfl, hkr, hN⟩ := hrel
    by_cases h1 : k < len ∧ k < 30
    · obtain ⟨h1, h2⟩ := h1
      have h2' : (k : Int) < 30 := by omega
      obtain ⟨y, hy⟩ : ∃ y, L[k]? = some y := ⟨_, List.getElem?_eq_getElem (by have := Hll.out; omega)⟩
      obtain ⟨ao', c', he, hcl⟩ := (Src.nums (Hs.out.same hkr)).2
      cases he
      obtain ⟨B, Of, rfl, c0⟩ := hcl k y hy
      have hln := linesE_length k L
      have Hy := Lib.hid hy
      clear hcl hy
      go_wp2_with fail
      refine (recv_in b (linesE (L.take k)) y wr hN (by omega)).mono ?_
      rintro e w3 ⟨z, rfl, hN3, hk3⟩
      have hN3' := Ep.mono (O' := fun k => W.heap.size ≤ k) hN3 (fun k h => by have := hkr.size; omega)
      have hkr3 := hkr.new hk3 (fun i hi => hi)
      rw [← linesE_take Hy.out] at hN3'
      clear hN3 hk3 c0
      go_wp2_with fail
      go_roundw
      case rel => exact ⟨k + 1, by omega, by omega, by go_num, hkr3, hN3'⟩
      case measure => simp [intOf]; omega
    · obtain ⟨F, hF⟩ : ∃ F, F = linesE (L.take k) := ⟨_, rfl⟩
      have hF20 : F.length ≤ 30 := by have := linesE_length k L; rw [hF]; omega
      have hF8 : F.length ≤ 1000 := by omega
      rw [← hF] at hN
      clear hF
      obtain ⟨mF, hmF⟩ : ∃ mF, mF = F.length := ⟨_, rfl⟩
      have HmF := Lib.hid hmF
      have hmF20 : mF ≤ 30 := by omega
      clear hmF
      obtain ⟨er, her⟩ : ∃ er : Int, er = if x.who ∈ F then 110 else 0 := ⟨_, rfl⟩
      have Her := Lib.hid her
      clear her
      by_cases h3 : k < len
      · have h2' : ¬ ((k : Int) < 30) := by omega
        go_wp2_with fail
        refine (waits_R b F _ hN hF8).mono ?_
        rintro e w4 ⟨v4, rfl, hown, hkx⟩
        obtain ⟨ao4, c4, hv4, -⟩ := Src.of_own hown
        have hS := Sep.fresh (N := LQ v4 F) (EP.ok b false (F.map RO)) (show EP b false (F.map RO) (fun k => W.heap.size ≤ k) _ from hN) (LQ.fresh hown) hkx (fun k hk => Nat.le_trans hkr.size hk)
        have hkw := hkr.trans hkx
        rw [← HmF.out] at hv4
        subst hv4
        clear hown hkx hN hkr
        obtain ⟨_, hn⟩ := Sep.any hS
        go_wp2_with fail
        refine (recv_out b F x.who er _ hn hF8 Her.out).mono ?_
        rintro e w5 ⟨he, hk5⟩
        simp only [metV, on0] at he
        subst he
        obtain ⟨qa, hqa⟩ : ∃ qa, qa = w5.heap.size := ⟨_, rfl⟩
        have Hqa := Lib.hid hqa
        have kA : New w5 (w5.alloc (blkT false 0 0 on0)) := (Kept.refl _ _).alloc _
        have hA5 : (w5.alloc (blkT false 0 0 on0)).heap[qa]? = some (blkT false 0 0 on0) := by rw [hqa]; exact heap_alloc_new _ _
        have k5 := hk5.trans kA
        have hn5 := Ep.same hn k5
        replace hS := (Sep.ok (LQ.ok _ _) (EP.ok _ _ _)).kept hS k5 (fun _ _ h => h)
        replace hkw := hkw.trans k5
        clear hqa hk5 k5 hn kA
        go_wp2_with fail
        try rw [← Hqa.out]
        refine (waits_R b F _ hn5 hF8).mono ?_
        rintro e w6 ⟨v6, rfl, hown, hkx⟩
        obtain ⟨ao6, c6, hv6, -⟩ := Src.of_own hown
        have hS6 := (Sep.ok (LQ.ok _ _) (EP.ok _ _ _)).kept hS hkx (fun _ _ h => h)
        have hkw6 := hkw.trans hkx
        obtain ⟨t0, -⟩ := of10 (hkx.heap hA5 (fun h => h))
        have hs6 := Src.of_own hown
        obtain ⟨_, hl⟩ := Sep.one hS6
        have hs4 := Src.of_own hl.1
        rw [← HmF.out] at hv6 hs6 hs4
        subst hv6
        have hnums := nums_any _ _ mF F w6 hs4 hs6 (by omega)
        have Hnums := Lib.hid hnums
        clear hnums hs4 hs6 hl hown hkx hS hkw hA5 hn5
        go_wp2_with fail
        refine Hnums.out.mono ?_
        rintro e w7 ⟨rfl, q7, rfl⟩
        clear Hnums t0
        have hS7 := (Sep.ok (LQ.ok _ _) (EP.ok _ _ _)).kept hS6 ((Kept.refl (fun _ => False) w6).drewN q7) (fun _ _ h => h)
        have hkw7 := hkw6.drewN q7
        clear hS6 hkw6
        obtain ⟨W7, hW7⟩ : ∃ W7, W7 = w6.drewN q7 := ⟨_, rfl⟩
        rw [← hW7] at hS7 hkw7 ⊢
        clear hW7
        obtain ⟨O1, O2, g1, g2, g3, g4⟩ := hS7.swap
        have hM7 := hkw7.heap HM0.out (fun h => h)
        obtain ⟨m0, m1, m2, m3, m4, m5, m6⟩ := of7 hM7
        have G1 := Lib.hid g1
        have G2 := Lib.hid g2
        have G3 := Lib.hid g3
        have G4 := Lib.hid g4
        have HM7 := Lib.hid hM7
        clear hM7 hS7 g1 g2 g3 g4
        by_cases hwf : x.who ∈ F
        · have her : er = 110 := by rw [Her.out, if_pos hwf]
          have hsE : sendE false (F.map RO) x false = ((false, 0, 0, on0, 110), false, F.map RO) := by unfold sendE; rw [if_pos (by rw [any_RO]; simpa using hwf)]
          have HsE := Lib.hid hsE
          subst her
          clear hwf hsE
          go_wp2_with fail
          refine (send_st b false false false false (F.map RO) (F.map RO) x on0 0 0 110 _ G1.out (by simpa using hF8) HsE.out).mono ?_
          rintro e w8 ⟨he, hE8, hkx⟩
          simp only [metV, on0] at he
          subst he
          obtain ⟨hS8, hko⟩ := Sep.step (P' := EP b false (F.map RO)) (LQ.ok _ _) G2.out G3.out G4.out hE8 hkx (fun k hk9 => by have := hkw7.size; omega)
          have hkw8 := hkw7.new hko (fun i hi => hi)
          have kA : New w8 (w8.alloc (blkT false 0 0 on0)) := (Kept.refl _ _).alloc _
          obtain ⟨qb, hqb⟩ : ∃ qb, qb = w8.heap.size := ⟨_, rfl⟩
          have hB8 : (w8.alloc (blkT false 0 0 on0)).heap[qb]? = some (blkT false 0 0 on0) := by rw [hqb]; exact heap_alloc_new _ _
          have Hqb := Lib.hid hqb
          replace hS8 := (Sep.ok (EP.ok _ _ _) (LQ.ok _ _)).kept hS8 kA (fun _ _ h => h)
          replace hkw8 := hkw8.trans kA
          obtain ⟨_, hn8⟩ := Sep.one hS8
          clear hE8 hkx hko hqb kA hkw7 m0 m1 m2 m3 m4 m5 m6 G1 G2 G3 G4 HM7 HsE
          go_wp2_with fail
          try rw [← Hqb.out]
          refine (waits_R b F _ hn8 hF8).mono ?_
          rintro e w9 ⟨v9, rfl, hown, hkx⟩
          obtain ⟨ao9, c9, hv9, -⟩ := Src.of_own hown
          obtain ⟨_, hl⟩ := Sep.any hS8
          have hs9 := Src.of_own hown
          have hs4 := Src.of_own ((LQ.ok _ _).kept hl hkx (fun _ _ h => h)).1
          rw [← HmF.out] at hv9 hs9 hs4
          subst hv9
          have hnums := nums_any _ _ mF F w9 hs9 hs4 (by omega)
          have Hnums := Lib.hid hnums
          have hkw9 := hkw8.trans hkx
          clear hnums hs9 hs4 hl hown hkx hS8 hkw8 hn8 hB8
          go_wp2_with fail
          refine Hnums.out.mono ?_
          rintro e w10 ⟨rfl, q10, rfl⟩
          clear Hnums
          go_wp2_with fail
          refine (fixed_any _).mono ?_
          rintro e w11 ⟨rfl, hk11⟩
          go_wp2_with fail
          go_ret
          exact ⟨rfl, none_below (Hk0.out.trans ((hkw9.drewN _).trans hk11))⟩
        · have her : er = 0 := by rw [Her.out, if_neg hwf]
          subst her
          have hany : ¬ (F.map RO).any (fun y => y.who == x.who) = true := by rw [any_RO]; simpa using hwf
          clear hwf
          cases F with
          | nil =>
            have hsE : sendE false (([] : List Int).map RO) x false = ((false, 0, 0, on0, 0), false, ([] : List Int).map RO) := rfl
            have HsE := Lib.hid hsE
            have hmF0 : mF = 0 := HmF.out
            subst hmF0
            clear hany hsE
            go_wp2_with fail
            refine (send_st b false false false false (([] : List Int).map RO) (([] : List Int).map RO) x on0 0 0 0 _ G1.out (by simpa using hF8) HsE.out).mono ?_
            rintro e w8 ⟨he, hE8, hkx⟩
            simp only [metV, on0] at he
            subst he
            obtain ⟨hS8, hko⟩ := Sep.step (P' := EP b false (([] : List Int).map RO)) (LQ.ok _ _) G2.out G3.out G4.out hE8 hkx (fun k hk9 => by have := hkw7.size; omega)
            have hkw8 := hkw7.new hko (fun i hi => hi)
            have kA : New w8 (w8.alloc (blkT false 0 0 on0)) := (Kept.refl _ _).alloc _
            obtain ⟨qb, hqb⟩ : ∃ qb, qb = w8.heap.size := ⟨_, rfl⟩
            have hB8 : (w8.alloc (blkT false 0 0 on0)).heap[qb]? = some (blkT false 0 0 on0) := by rw [hqb]; exact heap_alloc_new _ _
            have Hqb := Lib.hid hqb
            replace hS8 := (Sep.ok (EP.ok _ _ _) (LQ.ok _ _)).kept hS8 kA (fun _ _ h => h)
            replace hkw8 := hkw8.trans kA
            obtain ⟨_, hn8⟩ := Sep.one hS8
            clear hE8 hkx hko hqb kA hkw7 m0 m1 m2 m3 m4 m5 m6 G1 G2 G3 G4 HM7 HsE
            go_wp2_with fail
            try rw [← Hqb.out]
            refine (waits_R b [] _ hn8 (by decide)).mono ?_
            rintro e w9 ⟨v9, rfl, hown, hkx⟩
            obtain ⟨ao9, c9, hv9, -⟩ := Src.of_own hown
            have hv9' : v9 = .slice ao9 0 c9 := hv9
            subst hv9'
            obtain ⟨t0, -⟩ := of10 (hkx.heap hB8 (fun h => h))
            have hkw9 := hkw8.trans hkx
            clear hown hkx hS8 hkw8 hn8 hB8 hv9
            go_wp2_with fail
            refine (fixed_any _).mono ?_
            rintro e w11 ⟨rfl, hk11⟩
            go_wp2_with fail
            go_ret
            exact ⟨rfl, none_below (Hk0.out.trans (hkw9.trans hk11))⟩
          | cons a l =>
            have hsE : sendE false ((a :: l).map RO) x false = ((true, x.who, a, x, 0), false, l.map RO) := by
              unfold sendE
              rw [if_neg hany, if_pos ⟨rfl, by simp⟩]
              rfl
            have HsE := Lib.hid hsE
            obtain ⟨ml, hml⟩ : ∃ ml, ml = l.length := ⟨_, rfl⟩
            have Hml := Lib.hid hml
            have hmF1 : mF = ml + 1 := by rw [HmF.out, hml]; rfl
            subst hmF1
            have hl8 : l.length ≤ 1000 := by rw [← hml]; omega
            clear hany hsE hml
            go_wp2_with fail
            refine (send_st b false false false true ((a :: l).map RO) (l.map RO) x x x.who a 0 _ G1.out (by simpa using hF8) HsE.out).mono ?_
            rintro e w8 ⟨he, hE8, hkx⟩
            simp only [metV, on0] at he
            subst he
            obtain ⟨hS8, hko⟩ := Sep.step (P' := EP b false (l.map RO)) (LQ.ok _ _) G2.out G3.out G4.out hE8 hkx (fun k hk9 => by have := hkw7.size; omega)
            have hkw8 := hkw7.new hko (fun i hi => hi)
            have kA : New w8 (w8.alloc (blkT true x.who a x)) := (Kept.refl _ _).alloc _
            obtain ⟨qb, hqb⟩ : ∃ qb, qb = w8.heap.size := ⟨_, rfl⟩
            have hB8 : (w8.alloc (blkT true x.who a x)).heap[qb]? = some (blkT true x.who a x) := by rw [hqb]; exact heap_alloc_new _ _
            have Hqb := Lib.hid hqb
            replace hS8 := (Sep.ok (EP.ok _ _ _) (LQ.ok _ _)).kept hS8 kA (fun _ _ h => h)
            replace hkw8 := hkw8.trans kA
            obtain ⟨_, hn8⟩ := Sep.one hS8
            clear hE8 hkx hko hqb kA hkw7 m0 m1 m2 m3 m4 m5 m6 G1 G2 G3 G4 HM7 HsE
            go_wp2_with fail
            try rw [← Hqb.out]
            refine (waits_R b l _ hn8 hl8).mono ?_
            rintro e w9 ⟨v9, rfl, hown, hkx⟩
            obtain ⟨ao9, c9, hv9, -⟩ := Src.of_own hown
            obtain ⟨_, hl⟩ := Sep.any hS8
            have hl9 := (LQ.ok _ _).kept hl hkx (fun _ _ h => h)
            have hs9 := Src.of_own hown
            obtain ⟨g4, rfl, a4⟩ := LQ.at (j := 0) (y := a) hl9 HmF.out rfl
            have hs4 := Src.tailI (m := 1) (by have h8 := Src.of_own hl9.1; rw [← HmF.out] at h8; exact h8) (by omega)
            have hdr : (a :: l).drop 1 = l := rfl
            rw [hdr, Nat.add_sub_cancel] at hs4
            clear hdr
            rw [← Hml.out] at hv9 hs9
            subst hv9
            have hkw9 := hkw8.trans hkx
            obtain ⟨t0, -, t1, -, t2, -, t3, -, t4, -, t5, -, t6, -, t7, -, t8, -, t9, -⟩ := of10 (hkx.heap hB8 (fun h => h))
            obtain ⟨m0, m1, m2, m3, m4, m5, m6⟩ := of7 (hkw9.heap HM0.out (fun h => h))
            have hcap := own_cap hl9.1 (show _ = Value.slice (some ⟨g4, 0, none⟩) (a :: l).length c4 from by rw [← HmF.out])
            rw [← HmF.out] at hcap
            have hsk : ∀ W : World, New w9 W → W.cell? ⟨qb, 0, none⟩ = some (.bool true) ∧ W.cell? ⟨qb, 1, none⟩ = some (.int .i64 x.who) ∧ W.cell? ⟨qb, 2, none⟩ = some (.int .i64 a) ∧ W.cell? ⟨qb, 3, none⟩ = some (.int .i64 x.la) ∧ W.cell? ⟨qb, 4, none⟩ = some (.int .u64 x.w0) ∧ W.cell? ⟨qb, 5, none⟩ = some (.int .u64 x.w1) ∧ W.cell? ⟨qb, 6, none⟩ = some (.int .u64 x.w2) ∧ W.cell? ⟨qb, 7, none⟩ = some (.int .u64 x.w3) ∧ W.cell? ⟨qb, 8, none⟩ = some (.int .u64 x.bg) ∧ W.cell? ⟨qb, 9, none⟩ = some (.bool x.ca) ∧ W.cell? ⟨qm, 0, none⟩ = some (.int .i64 x.la) ∧ W.cell? ⟨qm, 1, none⟩ = some (.int .u64 x.w0) ∧ W.cell? ⟨qm, 2, none⟩ = some (.int .u64 x.w1) ∧ W.cell? ⟨qm, 3, none⟩ = some (.int .u64 x.w2) ∧ W.cell? ⟨qm, 4, none⟩ = some (.int .u64 x.w3) ∧ W.cell? ⟨qm, 5, none⟩ = some (.int .u64 x.bg) ∧ W.cell? ⟨qm, 6, none⟩ = some (.bool x.ca) ∧ W.cell? ⟨g4, 0, none⟩ = some (.int .i64 a) := fun W hk => ⟨cell_kept hk t0 (fun h => h), cell_kept hk t1 (fun h => h), cell_kept hk t2 (fun h => h), cell_kept hk t3 (fun h => h), cell_kept hk t4 (fun h => h), cell_kept hk t5 (fun h => h), cell_kept hk t6 (fun h => h), cell_kept hk t7 (fun h => h), cell_kept hk t8 (fun h => h), cell_kept hk t9 (fun h => h), cell_kept hk m0 (fun h => h), cell_kept hk m1 (fun h => h), cell_kept hk m2 (fun h => h), cell_kept hk m3 (fun h => h), cell_kept hk m4 (fun h => h), cell_kept hk m5 (fun h => h), cell_kept hk m6 (fun h => h), cell_kept hk a4 (fun h => h)⟩
            have Hsk := Lib.hid hsk
            have hdk : New w9 w9.drew := (Kept.refl _ _).drew
            have hcapz : (ml : Int) + 1 ≤ c4 := by omega
            have h1z : (1 : Int) ≤ (ml : Int) + 1 := by omega
            have h1c : (1 : Int) ≤ c4 := by omega
            by_cases hc1 : c4 = 1
            · subst hc1
              have hml0 : ml = 0 := by omega
              subst hml0
              have hl0 : l = [] := List.eq_nil_of_length_eq_zero Hml.out.symm
              have hn : ∀ W : World, New w9 W → Calls Try.prog 14 #[.slice ao9 0 c9, .slice (some ⟨g4, 0, none⟩) 0 0] W fun e w' => e = .returned (.bool true) ∧ New W w' := fun (W : World) (hk : New w9 W) => (nums_any _ (.slice (some ⟨g4, 0, none⟩) 0 0) 0 l W (hs9.same hk) (by rw [hl0]; exact ⟨_, _, rfl, fun _ => rfl, rfl, fun j u hj => by simp at hj⟩) (by omega)).mono (fun e w' ⟨h1, q, h2⟩ => ⟨h1, by rw [h2]; exact (Kept.refl _ _).drewN q⟩)
              have Hn := Lib.hid hn
              clear hl0 hcapz h1z h1c
              clear hn hsk hs9 hs4 hl hl9 hown hkx hS8 hkw8 hn8 hB8 t0 t1 t2 t3 t4 t5 t6 t7 t8 t9 m0 m1 m2 m3 m4 m5 m6 a4
              go_wp2_with fail
              go_region_held3 (fun W => W.cell? ⟨qb, 0, none⟩ = some (.bool true) ∧ W.cell? ⟨qb, 1, none⟩ = some (.int .i64 x.who) ∧ W.cell? ⟨qb, 2, none⟩ = some (.int .i64 a) ∧ W.cell? ⟨qb, 3, none⟩ = some (.int .i64 x.la) ∧ W.cell? ⟨qb, 4, none⟩ = some (.int .u64 x.w0) ∧ W.cell? ⟨qb, 5, none⟩ = some (.int .u64 x.w1) ∧ W.cell? ⟨qb, 6, none⟩ = some (.int .u64 x.w2) ∧ W.cell? ⟨qb, 7, none⟩ = some (.int .u64 x.w3) ∧ W.cell? ⟨qb, 8, none⟩ = some (.int .u64 x.bg) ∧ W.cell? ⟨qb, 9, none⟩ = some (.bool x.ca) ∧ W.cell? ⟨qm, 0, none⟩ = some (.int .i64 x.la) ∧ W.cell? ⟨qm, 1, none⟩ = some (.int .u64 x.w0) ∧ W.cell? ⟨qm, 2, none⟩ = some (.int .u64 x.w1) ∧ W.cell? ⟨qm, 3, none⟩ = some (.int .u64 x.w2) ∧ W.cell? ⟨qm, 4, none⟩ = some (.int .u64 x.w3) ∧ W.cell? ⟨qm, 5, none⟩ = some (.int .u64 x.bg) ∧ W.cell? ⟨qm, 6, none⟩ = some (.bool x.ca) ∧ W.cell? ⟨g4, 0, none⟩ = some (.int .i64 a))
                (first | exact Hsk.out _ (Kept.refl _ _) | exact Hsk.out _ hdk | exact Hsk.out _ hk10 | exact Hsk.out _ hk12)
                (first
                | (go_at_call 14; refine (Hn.out _ hdk).mono ?_; rintro e w10 ⟨rfl, hk9⟩; have hk10 := hdk.trans hk9)
                | (go_at_call 15; refine (fixed_any _).mono ?_; rintro e w11 ⟨rfl, hk11⟩; have hk12 := hk10.trans hk11))
              go_wp2_with fail
              go_ret
              exact ⟨rfl, none_below (Hk0.out.trans (hkw9.trans hk12))⟩
            · have hn : ∀ W : World, New w9 W → Calls Try.prog 14 #[.slice ao9 ml c9, .slice ((some ⟨g4, 0, none⟩ : Option Addr).map (fun x => x.add 1)) ml (c4 - 1)] W fun e w' => e = .returned (.bool true) ∧ New W w' := fun (W : World) (hk : New w9 W) => (nums_any _ _ ml l W (hs9.same hk) (hs4.same hk) (by omega)).mono (fun e w' ⟨h1, q, h2⟩ => ⟨h1, by rw [h2]; exact (Kept.refl _ _).drewN q⟩)
              have Hn := Lib.hid hn
              clear hn hsk hs9 hs4 hl hl9 hown hkx hS8 hkw8 hn8 hB8 t0 t1 t2 t3 t4 t5 t6 t7 t8 t9 m0 m1 m2 m3 m4 m5 m6 a4
              go_wp2_with fail
              go_region_held3 (fun W => W.cell? ⟨qb, 0, none⟩ = some (.bool true) ∧ W.cell? ⟨qb, 1, none⟩ = some (.int .i64 x.who) ∧ W.cell? ⟨qb, 2, none⟩ = some (.int .i64 a) ∧ W.cell? ⟨qb, 3, none⟩ = some (.int .i64 x.la) ∧ W.cell? ⟨qb, 4, none⟩ = some (.int .u64 x.w0) ∧ W.cell? ⟨qb, 5, none⟩ = some (.int .u64 x.w1) ∧ W.cell? ⟨qb, 6, none⟩ = some (.int .u64 x.w2) ∧ W.cell? ⟨qb, 7, none⟩ = some (.int .u64 x.w3) ∧ W.cell? ⟨qb, 8, none⟩ = some (.int .u64 x.bg) ∧ W.cell? ⟨qb, 9, none⟩ = some (.bool x.ca) ∧ W.cell? ⟨qm, 0, none⟩ = some (.int .i64 x.la) ∧ W.cell? ⟨qm, 1, none⟩ = some (.int .u64 x.w0) ∧ W.cell? ⟨qm, 2, none⟩ = some (.int .u64 x.w1) ∧ W.cell? ⟨qm, 3, none⟩ = some (.int .u64 x.w2) ∧ W.cell? ⟨qm, 4, none⟩ = some (.int .u64 x.w3) ∧ W.cell? ⟨qm, 5, none⟩ = some (.int .u64 x.bg) ∧ W.cell? ⟨qm, 6, none⟩ = some (.bool x.ca) ∧ W.cell? ⟨g4, 0, none⟩ = some (.int .i64 a))
                (first | exact Hsk.out _ (Kept.refl _ _) | exact Hsk.out _ hdk | exact Hsk.out _ hk10 | exact Hsk.out _ hk12)
                (first
                | (go_at_call 14; refine (Hn.out _ hdk).mono ?_; rintro e w10 ⟨rfl, hk9⟩; have hk10 := hdk.trans hk9)
                | (go_at_call 15; refine (fixed_any _).mono ?_; rintro e w11 ⟨rfl, hk11⟩; have hk12 := hk10.trans hk11))
              go_wp2_with fail
              go_ret
              exact ⟨rfl, none_below (Hk0.out.trans (hkw9.trans hk12))⟩
      · have h3' : ¬ ((k : Int) < len) := by omega
        go_wp2_with fail
        refine (waits_R b F _ hN hF8).mono ?_
        rintro e w4 ⟨v4, rfl, hown, hkx⟩
        obtain ⟨ao4, c4, hv4, -⟩ := Src.of_own hown
        have hS := Sep.fresh (N := LQ v4 F) (EP.ok b false (F.map RO)) (show EP b false (F.map RO) (fun k => W.heap.size ≤ k) _ from hN) (LQ.fresh hown) hkx (fun k hk => Nat.le_trans hkr.size hk)
        have hkw := hkr.trans hkx
        rw [← HmF.out] at hv4
        subst hv4
        clear hown hkx hN hkr
        obtain ⟨_, hn⟩ := Sep.any hS
        go_wp2_with fail
        refine (recv_out b F x.who er _ hn hF8 Her.out).mono ?_
        rintro e w5 ⟨he, hk5⟩
        simp only [metV, on0] at he
        subst he
        obtain ⟨qa, hqa⟩ : ∃ qa, qa = w5.heap.size := ⟨_, rfl⟩
        have Hqa := Lib.hid hqa
        have kA : New w5 (w5.alloc (blkT false 0 0 on0)) := (Kept.refl _ _).alloc _
        have hA5 : (w5.alloc (blkT false 0 0 on0)).heap[qa]? = some (blkT false 0 0 on0) := by rw [hqa]; exact heap_alloc_new _ _
        have k5 := hk5.trans kA
        have hn5 := Ep.same hn k5
        replace hS := (Sep.ok (LQ.ok _ _) (EP.ok _ _ _)).kept hS k5 (fun _ _ h => h)
        replace hkw := hkw.trans k5
        clear hqa hk5 k5 hn kA
        go_wp2_with fail
        try rw [← Hqa.out]
        refine (waits_R b F _ hn5 hF8).mono ?_
        rintro e w6 ⟨v6, rfl, hown, hkx⟩
        obtain ⟨ao6, c6, hv6, -⟩ := Src.of_own hown
        have hS6 := (Sep.ok (LQ.ok _ _) (EP.ok _ _ _)).kept hS hkx (fun _ _ h => h)
        have hkw6 := hkw.trans hkx
        obtain ⟨t0, -⟩ := of10 (hkx.heap hA5 (fun h => h))
        have hs6 := Src.of_own hown
        obtain ⟨_, hl⟩ := Sep.one hS6
        have hs4 := Src.of_own hl.1
        rw [← HmF.out] at hv6 hs6 hs4
        subst hv6
        have hnums := nums_any _ _ mF F w6 hs4 hs6 (by omega)
        have Hnums := Lib.hid hnums
        clear hnums hs4 hs6 hl hown hkx hS hkw hA5 hn5
        go_wp2_with fail
        refine Hnums.out.mono ?_
        rintro e w7 ⟨rfl, q7, rfl⟩
        clear Hnums t0
        have hS7 := (Sep.ok (LQ.ok _ _) (EP.ok _ _ _)).kept hS6 ((Kept.refl (fun _ => False) w6).drewN q7) (fun _ _ h => h)
        have hkw7 := hkw6.drewN q7
        clear hS6 hkw6
        obtain ⟨W7, hW7⟩ : ∃ W7, W7 = w6.drewN q7 := ⟨_, rfl⟩
        rw [← hW7] at hS7 hkw7 ⊢
        clear hW7
        obtain ⟨O1, O2, g1, g2, g3, g4⟩ := hS7.swap
        have hM7 := hkw7.heap HM0.out (fun h => h)
        obtain ⟨m0, m1, m2, m3, m4, m5, m6⟩ := of7 hM7
        have G1 := Lib.hid g1
        have G2 := Lib.hid g2
        have G3 := Lib.hid g3
        have G4 := Lib.hid g4
        have HM7 := Lib.hid hM7
        clear hM7 hS7 g1 g2 g3 g4
        by_cases hwf : x.who ∈ F
        · have her : er = 110 := by rw [Her.out, if_pos hwf]
          have hsE : sendE false (F.map RO) x false = ((false, 0, 0, on0, 110), false, F.map RO) := by unfold sendE; rw [if_pos (by rw [any_RO]; simpa using hwf)]
          have HsE := Lib.hid hsE
          subst her
          clear hwf hsE
          go_wp2_with fail
          refine (send_st b false false false false (F.map RO) (F.map RO) x on0 0 0 110 _ G1.out (by simpa using hF8) HsE.out).mono ?_
          rintro e w8 ⟨he, hE8, hkx⟩
          simp only [metV, on0] at he
          subst he
          obtain ⟨hS8, hko⟩ := Sep.step (P' := EP b false (F.map RO)) (LQ.ok _ _) G2.out G3.out G4.out hE8 hkx (fun k hk9 => by have := hkw7.size; omega)
          have hkw8 := hkw7.new hko (fun i hi => hi)
          have kA : New w8 (w8.alloc (blkT false 0 0 on0)) := (Kept.refl _ _).alloc _
          obtain ⟨qb, hqb⟩ : ∃ qb, qb = w8.heap.size := ⟨_, rfl⟩
          have hB8 : (w8.alloc (blkT false 0 0 on0)).heap[qb]? = some (blkT false 0 0 on0) := by rw [hqb]; exact heap_alloc_new _ _
          have Hqb := Lib.hid hqb
          replace hS8 := (Sep.ok (EP.ok _ _ _) (LQ.ok _ _)).kept hS8 kA (fun _ _ h => h)
          replace hkw8 := hkw8.trans kA
          obtain ⟨_, hn8⟩ := Sep.one hS8
          clear hE8 hkx hko hqb kA hkw7 m0 m1 m2 m3 m4 m5 m6 G1 G2 G3 G4 HM7 HsE
          go_wp2_with fail
          try rw [← Hqb.out]
          refine (waits_R b F _ hn8 hF8).mono ?_
          rintro e w9 ⟨v9, rfl, hown, hkx⟩
          obtain ⟨ao9, c9, hv9, -⟩ := Src.of_own hown
          obtain ⟨_, hl⟩ := Sep.any hS8
          have hs9 := Src.of_own hown
          have hs4 := Src.of_own ((LQ.ok _ _).kept hl hkx (fun _ _ h => h)).1
          rw [← HmF.out] at hv9 hs9 hs4
          subst hv9
          have hnums := nums_any _ _ mF F w9 hs9 hs4 (by omega)
          have Hnums := Lib.hid hnums
          have hkw9 := hkw8.trans hkx
          clear hnums hs9 hs4 hl hown hkx hS8 hkw8 hn8 hB8
          go_wp2_with fail
          refine Hnums.out.mono ?_
          rintro e w10 ⟨rfl, q10, rfl⟩
          clear Hnums
          go_wp2_with fail
          refine (fixed_any _).mono ?_
          rintro e w11 ⟨rfl, hk11⟩
          go_wp2_with fail
          go_ret
          exact ⟨rfl, none_below (Hk0.out.trans ((hkw9.drewN _).trans hk11))⟩
        · have her : er = 0 := by rw [Her.out, if_neg hwf]
          subst her
          have hany : ¬ (F.map RO).any (fun y => y.who == x.who) = true := by rw [any_RO]; simpa using hwf
          clear hwf
          cases F with
          | nil =>
            have hsE : sendE false (([] : List Int).map RO) x false = ((false, 0, 0, on0, 0), false, ([] : List Int).map RO) := rfl
            have HsE := Lib.hid hsE
            have hmF0 : mF = 0 := HmF.out
            subst hmF0
            clear hany hsE
            go_wp2_with fail
            refine (send_st b false false false false (([] : List Int).map RO) (([] : List Int).map RO) x on0 0 0 0 _ G1.out (by simpa using hF8) HsE.out).mono ?_
            rintro e w8 ⟨he, hE8, hkx⟩
            simp only [metV, on0] at he
            subst he
            obtain ⟨hS8, hko⟩ := Sep.step (P' := EP b false (([] : List Int).map RO)) (LQ.ok _ _) G2.out G3.out G4.out hE8 hkx (fun k hk9 => by have := hkw7.size; omega)
            have hkw8 := hkw7.new hko (fun i hi => hi)
            have kA : New w8 (w8.alloc (blkT false 0 0 on0)) := (Kept.refl _ _).alloc _
            obtain ⟨qb, hqb⟩ : ∃ qb, qb = w8.heap.size := ⟨_, rfl⟩
            have hB8 : (w8.alloc (blkT false 0 0 on0)).heap[qb]? = some (blkT false 0 0 on0) := by rw [hqb]; exact heap_alloc_new _ _
            have Hqb := Lib.hid hqb
            replace hS8 := (Sep.ok (EP.ok _ _ _) (LQ.ok _ _)).kept hS8 kA (fun _ _ h => h)
            replace hkw8 := hkw8.trans kA
            obtain ⟨_, hn8⟩ := Sep.one hS8
            clear hE8 hkx hko hqb kA hkw7 m0 m1 m2 m3 m4 m5 m6 G1 G2 G3 G4 HM7 HsE
            go_wp2_with fail
            try rw [← Hqb.out]
            refine (waits_R b [] _ hn8 (by decide)).mono ?_
            rintro e w9 ⟨v9, rfl, hown, hkx⟩
            obtain ⟨ao9, c9, hv9, -⟩ := Src.of_own hown
            have hv9' : v9 = .slice ao9 0 c9 := hv9
            subst hv9'
            obtain ⟨t0, -⟩ := of10 (hkx.heap hB8 (fun h => h))
            have hkw9 := hkw8.trans hkx
            clear hown hkx hS8 hkw8 hn8 hB8 hv9
            go_wp2_with fail
            refine (fixed_any _).mono ?_
            rintro e w11 ⟨rfl, hk11⟩
            go_wp2_with fail
            go_ret
            exact ⟨rfl, none_below (Hk0.out.trans (hkw9.trans hk11))⟩
          | cons a l =>
            have hsE : sendE false ((a :: l).map RO) x false = ((true, x.who, a, x, 0), false, l.map RO) := by
              unfold sendE
              rw [if_neg hany, if_pos ⟨rfl, by simp⟩]
              rfl
            have HsE := Lib.hid hsE
            obtain ⟨ml, hml⟩ : ∃ ml, ml = l.length := ⟨_, rfl⟩
            have Hml := Lib.hid hml
            have hmF1 : mF = ml + 1 := by rw [HmF.out, hml]; rfl
            subst hmF1
            have hl8 : l.length ≤ 1000 := by rw [← hml]; omega
            clear hany hsE hml
            go_wp2_with fail
            refine (send_st b false false false true ((a :: l).map RO) (l.map RO) x x x.who a 0 _ G1.out (by simpa using hF8) HsE.out).mono ?_
            rintro e w8 ⟨he, hE8, hkx⟩
            simp only [metV, on0] at he
            subst he
            obtain ⟨hS8, hko⟩ := Sep.step (P' := EP b false (l.map RO)) (LQ.ok _ _) G2.out G3.out G4.out hE8 hkx (fun k hk9 => by have := hkw7.size; omega)
            have hkw8 := hkw7.new hko (fun i hi => hi)
            have kA : New w8 (w8.alloc (blkT true x.who a x)) := (Kept.refl _ _).alloc _
            obtain ⟨qb, hqb⟩ : ∃ qb, qb = w8.heap.size := ⟨_, rfl⟩
            have hB8 : (w8.alloc (blkT true x.who a x)).heap[qb]? = some (blkT true x.who a x) := by rw [hqb]; exact heap_alloc_new _ _
            have Hqb := Lib.hid hqb
            replace hS8 := (Sep.ok (EP.ok _ _ _) (LQ.ok _ _)).kept hS8 kA (fun _ _ h => h)
            replace hkw8 := hkw8.trans kA
            obtain ⟨_, hn8⟩ := Sep.one hS8
            clear hE8 hkx hko hqb kA hkw7 m0 m1 m2 m3 m4 m5 m6 G1 G2 G3 G4 HM7 HsE
            go_wp2_with fail
            try rw [← Hqb.out]
            refine (waits_R b l _ hn8 hl8).mono ?_
            rintro e w9 ⟨v9, rfl, hown, hkx⟩
            obtain ⟨ao9, c9, hv9, -⟩ := Src.of_own hown
            obtain ⟨_, hl⟩ := Sep.any hS8
            have hl9 := (LQ.ok _ _).kept hl hkx (fun _ _ h => h)
            have hs9 := Src.of_own hown
            obtain ⟨g4, rfl, a4⟩ := LQ.at (j := 0) (y := a) hl9 HmF.out rfl
            have hs4 := Src.tailI (m := 1) (by have h8 := Src.of_own hl9.1; rw [← HmF.out] at h8; exact h8) (by omega)
            have hdr : (a :: l).drop 1 = l := rfl
            rw [hdr, Nat.add_sub_cancel] at hs4
            clear hdr
            rw [← Hml.out] at hv9 hs9
            subst hv9
            have hkw9 := hkw8.trans hkx
            obtain ⟨t0, -, t1, -, t2, -, t3, -, t4, -, t5, -, t6, -, t7, -, t8, -, t9, -⟩ := of10 (hkx.heap hB8 (fun h => h))
            obtain ⟨m0, m1, m2, m3, m4, m5, m6⟩ := of7 (hkw9.heap HM0.out (fun h => h))
            have hcap := own_cap hl9.1 (show _ = Value.slice (some ⟨g4, 0, none⟩) (a :: l).length c4 from by rw [← HmF.out])
            rw [← HmF.out] at hcap
            have hsk : ∀ W : World, New w9 W → W.cell? ⟨qb, 0, none⟩ = some (.bool true) ∧ W.cell? ⟨qb, 1, none⟩ = some (.int .i64 x.who) ∧ W.cell? ⟨qb, 2, none⟩ = some (.int .i64 a) ∧ W.cell? ⟨qb, 3, none⟩ = some (.int .i64 x.la) ∧ W.cell? ⟨qb, 4, none⟩ = some (.int .u64 x.w0) ∧ W.cell? ⟨qb, 5, none⟩ = some (.int .u64 x.w1) ∧ W.cell? ⟨qb, 6, none⟩ = some (.int .u64 x.w2) ∧ W.cell? ⟨qb, 7, none⟩ = some (.int .u64 x.w3) ∧ W.cell? ⟨qb, 8, none⟩ = some (.int .u64 x.bg) ∧ W.cell? ⟨qb, 9, none⟩ = some (.bool x.ca) ∧ W.cell? ⟨qm, 0, none⟩ = some (.int .i64 x.la) ∧ W.cell? ⟨qm, 1, none⟩ = some (.int .u64 x.w0) ∧ W.cell? ⟨qm, 2, none⟩ = some (.int .u64 x.w1) ∧ W.cell? ⟨qm, 3, none⟩ = some (.int .u64 x.w2) ∧ W.cell? ⟨qm, 4, none⟩ = some (.int .u64 x.w3) ∧ W.cell? ⟨qm, 5, none⟩ = some (.int .u64 x.bg) ∧ W.cell? ⟨qm, 6, none⟩ = some (.bool x.ca) ∧ W.cell? ⟨g4, 0, none⟩ = some (.int .i64 a) := fun W hk => ⟨cell_kept hk t0 (fun h => h), cell_kept hk t1 (fun h => h), cell_kept hk t2 (fun h => h), cell_kept hk t3 (fun h => h), cell_kept hk t4 (fun h => h), cell_kept hk t5 (fun h => h), cell_kept hk t6 (fun h => h), cell_kept hk t7 (fun h => h), cell_kept hk t8 (fun h => h), cell_kept hk t9 (fun h => h), cell_kept hk m0 (fun h => h), cell_kept hk m1 (fun h => h), cell_kept hk m2 (fun h => h), cell_kept hk m3 (fun h => h), cell_kept hk m4 (fun h => h), cell_kept hk m5 (fun h => h), cell_kept hk m6 (fun h => h), cell_kept hk a4 (fun h => h)⟩
            have Hsk := Lib.hid hsk
            have hdk : New w9 w9.drew := (Kept.refl _ _).drew
            have hcapz : (ml : Int) + 1 ≤ c4 := by omega
            have h1z : (1 : Int) ≤ (ml : Int) + 1 := by omega
            have h1c : (1 : Int) ≤ c4 := by omega
            by_cases hc1 : c4 = 1
            · subst hc1
              have hml0 : ml = 0 := by omega
              subst hml0
              have hl0 : l = [] := List.eq_nil_of_length_eq_zero Hml.out.symm
              have hn : ∀ W : World, New w9 W → Calls Try.prog 14 #[.slice ao9 0 c9, .slice (some ⟨g4, 0, none⟩) 0 0] W fun e w' => e = .returned (.bool true) ∧ New W w' := fun (W : World) (hk : New w9 W) => (nums_any _ (.slice (some ⟨g4, 0, none⟩) 0 0) 0 l W (hs9.same hk) (by rw [hl0]; exact ⟨_, _, rfl, fun _ => rfl, rfl, fun j u hj => by simp at hj⟩) (by omega)).mono (fun e w' ⟨h1, q, h2⟩ => ⟨h1, by rw [h2]; exact (Kept.refl _ _).drewN q⟩)
              have Hn := Lib.hid hn
              clear hl0 hcapz h1z h1c
              clear hn hsk hs9 hs4 hl hl9 hown hkx hS8 hkw8 hn8 hB8 t0 t1 t2 t3 t4 t5 t6 t7 t8 t9 m0 m1 m2 m3 m4 m5 m6 a4
              go_wp2_with fail
              go_region_held3 (fun W => W.cell? ⟨qb, 0, none⟩ = some (.bool true) ∧ W.cell? ⟨qb, 1, none⟩ = some (.int .i64 x.who) ∧ W.cell? ⟨qb, 2, none⟩ = some (.int .i64 a) ∧ W.cell? ⟨qb, 3, none⟩ = some (.int .i64 x.la) ∧ W.cell? ⟨qb, 4, none⟩ = some (.int .u64 x.w0) ∧ W.cell? ⟨qb, 5, none⟩ = some (.int .u64 x.w1) ∧ W.cell? ⟨qb, 6, none⟩ = some (.int .u64 x.w2) ∧ W.cell? ⟨qb, 7, none⟩ = some (.int .u64 x.w3) ∧ W.cell? ⟨qb, 8, none⟩ = some (.int .u64 x.bg) ∧ W.cell? ⟨qb, 9, none⟩ = some (.bool x.ca) ∧ W.cell? ⟨qm, 0, none⟩ = some (.int .i64 x.la) ∧ W.cell? ⟨qm, 1, none⟩ = some (.int .u64 x.w0) ∧ W.cell? ⟨qm, 2, none⟩ = some (.int .u64 x.w1) ∧ W.cell? ⟨qm, 3, none⟩ = some (.int .u64 x.w2) ∧ W.cell? ⟨qm, 4, none⟩ = some (.int .u64 x.w3) ∧ W.cell? ⟨qm, 5, none⟩ = some (.int .u64 x.bg) ∧ W.cell? ⟨qm, 6, none⟩ = some (.bool x.ca) ∧ W.cell? ⟨g4, 0, none⟩ = some (.int .i64 a))
                (first | exact Hsk.out _ (Kept.refl _ _) | exact Hsk.out _ hdk | exact Hsk.out _ hk10 | exact Hsk.out _ hk12)
                (first
                | (go_at_call 14; refine (Hn.out _ hdk).mono ?_; rintro e w10 ⟨rfl, hk9⟩; have hk10 := hdk.trans hk9)
                | (go_at_call 15; refine (fixed_any _).mono ?_; rintro e w11 ⟨rfl, hk11⟩; have hk12 := hk10.trans hk11))
              go_wp2_with fail
              go_ret
              exact ⟨rfl, none_below (Hk0.out.trans (hkw9.trans hk12))⟩
            · have hn : ∀ W : World, New w9 W → Calls Try.prog 14 #[.slice ao9 ml c9, .slice ((some ⟨g4, 0, none⟩ : Option Addr).map (fun x => x.add 1)) ml (c4 - 1)] W fun e w' => e = .returned (.bool true) ∧ New W w' := fun (W : World) (hk : New w9 W) => (nums_any _ _ ml l W (hs9.same hk) (hs4.same hk) (by omega)).mono (fun e w' ⟨h1, q, h2⟩ => ⟨h1, by rw [h2]; exact (Kept.refl _ _).drewN q⟩)
              have Hn := Lib.hid hn
              clear hn hsk hs9 hs4 hl hl9 hown hkx hS8 hkw8 hn8 hB8 t0 t1 t2 t3 t4 t5 t6 t7 t8 t9 m0 m1 m2 m3 m4 m5 m6 a4
              go_wp2_with fail
              go_region_held3 (fun W => W.cell? ⟨qb, 0, none⟩ = some (.bool true) ∧ W.cell? ⟨qb, 1, none⟩ = some (.int .i64 x.who) ∧ W.cell? ⟨qb, 2, none⟩ = some (.int .i64 a) ∧ W.cell? ⟨qb, 3, none⟩ = some (.int .i64 x.la) ∧ W.cell? ⟨qb, 4, none⟩ = some (.int .u64 x.w0) ∧ W.cell? ⟨qb, 5, none⟩ = some (.int .u64 x.w1) ∧ W.cell? ⟨qb, 6, none⟩ = some (.int .u64 x.w2) ∧ W.cell? ⟨qb, 7, none⟩ = some (.int .u64 x.w3) ∧ W.cell? ⟨qb, 8, none⟩ = some (.int .u64 x.bg) ∧ W.cell? ⟨qb, 9, none⟩ = some (.bool x.ca) ∧ W.cell? ⟨qm, 0, none⟩ = some (.int .i64 x.la) ∧ W.cell? ⟨qm, 1, none⟩ = some (.int .u64 x.w0) ∧ W.cell? ⟨qm, 2, none⟩ = some (.int .u64 x.w1) ∧ W.cell? ⟨qm, 3, none⟩ = some (.int .u64 x.w2) ∧ W.cell? ⟨qm, 4, none⟩ = some (.int .u64 x.w3) ∧ W.cell? ⟨qm, 5, none⟩ = some (.int .u64 x.bg) ∧ W.cell? ⟨qm, 6, none⟩ = some (.bool x.ca) ∧ W.cell? ⟨g4, 0, none⟩ = some (.int .i64 a))
                (first | exact Hsk.out _ (Kept.refl _ _) | exact Hsk.out _ hdk | exact Hsk.out _ hk10 | exact Hsk.out _ hk12)
                (first
                | (go_at_call 14; refine (Hn.out _ hdk).mono ?_; rintro e w10 ⟨rfl, hk9⟩; have hk10 := hdk.trans hk9)
                | (go_at_call 15; refine (fixed_any _).mono ?_; rintro e w11 ⟨rfl, hk11⟩; have hk12 := hk10.trans hk11))
              go_wp2_with fail
              go_ret
              exact ⟨rfl, none_below (Hk0.out.trans (hkw9.trans hk12))⟩
end Go.Proofs.Ytanongcaokldmaa

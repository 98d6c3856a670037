/- The walk of the law EndpointOnce. -/
import Derived.Test.YtanongcaokldmaaEndM
import Derived.Deep.DeepCutAuto
set_option linter.all false
namespace Go.Proofs.Ytanongcaokldmaa
open Go.RowKit

set_option maxRecDepth 100000 in
set_option maxHeartbeats 16000000 in
theorem walkEndpointOnce (w : World) (v : Value) (rows : List (List Value)) (hs : Src w v rows.length 10 rows.flatten) (hr : ∀ x ∈ rows, FlatOk [.int .i64, .int .i64, .int .i64, .int .u64, .int .u64, .int .u64, .int .u64, .int .u64, .bool, .bool] x) (hm : rows.length ≤ maxLen) :
    Calls Try.prog 3 #[v] w fun e w' => e = .returned (.bool true) ∧ Below w.heap.size w w' := by
  obtain ⟨L, hfl, hll, -⟩ := ops_of_rows hr
  rw [hfl] at hs
  obtain ⟨len, hlen⟩ : ∃ len, len = rows.length := ⟨_, rfl⟩
  rw [← hlen] at hs hm hll
  clear hr hfl hlen
  have Hs := Lib.hid hs
  obtain ⟨-, ao, c, rfl, hcells⟩ := Src.ops hs
  have Hll := Lib.hid hll
  have hlenm : len ≤ 9223372036854775807 := by have : maxLen = 9223372036854775807 := rfl; omega
  clear hs hll hcells hm
  go_enter Try.func3, Try.ntmps3
  go_wp2_with fail
  refine (new_any w).mono ?_
  rintro e w1 ⟨rfl, hN, hk1⟩
  obtain ⟨b, hb⟩ : ∃ b, b = w.heap.size := ⟨_, rfl⟩
  rw [← hb] at hN ⊢
  have hN1 : Ep (fun k => w.heap.size ≤ k) w1 b false [] := hN.mono (fun k hk => by omega)
  clear hb hN
  go_wp2_with fail
  go_loopw [4] (fun i wr => ∃ (k : Nat) (sd : Bool) (M : List On), k ≤ 80 ∧ k ≤ len ∧ i = .int .i64 k ∧ M.length ≤ k ∧ New w wr ∧ Ep (fun k => w.heap.size ≤ k) wr b sd M) (fun i _ => 80 - (intOf i).toNat)
  case atStart => exact ⟨0, false, [], by omega, by omega, rfl, by simp, hk1, hN1⟩
  case round =>
    clear hN1 hk1
    obtain ⟨k, sd, M, hk6, hk, rfl, hMk, hkr, hE⟩ := hrel
    by_cases h1 : k < len ∧ k < 80
    · obtain ⟨h1, h2⟩ := h1
      have h2' : (k : Int) < 80 := by omega
      obtain ⟨z, hz⟩ : ∃ z, L[k]? = some z := ⟨_, List.getElem?_eq_getElem (by have := Hll.out; omega)⟩
      obtain ⟨ao', c', he, hcl⟩ := (Src.ops (Hs.out.same hkr)).2
      cases he
      obtain ⟨B, Of, rfl, c0, c1, c2, c3, c4, c5, c6, c7, c8, c9⟩ := hcl k z hz
      have hM9 : M.length ≤ 900 := by omega
      obtain ⟨Wl, hWl⟩ : ∃ Wl, Wl = M.map (fun x => x.who) := ⟨_, rfl⟩
      have hWn : Wl.length = M.length := by rw [hWl, List.length_map]
      obtain ⟨nl, hnl⟩ : ∃ nl, nl = Wl.length := ⟨_, rfl⟩
      have hnl80 : nl ≤ 80 := by omega
      obtain ⟨r, hr⟩ : ∃ r, r = (sd && decide (0 < M.length)) := ⟨_, rfl⟩
      have Hr := Lib.hid hr
      have HWl := Lib.hid hWl
      have HWn := Lib.hid hWn
      have Hnl := Lib.hid hnl
      -- the call is laid
      obtain ⟨W1, hW1⟩ : ∃ W, W = wr.alloc (.cells #[.int .i64 z.kind, .int .i64 z.x.who, .int .i64 z.x.la, .int .u64 z.x.w0, .int .u64 z.x.w1, .int .u64 z.x.w2, .int .u64 z.x.w3, .int .u64 z.x.bg, .bool z.x.ca, .bool z.wa] 30) := ⟨_, rfl⟩
      have kW1 : New wr W1 := by rw [hW1]; exact (Kept.refl _ _).alloc _
      have hqo : W1.heap[wr.heap.size]? = some (blkP z) := by rw [hW1]; exact heap_alloc_new _ _
      obtain ⟨qo, hqoe⟩ : ∃ qo, qo = wr.heap.size := ⟨_, rfl⟩
      rw [← hqoe] at hqo
      have HW1 := Lib.hid hW1
      have Hqo := Lib.hid hqoe
      have hqol : qo < W1.heap.size := lt_of_heap hqo
      have hqos : wr.heap.size ≤ qo := Nat.le_of_eq hqoe.symm
      have hw0 := waits_any b sd r M W1 (hE.same kW1) (by omega) hr
      have Hw0 := Lib.hid hw0
      have HE := Lib.hid hE
      clear hcl hz hWl hWn hnl hr hW1 hqoe hw0 hE
      go_wp2_with fail
      rw [← HW1.out, ← Hqo.out]
      refine Hw0.out.mono ?_
      rintro e w2 ⟨v6, rfl, hown, hk2⟩
      rw [← HWl.out, ← HWn.out] at hown
      obtain ⟨a6, c6', hv6, -⟩ := Src.of_own hown
      rw [← Hnl.out] at hv6
      subst hv6
      have hl6 : LQ (.slice a6 nl c6') Wl (fun k => W1.heap.size ≤ k ∧ k < w2.heap.size) w2 := (LQ.ok _ _).sized (LQ.fresh hown)
      have hqo2 := hk2.heap hqo (fun h => h)
      obtain ⟨e0, e1, e2, e3, e4, e5, e6, e7, e8, e9⟩ := op10 (((Kept.refl (fun _ => False) w2).alloc (blkT false 0 0 on0)).heap hqo2 (fun h => h))
      obtain ⟨W2, hW2⟩ : ∃ W, W = w2.alloc (blkT false 0 0 on0) := ⟨_, rfl⟩
      have kW2 : New w2 W2 := by rw [hW2]; exact (Kept.refl _ _).alloc _
      have hqa : W2.heap[w2.heap.size]? = some (blkT false 0 0 on0) := by rw [hW2]; exact heap_alloc_new _ _
      obtain ⟨qa, hqae⟩ : ∃ qa, qa = w2.heap.size := ⟨_, rfl⟩
      rw [← hqae] at hqa
      have hqo3 := kW2.heap hqo2 (fun h => h)
      have hl6' := (LQ.ok _ _).kept hl6 kW2 (fun _ _ h => h)
      have HW2 := Lib.hid hW2
      have Hqa := Lib.hid hqae
      have kr2 : New wr W2 := (kW1.trans hk2).trans kW2
      have hqal : qa < W2.heap.size := lt_of_heap hqa
      have hqas : W1.heap.size ≤ qa := by rw [hqae]; exact hk2.size
      have hsz1 : wr.heap.size ≤ W1.heap.size := kW1.size
      clear hW2 hqae hown hl6 hqo hqo2 Hw0 hk2 c0 c1 c2 c3 c4 c5 c6 c7 c8 c9
      by_cases hk0 : z.kind = 0
      · rw [hk0] at e0
        obtain ⟨⟨⟨m1, m2, m3, m4, er⟩, sd', M'⟩, hsE⟩ : ∃ r, sendE sd M z.x z.wa = r := ⟨_, rfl⟩
        have hM' := sendE_length hsE
        have hcases := sendE_cases hsE
        have hcall := send_in2 w.heap.size b sd sd' z.wa m1 M M' z.x m4 m2 m3 er wr HE.out (by omega) hsE W2 kr2
        have Hcall := Lib.hid hcall
        have Hcases := Lib.hid hcases
        obtain ⟨r', hr'⟩ : ∃ r', r' = (sd' && decide (0 < M'.length)) := ⟨_, rfl⟩
        have Hr' := Lib.hid hr'
        obtain ⟨Wn, hWn'⟩ : ∃ Wn, Wn = M'.map (fun x => x.who) := ⟨_, rfl⟩
        have HWn' := Lib.hid hWn'
        have hn'' : Wn.length = M'.length := by rw [hWn', List.length_map]
        have Hn'' := Lib.hid hn''
        obtain ⟨nn, hnn⟩ : ∃ nn, nn = Wn.length := ⟨_, rfl⟩
        have Hnn := Lib.hid hnn
        have hnn80 : nn ≤ 81 := by omega
        clear hsE hcases hcall hr' hWn' hn'' hnn
        go_wp2_with fail
        have hW2x := HW2.out
        simp only [blkT, on0] at hW2x
        rw [← hW2x, ← Hqa.out]
        clear hW2x
        refine Hcall.out.mono ?_
        rintro e w3 ⟨he, hE3, hk3⟩
        simp only [metV] at he
        subst he
        have hqa3 := hk3.heap hqa (fun h => by have := h.2; omega)
        have hqo4 := hk3.heap hqo3 (fun h => by have := h.2; omega)
        have hl6'' := (LQ.ok _ _).kept hl6' hk3 (fun i h h2 => by have := h2.2; have := h.1; omega)
        obtain ⟨-, y0, -, y1, -, y2, -, y3, -, y4, -, y5, -, y6, -, y7, -, y8, -, y9⟩ := of10 hqa3
        obtain ⟨t0, -, t1, -, t2, -, t3, -, t4, -, t5, -, t6, -, t7, -, t8, -, t9, -⟩ := of10 hqa3
        obtain ⟨W3, hW3⟩ : ∃ W, W = (((((((((w3.setCell ⟨qa, 0, none⟩ (.bool m1)).setCell ⟨qa, 1, none⟩ (.int .i64 m2)).setCell ⟨qa, 2, none⟩ (.int .i64 m3)).setCell ⟨qa, 3, none⟩ (.int .i64 m4.la)).setCell ⟨qa, 4, none⟩ (.int .u64 m4.w0)).setCell ⟨qa, 5, none⟩ (.int .u64 m4.w1)).setCell ⟨qa, 6, none⟩ (.int .u64 m4.w2)).setCell ⟨qa, 7, none⟩ (.int .u64 m4.w3)).setCell ⟨qa, 8, none⟩ (.int .u64 m4.bg)).setCell ⟨qa, 9, none⟩ (.bool m4.ca) := ⟨_, rfl⟩
        have kW3 : Kept (fun k => k = qa) w3 W3 := by rw [hW3]; exact ten_kept w3 qa _ _ _ _ _ _ _ _ _ _
        have hqa5 : W3.heap[qa]? = some (blkT m1 m2 m3 m4) := by rw [hW3]; exact ten_heap hqa3 m1 m2 m3 m4
        have hE5 : Ep (fun k => (w.heap.size ≤ k ∧ k < wr.heap.size) ∨ W2.heap.size ≤ k) W3 b sd' M' := Ep.kept hE3 kW3 (fun i h e => by rw [e] at h; rcases h with h | h <;> omega)
        have hqo5 := kW3.heap hqo4 (fun e => by omega)
        have hl65 := (LQ.ok _ _).kept hl6'' kW3 (fun i h e => by have := h.2; have := Hqa.out; omega)
        have hkr5 : New w W3 := ((hkr.trans kr2).new hk3 (fun i hi => hi.1)).new kW3 (fun i e => by have := hkr.size; omega)
        have HW3 := Lib.hid hW3
        have HE5 := Lib.hid hE5
        clear hW3 hE3 hk3 hqa3 hqo4 hl6'' hl6' hqo3 hqa kW3 hE5 Hcall
        go_wp2_with fail
        rw [← HW3.out]
        clear HW3 t0 t1 t2 t3 t4 t5 t6 t7 t8 t9 y0 y1 y2 y3 y4 y5 y6 y7 y8 y9 e0 e1 e2 e3 e4 e5 e6 e7 e8 e9
        refine (waits_any b sd' r' M' _ HE5.out (by omega) Hr'.out).mono ?_
        rintro e w4 ⟨v10, rfl, hown, hk4⟩
        rw [← HWn'.out, ← Hn''.out] at hown
        obtain ⟨a10, c10, hv10, -⟩ := Src.of_own hown
        have s10 := Src.of_own hown
        rw [← Hnn.out] at hv10 s10
        subst hv10
        have hl64 := (LQ.ok _ _).kept hl65 hk4 (fun _ _ h => h)
        have s6 := Src.of_own hl64.1
        rw [← Hnl.out] at s6
        obtain ⟨e0, e1, e2, e3, e4, e5, e6, e7, e8, e9⟩ := op10 (hk4.heap hqo5 (fun h => h))
        obtain ⟨t0, -, t1, -, t2, -, t3, -, t4, -, t5, -, t6, -, t7, -, t8, -, t9, -⟩ := of10 (hk4.heap hqa5 (fun h => h))
        have hE4 := HE5.out.same hk4
        have hkr4 := hkr5.trans hk4
        have hE4' := Ep.mono (O' := fun k => w.heap.size ≤ k) hE4 (fun i h => h.elim (fun h => h.1) (fun h => Nat.le_trans (Nat.le_trans hkr.size kr2.size) h))
        have HE4 := Lib.hid hE4'
        rw [hk0] at e0
        clear hE4 hE4' hl65 hqo5 hqa5 hk4 hown HE5 hkr5
        obtain ⟨rfl, rfl, hMe, hpos⟩ | ⟨rfl, rfl, hm2, hm4, hC, hB⟩ | ⟨rfl, rfl, hB, hC⟩ := Hcases.out
        · have hnn' : nn = nl := by rw [Hnn.out, Hn''.out, hMe, Hnl.out, HWn.out]
          have hWe : Wn = Wl := by rw [HWn'.out, hMe, HWl.out]
          subst hnn'
          have hnums := nums_any _ _ nn Wl w4 s6 (by rw [← hWe]; exact s10) (by omega)
          have Hnums := Lib.hid hnums
          have hpz : (0 : Int) < nn := by have := Hnl.out; have := HWn.out; omega
          clear hnums hWe hMe s6 s10 hl64 hpos Hcases
          go_wp2_with fail
          refine Hnums.out.mono ?_
          rintro e w5 ⟨rfl, q5, rfl⟩
          go_wp2_with fail
          go_roundw
          case rel => exact ⟨k + 1, sd', M', by omega, by omega, by go_num, by omega, hkr4.drewN _, HE4.out.same ((Kept.refl _ _).drewN _)⟩
          case measure => simp [intOf]; omega
        · obtain ⟨a, l, hMa, hma, hMl⟩ := hB
          obtain ⟨i3, hi, hz0, hz1, hz2⟩ := info_parts info3
          have hrr : r = false := by rw [Hr.out, hC, hMa]; simp
          subst hrr
          have hWe : Wl = a.who :: Wn := by rw [HWl.out, hMa, HWn'.out, hMl]; rfl
          have hnn' : nl = nn + 1 := by rw [Hnl.out, hWe, List.length_cons, ← Hnn.out]
          obtain ⟨g6, rfl, x0⟩ := LQ.at (j := 0) (y := a.who) hl64 Hnl.out (by rw [hWe]; rfl)
          have HWe := Lib.hid hWe
          have Hs6 := Lib.hid s6
          have Hs10 := Lib.hid s10
          subst hm2
          subst hm4
          subst hma
          clear hMa hMl hWe s6 s10 hl64 Hcases Hr Hr' hC
          subst hnn'
          have hpz : (0 : Int) < (nn : Int) + 1 := by omega
          go_upto_region 20 with (at_builtin; refine wpList_append_src2 rfl _ _ 31 rfl w4.heap.size 3 i3 (.int .i64 0) 1 8 Try.underlying31 hi hz0 hz1 hz2 rfl (by decide) _ 0 [] rfl (World.ownsRow_made w4 #[] 0 (Nat.le_refl _) (by unfold maxLen; omega) rfl) _ (nn + 1) (vI Wl) (by first | rfl | exact rfl) (Hs6.out.same ((Kept.refl _ _).alloc _)) (by intro u hu; obtain ⟨x, -, rfl⟩ := List.mem_map.1 hu; rfl) (by unfold maxLen; omega) (by omega) (by simp) ?_; intro v' w5 hown' hgr hid; simp only [Nat.zero_add, List.nil_append] at hown'; obtain ⟨ao5, c5, hv5, _⟩ := Src.of_own hown'; have kg : New w4 w5 := ((Kept.refl _ _).alloc (.cells #[] 3)).grown hgr (fun k hk => .inl (by have h9 : w4.heap.size = k := Option.some.inj hk; omega)); have g9 := cell_kept kg e9 (fun h => h); have g1 := cell_kept kg e1 (fun h => h); have u0 := cell_kept kg t0 (fun h => h); rw [hv5])
          subst hv5
          have hcap := own_cap hown' rfl
          obtain ⟨g13, rfl, -⟩ := LQ.at (j := 0) (y := a.who) (LQ.fresh (base := w4.heap.size) (v := .slice ao5 (nn + 1) c5) (L := Wl) (by rw [← Hnl.out]; exact hown')) Hnl.out (by rw [HWe.out]; rfl)
          have hs13 := Src.tailI (m := 1) (Src.of_own hown') (by omega)
          have hdr : Wl.drop 1 = Wn := by rw [HWe.out]; rfl
          rw [hdr, Nat.add_sub_cancel] at hs13
          have Hs13 := Lib.hid hs13
          have q1 := cell_kept kg t1 (fun h => h)
          have q2 := cell_kept kg t2 (fun h => h)
          have q3 := cell_kept kg t3 (fun h => h)
          have q4 := cell_kept kg t4 (fun h => h)
          have q5 := cell_kept kg t5 (fun h => h)
          have q6 := cell_kept kg t6 (fun h => h)
          have q7 := cell_kept kg t7 (fun h => h)
          have q8 := cell_kept kg t8 (fun h => h)
          have q9 := cell_kept kg t9 (fun h => h)
          have g0 := cell_kept kg e0 (fun h => h)
          have g2 := cell_kept kg e2 (fun h => h)
          have g3 := cell_kept kg e3 (fun h => h)
          have g4 := cell_kept kg e4 (fun h => h)
          have g5 := cell_kept kg e5 (fun h => h)
          have g7 := cell_kept kg e6 (fun h => h)
          have g8 := cell_kept kg e7 (fun h => h)
          have g10 := cell_kept kg e8 (fun h => h)
          have gx := cell_kept kg x0 (fun h => h)
          have hcapz : (nn : Int) + 1 ≤ c5 := by omega
          have h1z : (1 : Int) ≤ (nn : Int) + 1 := by omega
          have h1c : (1 : Int) ≤ c5 := by omega
          clear hown' hdr hs13 hgr hid
          by_cases hc1 : c5 = 1
          · subst hc1
            have hml0 : nn = 0 := by omega
            have hWn0 : Wn = [] := List.eq_nil_of_length_eq_zero (by rw [← Hnn.out]; exact hml0)
            have hnums := nums_any (.slice a10 nn c10) (.slice (some ⟨g13, 0, none⟩) 0 0) nn Wn w5 (Hs10.out.same kg) (by rw [hml0, hWn0]; exact ⟨_, _, rfl, fun _ => rfl, rfl, fun j u hj => by simp at hj⟩) (by omega)
            have Hnums := Lib.hid hnums
            subst hml0
            clear hWn0 hnums hcapz h1z h1c
            go_wp2_with fail
            refine Hnums.out.mono ?_
            rintro e w7 ⟨rfl, q10, rfl⟩
            clear Hnums
            go_wp2_with fail
            go_quiet (fail)
            go_wp2_with fail
            go_roundw
            case rel => exact ⟨k + 1, sd', M', by omega, by omega, by go_num, by omega, hkr4.trans (kg.drewN _), HE4.out.same (kg.drewN _)⟩
            case measure => simp [intOf]; omega
          · have hnums := nums_any (.slice a10 nn c10) (.slice ((some ⟨g13, 0, none⟩ : Option Addr).map (fun x => x.add 1)) nn (c5 - 1)) nn Wn w5 (Hs10.out.same kg) Hs13.out (by omega)
            have Hnums := Lib.hid hnums
            clear hnums
            go_wp2_with fail
            refine Hnums.out.mono ?_
            rintro e w7 ⟨rfl, q10, rfl⟩
            clear Hnums
            go_wp2_with fail
            go_quiet (fail)
            go_wp2_with fail
            go_roundw
            case rel => exact ⟨k + 1, sd', M', by omega, by omega, by go_num, by omega, hkr4.trans (kg.drewN _), HE4.out.same (kg.drewN _)⟩
            case measure => simp [intOf]; omega
        · obtain ⟨i3, hi, hz0, hz1, hz2⟩ := info_parts info3
          have Hs6 := Lib.hid s6
          have Hs10 := Lib.hid s10
          have HB := Lib.hid hB
          clear s6 s10 hl64 Hcases hB
          rcases hC with hC | ⟨hC, hpos⟩
          · have hn0 : nl = 0 := by rw [Hnl.out, HWn.out, hC]; rfl
            subst hn0
            have hcapX := Hs6
            rcases HB.out with ⟨hwa, hMe⟩ | ⟨hwa, hMe⟩
            · have hWe : Wn = Wl ++ [z.x.who] := by rw [HWn'.out, hMe, HWl.out, List.map_append]; rfl
              have hnn' : nn = 0 + 1 := by rw [Hnn.out, hWe, List.length_append, ← Hnl.out]; rfl
              have HWe := Lib.hid hWe
              have Hnn' := Lib.hid hnn'
              rw [hwa] at e9
              clear hwa hMe hWe hnn' HB hcapX
              go_wp2_with (first
                | (at_builtin; refine wpList_append_src2 rfl _ _ 31 rfl w4.heap.size 3 i3 (.int .i64 0) 1 8 Try.underlying31 hi hz0 hz1 hz2 rfl (by decide) _ 0 [] rfl (World.ownsRow_made w4 #[] 0 (Nat.le_refl _) (by unfold maxLen; omega) rfl) _ (0) (vI Wl) (by first | rfl | exact rfl) (Hs6.out.same ((Kept.refl _ _).alloc _)) (by intro u hu; obtain ⟨x, -, rfl⟩ := List.mem_map.1 hu; rfl) (by unfold maxLen; omega) (by omega) (by simp) ?_; intro v' w5 hown' hgr hid; simp only [Nat.zero_add, List.nil_append] at hown'; obtain ⟨ao5, c5, hv5, _⟩ := Src.of_own hown'; have kg : New w4 w5 := ((Kept.refl _ _).alloc (.cells #[] 3)).grown hgr (fun k hk => .inl (by have h9 : w4.heap.size = k := Option.some.inj hk; omega)); have g9 := cell_kept kg e9 (fun h => h); have g1 := cell_kept kg e1 (fun h => h); have u0 := cell_kept kg t0 (fun h => h); subst hv5; have Hlit := Lib.hid (Src.lit w5 #[.int .i64 z.x.who] 3 1 1 rfl); have o13 := Lib.hid (own_same (own_mono hown' (Nat.zero_le _)) ((Kept.refl _ w5).alloc (.cells #[.int .i64 z.x.who] 3))); have b13 := Lib.hid (fun k hk => own_block (k := k) hown' hk); clear hown' hgr hid)
                | (at_builtin; refine wpList_append_src2 rfl _ _ 31 rfl 0 3 i3 (.int .i64 0) 1 8 Try.underlying31 hi hz0 hz1 hz2 rfl (by decide) (.slice ao5 (0) c5) (0) (vI Wl) rfl o13.out _ 1 _ rfl Hlit.out (by simp [Value.oneCell']) (by unfold maxLen; omega) (by omega) (by simp) ?_; intro v'' w6 hown6 hgr6 hid6; obtain ⟨ao6, c6x, hv6, _⟩ := Src.of_own hown6; have kg6 : New w4 w6 := (kg.alloc _).grown hgr6 (fun k hk => .inl (b13.out k hk)); have u06 := cell_kept kg6 t0 (fun h => h); rw [hv6]))
              subst hv6
              have hnums := nums_any _ _ (0 + 1) (Wl ++ [z.x.who]) w6 (by have h9 := Hs10.out.same kg6; rw [Hnn'.out, HWe.out] at h9; exact h9) (by have h9 := Src.of_own hown6; simpa [vI] using h9) (by omega)
              rw [← Hnn'.out] at hnums
              have Hnums := Lib.hid hnums
              try rw [← Hnn'.out]
              clear hnums hown6 hid6 hgr6
              refine Hnums.out.mono ?_
              rintro e w7 ⟨rfl, q7, rfl⟩
              have kq : New w4 (w6.drewN q7) := kg6.drewN q7
              have uq := cell_kept kq t0 (fun h => h)
              clear Hnums
              go_wp2_with fail
              go_quiet (fail)
              go_wp2_with fail
              go_roundw
              case rel => exact ⟨k + 1, sd', M', by omega, by omega, by go_num, by omega, hkr4.trans (kg6.drewN _), HE4.out.same (kg6.drewN _)⟩
              case measure => simp [intOf]; omega
            · have hWe : Wn = Wl := by rw [HWn'.out, hMe, HWl.out]
              have hnn' : nn = 0 := by rw [Hnn.out, hWe, ← Hnl.out]
              have HWe := Lib.hid hWe
              have Hnn' := Lib.hid hnn'
              rw [hwa] at e9
              clear hwa hMe hWe hnn' HB hcapX
              go_wp2_with (at_builtin; refine wpList_append_src2 rfl _ _ 31 rfl w4.heap.size 3 i3 (.int .i64 0) 1 8 Try.underlying31 hi hz0 hz1 hz2 rfl (by decide) _ 0 [] rfl (World.ownsRow_made w4 #[] 0 (Nat.le_refl _) (by unfold maxLen; omega) rfl) _ (0) (vI Wl) (by first | rfl | exact rfl) (Hs6.out.same ((Kept.refl _ _).alloc _)) (by intro u hu; obtain ⟨x, -, rfl⟩ := List.mem_map.1 hu; rfl) (by unfold maxLen; omega) (by omega) (by simp) ?_; intro v' w5 hown' hgr hid; simp only [Nat.zero_add, List.nil_append] at hown'; obtain ⟨ao5, c5, hv5, _⟩ := Src.of_own hown'; have kg : New w4 w5 := ((Kept.refl _ _).alloc (.cells #[] 3)).grown hgr (fun k hk => .inl (by have h9 : w4.heap.size = k := Option.some.inj hk; omega)); have g9 := cell_kept kg e9 (fun h => h); have g1 := cell_kept kg e1 (fun h => h); have u0 := cell_kept kg t0 (fun h => h); rw [hv5])
              subst hv5
              have hnums := nums_any _ _ (0) Wl w5 (by have h9 := Hs10.out.same kg; rw [Hnn'.out, HWe.out] at h9; exact h9) (Src.of_own hown') (by omega)
              have Hnums := Lib.hid hnums
              try rw [Hnn'.out]
              clear hnums hown'
              refine Hnums.out.mono ?_
              rintro e w7 ⟨rfl, q7, rfl⟩
              have kq : New w4 (w5.drewN q7) := kg.drewN q7
              have uq := cell_kept kq t0 (fun h => h)
              clear Hnums
              go_wp2_with fail
              go_quiet (fail)
              go_wp2_with fail
              go_roundw
              case rel => exact ⟨k + 1, sd', M', by omega, by omega, by go_num, by omega, hkr4.trans (kg.drewN _), HE4.out.same (kg.drewN _)⟩
              case measure => simp [intOf]; omega
          · have hpz : (0 : Int) < nl := by have := Hnl.out; have := HWn.out; omega
            have hpz2 : ¬ nl = 0 := by omega
            have hrr : r = true := by rw [Hr.out, hC]; simp; try omega
            subst hrr
            clear hpos hC
            have hcapX := Hs6
            rcases HB.out with ⟨hwa, hMe⟩ | ⟨hwa, hMe⟩
            · have hWe : Wn = Wl ++ [z.x.who] := by rw [HWn'.out, hMe, HWl.out, List.map_append]; rfl
              have hnn' : nn = nl + 1 := by rw [Hnn.out, hWe, List.length_append, ← Hnl.out]; rfl
              have HWe := Lib.hid hWe
              have Hnn' := Lib.hid hnn'
              rw [hwa] at e9
              clear hwa hMe hWe hnn' HB hcapX
              go_wp2_with (first
                | (at_builtin; refine wpList_append_src2 rfl _ _ 31 rfl w4.heap.size 3 i3 (.int .i64 0) 1 8 Try.underlying31 hi hz0 hz1 hz2 rfl (by decide) _ 0 [] rfl (World.ownsRow_made w4 #[] 0 (Nat.le_refl _) (by unfold maxLen; omega) rfl) _ (nl) (vI Wl) (by first | rfl | exact rfl) (Hs6.out.same ((Kept.refl _ _).alloc _)) (by intro u hu; obtain ⟨x, -, rfl⟩ := List.mem_map.1 hu; rfl) (by unfold maxLen; omega) (by omega) (by simp) ?_; intro v' w5 hown' hgr hid; simp only [Nat.zero_add, List.nil_append] at hown'; obtain ⟨ao5, c5, hv5, _⟩ := Src.of_own hown'; have kg : New w4 w5 := ((Kept.refl _ _).alloc (.cells #[] 3)).grown hgr (fun k hk => .inl (by have h9 : w4.heap.size = k := Option.some.inj hk; omega)); have g9 := cell_kept kg e9 (fun h => h); have g1 := cell_kept kg e1 (fun h => h); have u0 := cell_kept kg t0 (fun h => h); subst hv5; have Hlit := Lib.hid (Src.lit w5 #[.int .i64 z.x.who] 3 1 1 rfl); have o13 := Lib.hid (own_same (own_mono hown' (Nat.zero_le _)) ((Kept.refl _ w5).alloc (.cells #[.int .i64 z.x.who] 3))); have b13 := Lib.hid (fun k hk => own_block (k := k) hown' hk); clear hown' hgr hid)
                | (at_builtin; refine wpList_append_src2 rfl _ _ 31 rfl 0 3 i3 (.int .i64 0) 1 8 Try.underlying31 hi hz0 hz1 hz2 rfl (by decide) (.slice ao5 (nl) c5) (nl) (vI Wl) rfl o13.out _ 1 _ rfl Hlit.out (by simp [Value.oneCell']) (by unfold maxLen; omega) (by omega) (by simp) ?_; intro v'' w6 hown6 hgr6 hid6; obtain ⟨ao6, c6x, hv6, _⟩ := Src.of_own hown6; have kg6 : New w4 w6 := (kg.alloc _).grown hgr6 (fun k hk => .inl (b13.out k hk)); have u06 := cell_kept kg6 t0 (fun h => h); rw [hv6]))
              subst hv6
              have hnums := nums_any _ _ (nl + 1) (Wl ++ [z.x.who]) w6 (by have h9 := Hs10.out.same kg6; rw [Hnn'.out, HWe.out] at h9; exact h9) (by have h9 := Src.of_own hown6; simpa [vI] using h9) (by omega)
              rw [← Hnn'.out] at hnums
              have Hnums := Lib.hid hnums
              try rw [← Hnn'.out]
              clear hnums hown6 hid6 hgr6
              refine Hnums.out.mono ?_
              rintro e w7 ⟨rfl, q7, rfl⟩
              have kq : New w4 (w6.drewN q7) := kg6.drewN q7
              have uq := cell_kept kq t0 (fun h => h)
              clear Hnums
              go_wp2_with fail
              go_quiet (fail)
              go_wp2_with fail
              go_roundw
              case rel => exact ⟨k + 1, sd', M', by omega, by omega, by go_num, by omega, hkr4.trans (kg6.drewN _), HE4.out.same (kg6.drewN _)⟩
              case measure => simp [intOf]; omega
            · have hWe : Wn = Wl := by rw [HWn'.out, hMe, HWl.out]
              have hnn' : nn = nl := by rw [Hnn.out, hWe, ← Hnl.out]
              have HWe := Lib.hid hWe
              have Hnn' := Lib.hid hnn'
              rw [hwa] at e9
              clear hwa hMe hWe hnn' HB hcapX
              go_wp2_with (at_builtin; refine wpList_append_src2 rfl _ _ 31 rfl w4.heap.size 3 i3 (.int .i64 0) 1 8 Try.underlying31 hi hz0 hz1 hz2 rfl (by decide) _ 0 [] rfl (World.ownsRow_made w4 #[] 0 (Nat.le_refl _) (by unfold maxLen; omega) rfl) _ (nl) (vI Wl) (by first | rfl | exact rfl) (Hs6.out.same ((Kept.refl _ _).alloc _)) (by intro u hu; obtain ⟨x, -, rfl⟩ := List.mem_map.1 hu; rfl) (by unfold maxLen; omega) (by omega) (by simp) ?_; intro v' w5 hown' hgr hid; simp only [Nat.zero_add, List.nil_append] at hown'; obtain ⟨ao5, c5, hv5, _⟩ := Src.of_own hown'; have kg : New w4 w5 := ((Kept.refl _ _).alloc (.cells #[] 3)).grown hgr (fun k hk => .inl (by have h9 : w4.heap.size = k := Option.some.inj hk; omega)); have g9 := cell_kept kg e9 (fun h => h); have g1 := cell_kept kg e1 (fun h => h); have u0 := cell_kept kg t0 (fun h => h); rw [hv5])
              subst hv5
              have hnums := nums_any _ _ (nl) Wl w5 (by have h9 := Hs10.out.same kg; rw [Hnn'.out, HWe.out] at h9; exact h9) (Src.of_own hown') (by omega)
              have Hnums := Lib.hid hnums
              try rw [Hnn'.out]
              clear hnums hown'
              refine Hnums.out.mono ?_
              rintro e w7 ⟨rfl, q7, rfl⟩
              have kq : New w4 (w5.drewN q7) := kg.drewN q7
              have uq := cell_kept kq t0 (fun h => h)
              clear Hnums
              go_wp2_with fail
              go_quiet (fail)
              go_wp2_with fail
              go_roundw
              case rel => exact ⟨k + 1, sd', M', by omega, by omega, by go_num, by omega, hkr4.trans (kg.drewN _), HE4.out.same (kg.drewN _)⟩
              case measure => simp [intOf]; omega
      · have hk0b : (z.kind != 0) = true := by simpa using hk0
        obtain ⟨⟨⟨m1, m2, m3, m4, er⟩, sd', M'⟩, hsE⟩ : ∃ r, recvE sd M z.x z.wa = r := ⟨_, rfl⟩
        have hM' := recvE_length hsE
        have hcases := recvE_cases hsE
        have hcall := recv_in2 w.heap.size b sd sd' z.wa m1 M M' z.x m4 m2 m3 er wr HE.out (by omega) hsE W2 kr2
        have Hcall := Lib.hid hcall
        have Hcases := Lib.hid hcases
        obtain ⟨r', hr'⟩ : ∃ r', r' = (sd' && decide (0 < M'.length)) := ⟨_, rfl⟩
        have Hr' := Lib.hid hr'
        obtain ⟨Wn, hWn'⟩ : ∃ Wn, Wn = M'.map (fun x => x.who) := ⟨_, rfl⟩
        have HWn' := Lib.hid hWn'
        have hn'' : Wn.length = M'.length := by rw [hWn', List.length_map]
        have Hn'' := Lib.hid hn''
        obtain ⟨nn, hnn⟩ : ∃ nn, nn = Wn.length := ⟨_, rfl⟩
        have Hnn := Lib.hid hnn
        have hnn80 : nn ≤ 81 := by omega
        clear hsE hcases hcall hr' hWn' hn'' hnn
        go_wp2_with fail
        have hW2x := HW2.out
        simp only [blkT, on0] at hW2x
        rw [← hW2x, ← Hqa.out]
        clear hW2x
        refine Hcall.out.mono ?_
        rintro e w3 ⟨he, hE3, hk3⟩
        simp only [metV] at he
        subst he
        have hqa3 := hk3.heap hqa (fun h => by have := h.2; omega)
        have hqo4 := hk3.heap hqo3 (fun h => by have := h.2; omega)
        have hl6'' := (LQ.ok _ _).kept hl6' hk3 (fun i h h2 => by have := h2.2; have := h.1; omega)
        obtain ⟨-, y0, -, y1, -, y2, -, y3, -, y4, -, y5, -, y6, -, y7, -, y8, -, y9⟩ := of10 hqa3
        obtain ⟨t0, -, t1, -, t2, -, t3, -, t4, -, t5, -, t6, -, t7, -, t8, -, t9, -⟩ := of10 hqa3
        obtain ⟨W3, hW3⟩ : ∃ W, W = (((((((((w3.setCell ⟨qa, 0, none⟩ (.bool m1)).setCell ⟨qa, 1, none⟩ (.int .i64 m2)).setCell ⟨qa, 2, none⟩ (.int .i64 m3)).setCell ⟨qa, 3, none⟩ (.int .i64 m4.la)).setCell ⟨qa, 4, none⟩ (.int .u64 m4.w0)).setCell ⟨qa, 5, none⟩ (.int .u64 m4.w1)).setCell ⟨qa, 6, none⟩ (.int .u64 m4.w2)).setCell ⟨qa, 7, none⟩ (.int .u64 m4.w3)).setCell ⟨qa, 8, none⟩ (.int .u64 m4.bg)).setCell ⟨qa, 9, none⟩ (.bool m4.ca) := ⟨_, rfl⟩
        have kW3 : Kept (fun k => k = qa) w3 W3 := by rw [hW3]; exact ten_kept w3 qa _ _ _ _ _ _ _ _ _ _
        have hqa5 : W3.heap[qa]? = some (blkT m1 m2 m3 m4) := by rw [hW3]; exact ten_heap hqa3 m1 m2 m3 m4
        have hE5 : Ep (fun k => (w.heap.size ≤ k ∧ k < wr.heap.size) ∨ W2.heap.size ≤ k) W3 b sd' M' := Ep.kept hE3 kW3 (fun i h e => by rw [e] at h; rcases h with h | h <;> omega)
        have hqo5 := kW3.heap hqo4 (fun e => by omega)
        have hl65 := (LQ.ok _ _).kept hl6'' kW3 (fun i h e => by have := h.2; have := Hqa.out; omega)
        have hkr5 : New w W3 := ((hkr.trans kr2).new hk3 (fun i hi => hi.1)).new kW3 (fun i e => by have := hkr.size; omega)
        have HW3 := Lib.hid hW3
        have HE5 := Lib.hid hE5
        clear hW3 hE3 hk3 hqa3 hqo4 hl6'' hl6' hqo3 hqa kW3 hE5 Hcall
        go_wp2_with fail
        rw [← HW3.out]
        clear HW3 t0 t1 t2 t3 t4 t5 t6 t7 t8 t9 y0 y1 y2 y3 y4 y5 y6 y7 y8 y9 e0 e1 e2 e3 e4 e5 e6 e7 e8 e9
        refine (waits_any b sd' r' M' _ HE5.out (by omega) Hr'.out).mono ?_
        rintro e w4 ⟨v10, rfl, hown, hk4⟩
        rw [← HWn'.out, ← Hn''.out] at hown
        obtain ⟨a10, c10, hv10, -⟩ := Src.of_own hown
        have s10 := Src.of_own hown
        rw [← Hnn.out] at hv10 s10
        subst hv10
        have hl64 := (LQ.ok _ _).kept hl65 hk4 (fun _ _ h => h)
        have s6 := Src.of_own hl64.1
        rw [← Hnl.out] at s6
        obtain ⟨e0, e1, e2, e3, e4, e5, e6, e7, e8, e9⟩ := op10 (hk4.heap hqo5 (fun h => h))
        obtain ⟨t0, -, t1, -, t2, -, t3, -, t4, -, t5, -, t6, -, t7, -, t8, -, t9, -⟩ := of10 (hk4.heap hqa5 (fun h => h))
        have hE4 := HE5.out.same hk4
        have hkr4 := hkr5.trans hk4
        have hE4' := Ep.mono (O' := fun k => w.heap.size ≤ k) hE4 (fun i h => h.elim (fun h => h.1) (fun h => Nat.le_trans (Nat.le_trans hkr.size kr2.size) h))
        have HE4 := Lib.hid hE4'

        clear hE4 hE4' hl65 hqo5 hqa5 hk4 hown HE5 hkr5
        obtain ⟨rfl, rfl, hMe, hpos⟩ | ⟨rfl, rfl, hm3, hC, hB⟩ | ⟨rfl, rfl, hB, hC⟩ := Hcases.out
        · have hnn' : nn = nl := by rw [Hnn.out, Hn''.out, hMe, Hnl.out, HWn.out]
          have hWe : Wn = Wl := by rw [HWn'.out, hMe, HWl.out]
          subst hnn'
          have hnums := nums_any _ _ nn Wl w4 s6 (by rw [← hWe]; exact s10) (by omega)
          have Hnums := Lib.hid hnums
          have hpz : (0 : Int) < nn := by have := Hnl.out; have := HWn.out; omega
          clear hnums hWe hMe s6 s10 hl64 hpos Hcases
          go_wp2_with fail
          refine Hnums.out.mono ?_
          rintro e w5 ⟨rfl, q5, rfl⟩
          go_wp2_with fail
          go_roundw
          case rel => exact ⟨k + 1, sd', M', by omega, by omega, by go_num, by omega, hkr4.drewN _, HE4.out.same ((Kept.refl _ _).drewN _)⟩
          case measure => simp [intOf]; omega
        · obtain ⟨a, l, hMa, hma, hMl⟩ := hB
          obtain ⟨i3, hi, hz0, hz1, hz2⟩ := info_parts info3
          have hrr : r = true := by rw [Hr.out, hC, hMa]; simp
          subst hrr
          have hWe : Wl = a.who :: Wn := by rw [HWl.out, hMa, HWn'.out, hMl]; rfl
          have hnn' : nl = nn + 1 := by rw [Hnl.out, hWe, List.length_cons, ← Hnn.out]
          obtain ⟨g6, rfl, x0⟩ := LQ.at (j := 0) (y := a.who) hl64 Hnl.out (by rw [hWe]; rfl)
          have HWe := Lib.hid hWe
          have Hs6 := Lib.hid s6
          have Hs10 := Lib.hid s10
          subst hm3
          have hk0c : (z.kind == 0) = false := by simpa using hk0
          subst hma
          clear hMa hMl hWe s6 s10 hl64 Hcases Hr Hr' hC
          subst hnn'
          have hpz : (0 : Int) < (nn : Int) + 1 := by omega
          go_upto_region 20 with (at_builtin; refine wpList_append_src2 rfl _ _ 31 rfl w4.heap.size 3 i3 (.int .i64 0) 1 8 Try.underlying31 hi hz0 hz1 hz2 rfl (by decide) _ 0 [] rfl (World.ownsRow_made w4 #[] 0 (Nat.le_refl _) (by unfold maxLen; omega) rfl) _ (nn + 1) (vI Wl) (by first | rfl | exact rfl) (Hs6.out.same ((Kept.refl _ _).alloc _)) (by intro u hu; obtain ⟨x, -, rfl⟩ := List.mem_map.1 hu; rfl) (by unfold maxLen; omega) (by omega) (by simp) ?_; intro v' w5 hown' hgr hid; simp only [Nat.zero_add, List.nil_append] at hown'; obtain ⟨ao5, c5, hv5, _⟩ := Src.of_own hown'; have kg : New w4 w5 := ((Kept.refl _ _).alloc (.cells #[] 3)).grown hgr (fun k hk => .inl (by have h9 : w4.heap.size = k := Option.some.inj hk; omega)); have g9 := cell_kept kg e9 (fun h => h); have g1 := cell_kept kg e1 (fun h => h); have u0 := cell_kept kg t0 (fun h => h); rw [hv5])
          subst hv5
          have hcap := own_cap hown' rfl
          obtain ⟨g13, rfl, -⟩ := LQ.at (j := 0) (y := a.who) (LQ.fresh (base := w4.heap.size) (v := .slice ao5 (nn + 1) c5) (L := Wl) (by rw [← Hnl.out]; exact hown')) Hnl.out (by rw [HWe.out]; rfl)
          have hs13 := Src.tailI (m := 1) (Src.of_own hown') (by omega)
          have hdr : Wl.drop 1 = Wn := by rw [HWe.out]; rfl
          rw [hdr, Nat.add_sub_cancel] at hs13
          have Hs13 := Lib.hid hs13
          have q1 := cell_kept kg t1 (fun h => h)
          have q2 := cell_kept kg t2 (fun h => h)
          have q3 := cell_kept kg t3 (fun h => h)
          have q4 := cell_kept kg t4 (fun h => h)
          have q5 := cell_kept kg t5 (fun h => h)
          have q6 := cell_kept kg t6 (fun h => h)
          have q7 := cell_kept kg t7 (fun h => h)
          have q8 := cell_kept kg t8 (fun h => h)
          have q9 := cell_kept kg t9 (fun h => h)
          have g0 := cell_kept kg e0 (fun h => h)
          have g2 := cell_kept kg e2 (fun h => h)
          have g3 := cell_kept kg e3 (fun h => h)
          have g4 := cell_kept kg e4 (fun h => h)
          have g5 := cell_kept kg e5 (fun h => h)
          have g7 := cell_kept kg e6 (fun h => h)
          have g8 := cell_kept kg e7 (fun h => h)
          have g10 := cell_kept kg e8 (fun h => h)
          have gx := cell_kept kg x0 (fun h => h)
          have hcapz : (nn : Int) + 1 ≤ c5 := by omega
          have h1z : (1 : Int) ≤ (nn : Int) + 1 := by omega
          have h1c : (1 : Int) ≤ c5 := by omega
          clear hown' hdr hs13 hgr hid
          by_cases hc1 : c5 = 1
          · subst hc1
            have hml0 : nn = 0 := by omega
            have hWn0 : Wn = [] := List.eq_nil_of_length_eq_zero (by rw [← Hnn.out]; exact hml0)
            have hnums := nums_any (.slice a10 nn c10) (.slice (some ⟨g13, 0, none⟩) 0 0) nn Wn w5 (Hs10.out.same kg) (by rw [hml0, hWn0]; exact ⟨_, _, rfl, fun _ => rfl, rfl, fun j u hj => by simp at hj⟩) (by omega)
            have Hnums := Lib.hid hnums
            subst hml0
            clear hWn0 hnums hcapz h1z h1c
            go_wp2_with fail
            refine Hnums.out.mono ?_
            rintro e w7 ⟨rfl, q10, rfl⟩
            clear Hnums
            go_wp2_with fail
            go_quiet (fail)
            go_wp2_with fail
            go_roundw
            case rel => exact ⟨k + 1, sd', M', by omega, by omega, by go_num, by omega, hkr4.trans (kg.drewN _), HE4.out.same (kg.drewN _)⟩
            case measure => simp [intOf]; omega
          · have hnums := nums_any (.slice a10 nn c10) (.slice ((some ⟨g13, 0, none⟩ : Option Addr).map (fun x => x.add 1)) nn (c5 - 1)) nn Wn w5 (Hs10.out.same kg) Hs13.out (by omega)
            have Hnums := Lib.hid hnums
            clear hnums
            go_wp2_with fail
            refine Hnums.out.mono ?_
            rintro e w7 ⟨rfl, q10, rfl⟩
            clear Hnums
            go_wp2_with fail
            go_quiet (fail)
            go_wp2_with fail
            go_roundw
            case rel => exact ⟨k + 1, sd', M', by omega, by omega, by go_num, by omega, hkr4.trans (kg.drewN _), HE4.out.same (kg.drewN _)⟩
            case measure => simp [intOf]; omega
        · obtain ⟨i3, hi, hz0, hz1, hz2⟩ := info_parts info3
          have Hs6 := Lib.hid s6
          have Hs10 := Lib.hid s10
          have HB := Lib.hid hB
          clear s6 s10 hl64 Hcases hB
          rcases hC with hC | ⟨hC, hpos⟩
          · have hn0 : nl = 0 := by rw [Hnl.out, HWn.out, hC]; rfl
            subst hn0
            have hcapX := Hs6
            rcases HB.out with ⟨hwa, hMe⟩ | ⟨hwa, hMe⟩
            · have hWe : Wn = Wl ++ [z.x.who] := by rw [HWn'.out, hMe, HWl.out, List.map_append]; rfl
              have hnn' : nn = 0 + 1 := by rw [Hnn.out, hWe, List.length_append, ← Hnl.out]; rfl
              have HWe := Lib.hid hWe
              have Hnn' := Lib.hid hnn'
              rw [hwa] at e9
              clear hwa hMe hWe hnn' HB hcapX
              go_wp2_with (first
                | (at_builtin; refine wpList_append_src2 rfl _ _ 31 rfl w4.heap.size 3 i3 (.int .i64 0) 1 8 Try.underlying31 hi hz0 hz1 hz2 rfl (by decide) _ 0 [] rfl (World.ownsRow_made w4 #[] 0 (Nat.le_refl _) (by unfold maxLen; omega) rfl) _ (0) (vI Wl) (by first | rfl | exact rfl) (Hs6.out.same ((Kept.refl _ _).alloc _)) (by intro u hu; obtain ⟨x, -, rfl⟩ := List.mem_map.1 hu; rfl) (by unfold maxLen; omega) (by omega) (by simp) ?_; intro v' w5 hown' hgr hid; simp only [Nat.zero_add, List.nil_append] at hown'; obtain ⟨ao5, c5, hv5, _⟩ := Src.of_own hown'; have kg : New w4 w5 := ((Kept.refl _ _).alloc (.cells #[] 3)).grown hgr (fun k hk => .inl (by have h9 : w4.heap.size = k := Option.some.inj hk; omega)); have g9 := cell_kept kg e9 (fun h => h); have g1 := cell_kept kg e1 (fun h => h); have u0 := cell_kept kg t0 (fun h => h); subst hv5; have Hlit := Lib.hid (Src.lit w5 #[.int .i64 z.x.who] 3 1 1 rfl); have o13 := Lib.hid (own_same (own_mono hown' (Nat.zero_le _)) ((Kept.refl _ w5).alloc (.cells #[.int .i64 z.x.who] 3))); have b13 := Lib.hid (fun k hk => own_block (k := k) hown' hk); clear hown' hgr hid)
                | (at_builtin; refine wpList_append_src2 rfl _ _ 31 rfl 0 3 i3 (.int .i64 0) 1 8 Try.underlying31 hi hz0 hz1 hz2 rfl (by decide) (.slice ao5 (0) c5) (0) (vI Wl) rfl o13.out _ 1 _ rfl Hlit.out (by simp [Value.oneCell']) (by unfold maxLen; omega) (by omega) (by simp) ?_; intro v'' w6 hown6 hgr6 hid6; obtain ⟨ao6, c6x, hv6, _⟩ := Src.of_own hown6; have kg6 : New w4 w6 := (kg.alloc _).grown hgr6 (fun k hk => .inl (b13.out k hk)); have u06 := cell_kept kg6 t0 (fun h => h); rw [hv6]))
              subst hv6
              have hnums := nums_any _ _ (0 + 1) (Wl ++ [z.x.who]) w6 (by have h9 := Hs10.out.same kg6; rw [Hnn'.out, HWe.out] at h9; exact h9) (by have h9 := Src.of_own hown6; simpa [vI] using h9) (by omega)
              rw [← Hnn'.out] at hnums
              have Hnums := Lib.hid hnums
              try rw [← Hnn'.out]
              clear hnums hown6 hid6 hgr6
              refine Hnums.out.mono ?_
              rintro e w7 ⟨rfl, q7, rfl⟩
              have kq : New w4 (w6.drewN q7) := kg6.drewN q7
              have uq := cell_kept kq t0 (fun h => h)
              clear Hnums
              go_wp2_with fail
              go_quiet (fail)
              go_wp2_with fail
              go_roundw
              case rel => exact ⟨k + 1, sd', M', by omega, by omega, by go_num, by omega, hkr4.trans (kg6.drewN _), HE4.out.same (kg6.drewN _)⟩
              case measure => simp [intOf]; omega
            · have hWe : Wn = Wl := by rw [HWn'.out, hMe, HWl.out]
              have hnn' : nn = 0 := by rw [Hnn.out, hWe, ← Hnl.out]
              have HWe := Lib.hid hWe
              have Hnn' := Lib.hid hnn'
              rw [hwa] at e9
              clear hwa hMe hWe hnn' HB hcapX
              go_wp2_with (at_builtin; refine wpList_append_src2 rfl _ _ 31 rfl w4.heap.size 3 i3 (.int .i64 0) 1 8 Try.underlying31 hi hz0 hz1 hz2 rfl (by decide) _ 0 [] rfl (World.ownsRow_made w4 #[] 0 (Nat.le_refl _) (by unfold maxLen; omega) rfl) _ (0) (vI Wl) (by first | rfl | exact rfl) (Hs6.out.same ((Kept.refl _ _).alloc _)) (by intro u hu; obtain ⟨x, -, rfl⟩ := List.mem_map.1 hu; rfl) (by unfold maxLen; omega) (by omega) (by simp) ?_; intro v' w5 hown' hgr hid; simp only [Nat.zero_add, List.nil_append] at hown'; obtain ⟨ao5, c5, hv5, _⟩ := Src.of_own hown'; have kg : New w4 w5 := ((Kept.refl _ _).alloc (.cells #[] 3)).grown hgr (fun k hk => .inl (by have h9 : w4.heap.size = k := Option.some.inj hk; omega)); have g9 := cell_kept kg e9 (fun h => h); have g1 := cell_kept kg e1 (fun h => h); have u0 := cell_kept kg t0 (fun h => h); rw [hv5])
              subst hv5
              have hnums := nums_any _ _ (0) Wl w5 (by have h9 := Hs10.out.same kg; rw [Hnn'.out, HWe.out] at h9; exact h9) (Src.of_own hown') (by omega)
              have Hnums := Lib.hid hnums
              try rw [Hnn'.out]
              clear hnums hown'
              refine Hnums.out.mono ?_
              rintro e w7 ⟨rfl, q7, rfl⟩
              have kq : New w4 (w5.drewN q7) := kg.drewN q7
              have uq := cell_kept kq t0 (fun h => h)
              clear Hnums
              go_wp2_with fail
              go_quiet (fail)
              go_wp2_with fail
              go_roundw
              case rel => exact ⟨k + 1, sd', M', by omega, by omega, by go_num, by omega, hkr4.trans (kg.drewN _), HE4.out.same (kg.drewN _)⟩
              case measure => simp [intOf]; omega
          · have hpz : (0 : Int) < nl := by have := Hnl.out; have := HWn.out; omega
            have hpz2 : ¬ nl = 0 := by omega
            have hrr : r = false := by rw [Hr.out, hC]; simp; try omega
            subst hrr
            clear hpos hC
            have hcapX := Hs6
            rcases HB.out with ⟨hwa, hMe⟩ | ⟨hwa, hMe⟩
            · have hWe : Wn = Wl ++ [z.x.who] := by rw [HWn'.out, hMe, HWl.out, List.map_append]; rfl
              have hnn' : nn = nl + 1 := by rw [Hnn.out, hWe, List.length_append, ← Hnl.out]; rfl
              have HWe := Lib.hid hWe
              have Hnn' := Lib.hid hnn'
              rw [hwa] at e9
              clear hwa hMe hWe hnn' HB hcapX
              go_wp2_with (first
                | (at_builtin; refine wpList_append_src2 rfl _ _ 31 rfl w4.heap.size 3 i3 (.int .i64 0) 1 8 Try.underlying31 hi hz0 hz1 hz2 rfl (by decide) _ 0 [] rfl (World.ownsRow_made w4 #[] 0 (Nat.le_refl _) (by unfold maxLen; omega) rfl) _ (nl) (vI Wl) (by first | rfl | exact rfl) (Hs6.out.same ((Kept.refl _ _).alloc _)) (by intro u hu; obtain ⟨x, -, rfl⟩ := List.mem_map.1 hu; rfl) (by unfold maxLen; omega) (by omega) (by simp) ?_; intro v' w5 hown' hgr hid; simp only [Nat.zero_add, List.nil_append] at hown'; obtain ⟨ao5, c5, hv5, _⟩ := Src.of_own hown'; have kg : New w4 w5 := ((Kept.refl _ _).alloc (.cells #[] 3)).grown hgr (fun k hk => .inl (by have h9 : w4.heap.size = k := Option.some.inj hk; omega)); have g9 := cell_kept kg e9 (fun h => h); have g1 := cell_kept kg e1 (fun h => h); have u0 := cell_kept kg t0 (fun h => h); subst hv5; have Hlit := Lib.hid (Src.lit w5 #[.int .i64 z.x.who] 3 1 1 rfl); have o13 := Lib.hid (own_same (own_mono hown' (Nat.zero_le _)) ((Kept.refl _ w5).alloc (.cells #[.int .i64 z.x.who] 3))); have b13 := Lib.hid (fun k hk => own_block (k := k) hown' hk); clear hown' hgr hid)
                | (at_builtin; refine wpList_append_src2 rfl _ _ 31 rfl 0 3 i3 (.int .i64 0) 1 8 Try.underlying31 hi hz0 hz1 hz2 rfl (by decide) (.slice ao5 (nl) c5) (nl) (vI Wl) rfl o13.out _ 1 _ rfl Hlit.out (by simp [Value.oneCell']) (by unfold maxLen; omega) (by omega) (by simp) ?_; intro v'' w6 hown6 hgr6 hid6; obtain ⟨ao6, c6x, hv6, _⟩ := Src.of_own hown6; have kg6 : New w4 w6 := (kg.alloc _).grown hgr6 (fun k hk => .inl (b13.out k hk)); have u06 := cell_kept kg6 t0 (fun h => h); rw [hv6]))
              subst hv6
              have hnums := nums_any _ _ (nl + 1) (Wl ++ [z.x.who]) w6 (by have h9 := Hs10.out.same kg6; rw [Hnn'.out, HWe.out] at h9; exact h9) (by have h9 := Src.of_own hown6; simpa [vI] using h9) (by omega)
              rw [← Hnn'.out] at hnums
              have Hnums := Lib.hid hnums
              try rw [← Hnn'.out]
              clear hnums hown6 hid6 hgr6
              refine Hnums.out.mono ?_
              rintro e w7 ⟨rfl, q7, rfl⟩
              have kq : New w4 (w6.drewN q7) := kg6.drewN q7
              have uq := cell_kept kq t0 (fun h => h)
              clear Hnums
              go_wp2_with fail
              go_quiet (fail)
              go_wp2_with fail
              go_roundw
              case rel => exact ⟨k + 1, sd', M', by omega, by omega, by go_num, by omega, hkr4.trans (kg6.drewN _), HE4.out.same (kg6.drewN _)⟩
              case measure => simp [intOf]; omega
            · have hWe : Wn = Wl := by rw [HWn'.out, hMe, HWl.out]
              have hnn' : nn = nl := by rw [Hnn.out, hWe, ← Hnl.out]
              have HWe := Lib.hid hWe
              have Hnn' := Lib.hid hnn'
              rw [hwa] at e9
              clear hwa hMe hWe hnn' HB hcapX
              go_wp2_with (at_builtin; refine wpList_append_src2 rfl _ _ 31 rfl w4.heap.size 3 i3 (.int .i64 0) 1 8 Try.underlying31 hi hz0 hz1 hz2 rfl (by decide) _ 0 [] rfl (World.ownsRow_made w4 #[] 0 (Nat.le_refl _) (by unfold maxLen; omega) rfl) _ (nl) (vI Wl) (by first | rfl | exact rfl) (Hs6.out.same ((Kept.refl _ _).alloc _)) (by intro u hu; obtain ⟨x, -, rfl⟩ := List.mem_map.1 hu; rfl) (by unfold maxLen; omega) (by omega) (by simp) ?_; intro v' w5 hown' hgr hid; simp only [Nat.zero_add, List.nil_append] at hown'; obtain ⟨ao5, c5, hv5, _⟩ := Src.of_own hown'; have kg : New w4 w5 := ((Kept.refl _ _).alloc (.cells #[] 3)).grown hgr (fun k hk => .inl (by have h9 : w4.heap.size = k := Option.some.inj hk; omega)); have g9 := cell_kept kg e9 (fun h => h); have g1 := cell_kept kg e1 (fun h => h); have u0 := cell_kept kg t0 (fun h => h); rw [hv5])
              subst hv5
              have hnums := nums_any _ _ (nl) Wl w5 (by have h9 := Hs10.out.same kg; rw [Hnn'.out, HWe.out] at h9; exact h9) (Src.of_own hown') (by omega)
              have Hnums := Lib.hid hnums
              try rw [Hnn'.out]
              clear hnums hown'
              refine Hnums.out.mono ?_
              rintro e w7 ⟨rfl, q7, rfl⟩
              have kq : New w4 (w5.drewN q7) := kg.drewN q7
              have uq := cell_kept kq t0 (fun h => h)
              clear Hnums
              go_wp2_with fail
              go_quiet (fail)
              go_wp2_with fail
              go_roundw
              case rel => exact ⟨k + 1, sd', M', by omega, by omega, by go_num, by omega, hkr4.trans (kg.drewN _), HE4.out.same (kg.drewN _)⟩
              case measure => simp [intOf]; omega
    · by_cases h3 : k < len
      · have h2' : ¬ ((k : Int) < 80) := by omega
        go_wp2_with fail
        refine (fixed_any _).mono ?_
        rintro e w11 ⟨rfl, hk11⟩
        go_wp2_with fail
        go_ret
        exact ⟨rfl, none_below (hkr.trans hk11)⟩
      · have h3' : ¬ ((k : Int) < len) := by omega
        go_wp2_with fail
        refine (fixed_any _).mono ?_
        rintro e w11 ⟨rfl, hk11⟩
        go_wp2_with fail
        go_ret
        exact ⟨rfl, none_below (hkr.trans hk11)⟩
end Go.Proofs.Ytanongcaokldmaa

/- The reference of package order: line, last, Calls. -/
import Derived.Test.YtjimjkfnpklhiaaOrdP
set_option linter.all false
namespace Go.Proofs.Ytjimjkfnpklhiaa
open Go.RowKit Go.Maps

theorem Sd.cells {W : World} {ao : Option Addr} {n c : Nat} {L : List Sn} (h : Sd W (.slice ao n c) L) {i : Nat} {z : Sn} (hz : L[i]? = some z) : ∃ B Of, ao = some ⟨B, Of, none⟩ ∧
    W.cell? ⟨B, Of + i * 10, none⟩ = some (.int .i64 z.k) ∧ W.cell? ⟨B, Of + i * 10 + 1, none⟩ = some (.int .i64 z.c) ∧ W.cell? ⟨B, Of + i * 10 + 2, none⟩ = some (.int .i64 z.n) ∧ W.cell? ⟨B, Of + i * 10 + 3, none⟩ = some (.int .i64 z.t.e) ∧ W.cell? ⟨B, Of + i * 10 + 4, none⟩ = some (.int .u64 z.t.w) ∧ W.cell? ⟨B, Of + i * 10 + 5, none⟩ = some (.int .i64 z.t.k) ∧ W.cell? ⟨B, Of + i * 10 + 6, none⟩ = some (z.v) ∧ W.cell? ⟨B, Of + i * 10 + 7, none⟩ = some (.int .i64 z.fr) ∧ W.cell? ⟨B, Of + i * 10 + 8, none⟩ = some (.int .i64 z.rt) ∧ W.cell? ⟨B, Of + i * 10 + 9, none⟩ = some (.bool z.is) := by
  obtain ⟨-, ao', c', he, hcl⟩ := h.src.seen
  simp only [Value.slice.injEq] at he
  obtain ⟨rfl, -, rfl⟩ := he
  exact hcl i z hz
theorem Sd.num {W : World} {ao : Option Addr} {n c : Nat} {L : List Sn} (h : Sd W (.slice ao n c) L) : n = L.length := by
  obtain ⟨ao', c', he, -⟩ := h.src
  simp only [Value.slice.injEq] at he
  exact he.2.1

set_option maxRecDepth 100000 in
set_option maxHeartbeats 4000000 in
theorem rlast_any {w : World} {ao : Option Addr} {len c : Nat} {L : List Sn} (h : Sd w (.slice ao len c) L) (k : Nat) (s : Sn) (hs : L[k]? = some s) (κ : Int) (r : Int) (hr : lastF L s.c κ k = r) :
    Calls Try.prog 25 #[.slice ao len c, .int .i64 k, .int .i64 κ] w fun e w' => e = .returned (.int .i64 r) ∧ New w w' := by
  have hlen := h.num
  have hk := lt_of_some hs
  have hl61 := h.len
  have H := Lib.hid h
  have Hs := Lib.hid hs
  have Hlen := Lib.hid hlen
  have Hr := Lib.hid hr
  have hkl : k < len := by omega
  have hk61 : k < 61 := by omega
  have hw : IntKind.i64.wrap ((k : Int) - 1) = (k : Int) - 1 := by rw [IntKind.wrap_i64]; omega
  clear h hs hlen hr hk hl61
  go_enter Try.func25, Try.ntmps25
  go_wp2_with fail
  go_loopw [7] (fun i wr => ((∃ j : Nat, j < k ∧ i = .int .i64 j ∧ Hid (lastF L s.c κ (j + 1) = r)) ∨ (i = .int .i64 (-1) ∧ Hid (r = -1))) ∧ Hid (New w wr)) (fun i _ => (intOf i + 1).toNat)
  case atStart =>
    refine ⟨?_, Kept.refl _ _⟩
    rcases Nat.eq_zero_or_pos k with h0 | h0
    · right; subst h0; exact ⟨by simp, Hr.out.symm⟩
    · left; refine ⟨k - 1, by omega, by rw [show ((k - 1 : Nat) : Int) = (k : Int) - 1 by omega], ?_⟩
      rw [show k - 1 + 1 = k by omega]; exact Hr
  case round =>
    obtain ⟨⟨j, hj, rfl, Hj⟩ | ⟨rfl, Hj⟩, HN⟩ := hrel
    · obtain ⟨z, hz⟩ : ∃ z, L[j]? = some z := ⟨_, List.getElem?_eq_getElem (by have := Hlen.out; omega)⟩
      have hS := H.out.same HN.out
      obtain ⟨B, Of, rfl, d0, d1, -⟩ := hS.cells hz
      obtain ⟨B2, Of2, he, -, e1, -⟩ := hS.cells Hs.out
      simp only [Option.some.injEq, Addr.mk.injEq, and_true] at he
      obtain ⟨rfl, rfl⟩ := he
      have hjl : j < len := by omega
      have hjz : ¬ (j : Int) < 0 := by omega
      have hj0 : (0 : Int) ≤ (j : Int) := by omega
      have hjlz : (j : Int) < (len : Int) := by omega
      have hklz : (k : Int) < (len : Int) := by omega
      have hk0 : (0 : Int) ≤ (k : Int) := by omega
      have hw2 : IntKind.i64.wrap ((j : Int) - 1) = (j : Int) - 1 := by rw [IntKind.wrap_i64]; omega
      obtain ⟨sc, hsc⟩ : ∃ x, x = s.c := ⟨_, rfl⟩
      rw [← hsc] at e1
      obtain ⟨zc, hzc⟩ : ∃ x, x = z.c := ⟨_, rfl⟩
      rw [← hzc] at d1
      obtain ⟨zk, hzk⟩ : ∃ x, x = z.k := ⟨_, rfl⟩
      rw [← hzk] at d0
      have Hz := Lib.hid hz
      have Hzc := Lib.hid hzc
      have Hzk := Lib.hid hzk
      have Hsc := Lib.hid hsc
      clear hS hz hzc hzk hsc
      by_cases h1 : zc = sc
      · have b1 : (zc == sc) = true := by simpa using h1
        by_cases h2 : zk = κ
        · have b2 : (zk == κ) = true := by simpa using h2
          have hres : r = (j : Int) := by rw [← Hj.out]; exact lastF_hit Hz.out (by rw [← Hzc.out, h1, Hsc.out]) (by rw [← Hzk.out, h2])
          have Hres := Lib.hid hres
          clear h1 h2 hres
          go_wp2_with fail
          go_quiet (fail)
          go_wp2_with fail
          go_ret
          exact ⟨by rw [Hres.out]; rfl, HN.out.drewN _⟩
        · have b2 : (zk == κ) = false := by simpa using h2
          have hnext : lastF L s.c κ j = r := by rw [← Hj.out]; exact (lastF_miss Hz.out (fun h => h2 (by rw [Hzk.out]; exact h.2))).symm
          have Hnext := Lib.hid hnext
          clear h1 h2 hnext
          go_wp2_with fail
          go_quiet (fail)
          go_wp2_with fail
          go_roundw
          case rel =>
            refine ⟨?_, HN.out.drewN _⟩
            rcases Nat.eq_zero_or_pos j with h0 | h0
            · right; subst h0; exact ⟨rfl, Hnext.out.symm⟩
            · left; refine ⟨j - 1, by omega, by rw [show ((j - 1 : Nat) : Int) = (j : Int) - 1 by omega], ?_⟩
              rw [show j - 1 + 1 = j by omega]; exact Hnext
          case measure => simp [intOf] <;> omega
      · have b1 : (zc == sc) = false := by simpa using h1
        have hnext : lastF L s.c κ j = r := by rw [← Hj.out]; exact (lastF_miss Hz.out (fun h => h1 (by rw [Hzc.out, Hsc.out]; exact h.1))).symm
        have Hnext := Lib.hid hnext
        clear h1 hnext
        go_wp2_with fail
        go_quiet (fail)
        go_wp2_with fail
        go_roundw
        case rel =>
          refine ⟨?_, HN.out.drewN _⟩
          rcases Nat.eq_zero_or_pos j with h0 | h0
          · right; subst h0; exact ⟨rfl, Hnext.out.symm⟩
          · left; refine ⟨j - 1, by omega, by rw [show ((j - 1 : Nat) : Int) = (j : Int) - 1 by omega], ?_⟩
            rw [show j - 1 + 1 = j by omega]; exact Hnext
        case measure => simp [intOf] <;> omega
    · go_wp2_with fail
      go_ret
      exact ⟨by rw [Hj.out]; rfl, HN.out⟩

theorem own_row {w : World} {base : Nat} {v : Value} {xs : List Int} (h : w.ownsRow base 3 1 v xs.length (xs.map (Value.int .i64))) : ∃ ao c, v = .slice ao xs.length c ∧ xs.length ≤ c ∧ Src w (.slice ao xs.length c) xs.length 1 (xs.map (Value.int .i64)) ∧ (∀ k, (Value.slice ao xs.length c).ownBlock = some k → base ≤ k) := by
  rcases h.2 with ⟨rfl, h0⟩ | ⟨g, cap, cur, rfl, _, _, hc, _⟩
  · have h1 := Src.of_own h
    rw [h0] at h1 ⊢
    exact ⟨none, 0, rfl, Nat.le_refl _, h1, fun k hk => by cases hk⟩
  · exact ⟨_, cap, rfl, hc, Src.of_own h, fun k hk => own_block h hk⟩
theorem Src.dropI {w : World} {B O n cap : Nat} {x : Int} {F : List Int} (h : Src w (.slice (some ⟨B, O, none⟩) (n + 1) cap) (n + 1) 1 ((x :: F).map (Value.int .i64))) (o : Nat) (ho : 0 < n → o = O + 1) (c : Nat) : Src w (.slice (some ⟨B, o, none⟩) n c) n 1 (F.map (Value.int .i64)) := by
  obtain ⟨ao', c', he, hc, hl, h3⟩ := h
  simp only [Value.slice.injEq, true_and] at he
  obtain ⟨rfl, rfl⟩ := he
  have hl2 : F.length = n := by simpa using hl
  refine ⟨_, _, rfl, by simp, by simpa using hl2, fun j u hj => ?_⟩
  have hjl := (List.getElem?_eq_some_iff.1 hj).1
  simp at hjl
  rw [ho (by omega)]
  obtain ⟨ad, e, hcell⟩ := h3 (j + 1) u (by simpa using hj)
  cases e
  refine ⟨_, rfl, ?_⟩
  rw [addr_add] at hcell ⊢
  rw [show O + 1 + j = O + (j + 1) by omega]; exact hcell
theorem ints_one (F : List Int) : ∀ u ∈ F.map (Value.int .i64), u.oneCell' = true := by
  intro u hu; obtain ⟨x, -, rfl⟩ := List.mem_map.1 hu; rfl

set_option maxRecDepth 100000 in
set_option maxHeartbeats 8000000 in
theorem rline_any {w : World} {ao : Option Addr} {len c : Nat} {L : List Sn} (h : Sd w (.slice ao len c) L) (n : Nat) (hn1 : 1 ≤ n) (hn8 : n ≤ 8) (k : Nat) (hk : k ≤ len) (E : List En) (m : Nat) (hg : goE n [] 0 (L.take k) 0 = (-1, E, m)) :
    Calls Try.prog 24 #[.slice ao len c, .int .i64 k] w fun e w' => ∃ v, e = .returned v ∧ w'.ownsRow w.heap.size 3 1 v (coreL E).length ((coreL E).map (Value.int .i64)) ∧ New w w' := by
  have hlen := h.num
  have hl61 := h.len
  have H := Lib.hid h
  have Hlen := Lib.hid hlen
  have Hg := Lib.hid hg
  have hk61 : k ≤ 61 := by omega
  have hstep : ∀ j E1 m1 z, j < k → goE n [] 0 (L.take j) 0 = (-1, E1, m1) → L[j]? = some z → ∃ E2 m2, mayE E1 m1 z = (true, E2, m2) ∧ goE n [] 0 (L.take (j + 1)) 0 = (-1, E2, m2) := by
    intro j E1 m1 z hj hg1 hz
    have h9 := goE_pre n (L.take k) (j + 1) [] 0 0
    rw [List.take_take, Nat.min_eq_left (by omega), hg] at h9
    simp only [Int.natCast_zero, Int.zero_add] at h9
    rw [if_pos (by omega)] at h9
    rw [take_snoc2 hz, goE_append hg1] at h9
    by_cases hc : z.c < 0 ∨ (n : Int) ≤ z.c
    · rw [goE_out hc] at h9; simp at h9 <;> omega
    · obtain ⟨ok, E2, m2, hm⟩ : ∃ ok E2 m2, mayE E1 m1 z = (ok, E2, m2) := ⟨_, _, _, rfl⟩
      cases ok with
      | false => rw [goE_no hc hm] at h9; simp at h9 <;> omega
      | true => exact ⟨E2, m2, hm, by rw [take_snoc2 hz, goE_append hg1, goE_yes hc hm]; rfl⟩
  have Hstep := Lib.hid hstep
  clear h hlen hg hl61 hstep
  obtain ⟨i3, hi3, hy0, hy1, hy2⟩ := info_parts info3
  go_enter Try.func24, Try.ntmps24
  go_wp2_with fail
  have hE0 : (w.alloc (.cells #[] 3)).ownsRow w.heap.size 3 1 (.slice (some ⟨w.heap.size, 0, none⟩) 0 0) (coreL []).length ((coreL []).map (Value.int .i64)) := World.ownsRow_made w #[] 0 (Nat.le_refl _) (by unfold maxLen; omega) rfl
  go_loopw [5, 6] (fun o i wr => ∃ (j : Nat) (vo : Value) (E1 : List En) (m1 : Nat), j ≤ k ∧ vo = o ∧ i = .int .i64 j ∧ Hid (goE n [] 0 (L.take j) 0 = (-1, E1, m1)) ∧ Hid (wr.ownsRow w.heap.size 3 1 vo (coreL E1).length ((coreL E1).map (Value.int .i64))) ∧ Hid (New w wr)) (fun _ i _ => k - (intOf i).toNat)
  case atStart => exact ⟨0, _, [], 0, by omega, rfl, rfl, (by rw [Hid, List.take_zero]; rfl), hE0, (Kept.refl _ _).alloc _⟩
  case round =>
    clear hE0
    obtain ⟨j, vo, E1, m1, hj, rfl, rfl, HG, HO, HN⟩ := hrel
    by_cases h1 : j < k
    · have h1z : (j : Int) < (k : Int) := by omega
      have hjl : j < len := by omega
      have hjlz : (j : Int) < (len : Int) := by omega
      obtain ⟨z, hz⟩ : ∃ z, L[j]? = some z := ⟨_, List.getElem?_eq_getElem (by have := Hlen.out; omega)⟩
      obtain ⟨B, Of, rfl, d0w, d1w, -⟩ := H.out.cells hz
      obtain ⟨E2, m2, hm2, hg2⟩ := Hstep.out j E1 m1 z h1 HG.out hz
      obtain ⟨hc0, hc2, hcx⟩ := core_step hm2
      have hle : (coreL E1).length ≤ 8 := by
        have := (waits_law hn1 HG.out).2.1
        have h9 : (coreL E1).length = E1.length := by simp [coreL]
        omega
      obtain ⟨zk, hzk⟩ : ∃ x, x = z.k := ⟨_, rfl⟩
      obtain ⟨zc, hzc⟩ : ∃ x, x = z.c := ⟨_, rfl⟩
      rw [← hzk] at d0w hc0 hc2 hcx
      rw [← hzc] at d1w hc0
      have d0 := cell_kept HN.out d0w (fun h => h)
      have d1 := cell_kept HN.out d1w (fun h => h)
      have D0 := Lib.hid d0w
      clear d0w d1w
      obtain ⟨C1, hC1⟩ : ∃ x, x = coreL E1 := ⟨_, rfl⟩
      rw [← hC1] at hc0 hc2 hcx HO hle
      have Hg2 := Lib.hid hg2
      have Hc0 := Lib.hid hc0
      have Hc2 := Lib.hid hc2
      have Hcx := Lib.hid hcx
      have hsz := HN.out.size
      clear hz hm2 hg2 hc0 hc2 hcx hzk hzc hC1 HG
      by_cases k0 : zk = 0
      · have hnext := Hc0.out k0
        have Hnext := Lib.hid hnext
        have b0 : (zk == 0) = true := by simpa using k0
        have b2 : (zk == 2) = false := by rw [k0]; rfl
        have hown2 : (wr.alloc (.cells #[.int .i64 zc] 3)).ownsRow w.heap.size 3 1 vo C1.length (C1.map (Value.int .i64)) := own_same HO.out ((Kept.refl _ _).alloc _)
        have hlit := Src.lit wr #[.int .i64 zc] 3 1 1 rfl
        clear k0 hnext
        go_wp2_with (at_builtin; refine wpList_append_src2 rfl _ _ 26 rfl w.heap.size 3 i3 _ 1 8 Try.underlying26 hi3 hy0 hy1 hy2 rfl (by decide) vo _ _ rfl hown2 _ 1 _ rfl hlit (by simp [Value.oneCell']) (by unfold maxLen; omega) (by omega) (by simp <;> omega) ?_; intro v' w' hown' hgr hid; (have Hkp : Hid (New w w') := (HN.out.alloc _).grown hgr (fun i hi => .inl (own_block hown2 hi))); (have dz := cell_kept Hkp.out D0.out (fun h => h)); (have Hown := Lib.hid hown'); clear hown2 hlit hgr hown' hid)
        go_roundw
        case rel => exact ⟨j + 1, v', E2, m2, by omega, rfl, by go_num, Hg2, (by rw [Hid, Hnext.out, List.length_append, List.map_append]; exact Hown.out), Hkp⟩
        case measure => simp [intOf] <;> omega
      · have b0 : (zk == 0) = false := by simpa using k0
        by_cases k2 : zk = 2
        · have b2 : (zk == 2) = true := by simpa using k2
          obtain ⟨a, ha⟩ := Hc2.out k2
          obtain ⟨C2, hC2⟩ : ∃ x, x = coreL E2 := ⟨_, rfl⟩
          rw [← hC2] at ha
          have HC2 := Lib.hid hC2
          subst ha
          obtain ⟨q, hq⟩ : ∃ q, q = C2.length := ⟨_, rfl⟩
          have hO := HO.out
          rw [List.length_cons, ← hq] at hO
          obtain ⟨g, cap, rfl, hg, hR⟩ := Row.of_own hO (by omega)
          have hcap : q + 1 ≤ cap := by have := hR.le; simp at this; omega
          obtain ⟨cq, rfl⟩ : ∃ cq, cap = cq + 1 := ⟨cap - 1, by omega⟩
          have hsr := hR.src
          rw [List.length_map, List.length_cons, ← hq] at hsr
          have hle2 : q ≤ cq := by omega
          have hq8 : q ≤ 8 := by rw [List.length_cons] at hle; omega
          have hmk : (wr.alloc (.cells #[] 3)).ownsRow w.heap.size 3 1 (.slice (some ⟨wr.heap.size, 0, none⟩) 0 0) 0 (([] : List Int).map (Value.int .i64)) := World.ownsRow_made wr #[] 0 hsz (by unfold maxLen; omega) rfl
          have Hq := Lib.hid hq
          have h1q : (1 : Int) ≤ (q : Int) + 1 := by omega
          have h1c : (1 : Int) ≤ (cq : Int) + 1 := by omega
          have k0w : Kept (fun _ => False) wr (wr.alloc (.cells #[] 3)) := (Kept.refl _ _).alloc _
          have hc1 : (List.map (Value.int .i64) C2).length = q := by rw [List.length_map]; exact Hq.out.symm
          clear hq hO hR k0 hC2 HO k2 hcap
          by_cases hcq : cq = 0
          · subst hcq
            obtain rfl : q = 0 := by omega
            have hst : Src (wr.alloc (.cells #[] 3)) (.slice (some ⟨g, 0, none⟩) 0 0) 0 1 (C2.map (Value.int .i64)) := (hsr.dropI 0 (fun h => by omega) 0).same k0w
            clear hsr
            go_wp2_with (at_builtin; refine wpList_append_src2 rfl _ _ 26 rfl w.heap.size 3 i3 _ 1 8 Try.underlying26 hi3 hy0 hy1 hy2 rfl (by decide) _ 0 _ rfl hmk _ 0 _ rfl hst (ints_one _) (by unfold maxLen; omega) (by omega) (by simp <;> omega) ?_; intro v' w' hown' hgr hid; (have Hkp : Hid (New w w') := (HN.out.alloc _).grown hgr (fun i hi => .inl (own_block hmk hi))); rw [Nat.zero_add] at hown'; (have Hown := Lib.hid hown'); clear hmk hst hgr hown' hid)
            go_roundw
            case rel => exact ⟨j + 1, v', E2, m2, by omega, rfl, by go_num, Hg2, (by rw [← HC2.out, ← Hq.out]; exact Hown), Hkp⟩
            case measure => simp [intOf] <;> omega
          · have hst : Src (wr.alloc (.cells #[] 3)) (.slice (some ⟨g, 0 + 1, none⟩) q cq) q 1 (C2.map (Value.int .i64)) := (hsr.dropI (0 + 1) (fun _ => rfl) cq).same k0w
            simp only [Nat.zero_add] at hst
            clear hsr
            go_wp2_with (at_builtin; refine wpList_append_src2 rfl _ _ 26 rfl w.heap.size 3 i3 _ 1 8 Try.underlying26 hi3 hy0 hy1 hy2 rfl (by decide) _ 0 _ rfl hmk _ q _ rfl hst (ints_one _) (by unfold maxLen; omega) (by omega) (by simp <;> omega) ?_; intro v' w' hown' hgr hid; (have Hkp : Hid (New w w') := (HN.out.alloc _).grown hgr (fun i hi => .inl (own_block hmk hi))); rw [Nat.zero_add] at hown'; (have Hown := Lib.hid hown'); clear hmk hst hgr hown' hid)
            go_roundw
            case rel => exact ⟨j + 1, v', E2, m2, by omega, rfl, by go_num, Hg2, (by rw [← HC2.out, ← Hq.out]; exact Hown), Hkp⟩
            case measure => simp [intOf] <;> omega
        · have b2 : (zk == 2) = false := by simpa using k2
          have hnext := Hcx.out k0 k2
          have Hnext := Lib.hid hnext
          have HO2 : Hid (wr.ownsRow w.heap.size 3 1 vo C1.length (C1.map (Value.int .i64))) := HO
          clear hnext k0 k2
          go_wp2_with fail
          go_roundw
          case rel => exact ⟨j + 1, vo, E2, m2, by omega, rfl, by go_num, Hg2, (by rw [Hnext.out]; exact HO2), HN⟩
          case measure => simp [intOf] <;> omega
    · obtain rfl : k = j := by omega
      have hE : E1 = E := by
        have h9 := HG.out
        rw [Hg.out] at h9
        injection h9 with _ h9; injection h9 with h9 _; exact h9.symm
      subst hE
      have HO2 : Hid (wr.ownsRow w.heap.size 3 1 vo (coreL E1).length ((coreL E1).map (Value.int .i64))) := HO
      go_wp2_with fail
      go_ret
      exact ⟨_, rfl, HO2.out, HN.out⟩

set_option maxRecDepth 100000 in
set_option maxHeartbeats 4000000 in
theorem rcalls_any {w : World} {ao : Option Addr} {len c : Nat} {L : List Sn} (h : Sd w (.slice ao len c) L) :
    Calls Try.prog 17 #[.slice ao len c] w fun e w' => ∃ v, e = .returned v ∧ w'.ownsRow w.heap.size 3 1 v (callsE L).length ((callsE L).map (Value.int .i64)) ∧ New w w' := by
  have hlen := h.num
  have hl61 := h.len
  have H := Lib.hid h
  have Hlen := Lib.hid hlen
  have hk61 : len ≤ 61 := by omega
  clear h hlen hl61
  obtain ⟨i3, hi3, hy0, hy1, hy2⟩ := info_parts info3
  go_enter Try.func17, Try.ntmps17
  go_wp2_with fail
  have hE0 : (w.alloc (.cells #[] 3)).ownsRow w.heap.size 3 1 (.slice (some ⟨w.heap.size, 0, none⟩) 0 0) (callsE []).length ((callsE []).map (Value.int .i64)) := World.ownsRow_made w #[] 0 (Nat.le_refl _) (by unfold maxLen; omega) rfl
  go_loopw [3, 4] (fun o i wr => ∃ (j : Nat) (vo : Value), j ≤ len ∧ vo = o ∧ i = .int .i64 j ∧ Hid (wr.ownsRow w.heap.size 3 1 vo (callsE (L.take j)).length ((callsE (L.take j)).map (Value.int .i64))) ∧ Hid (New w wr)) (fun _ i _ => len - (intOf i).toNat)
  case atStart => exact ⟨0, _, by omega, rfl, rfl, (by rw [List.take_zero]; exact hE0), (Kept.refl _ _).alloc _⟩
  case round =>
    clear hE0
    obtain ⟨j, vo, hj, rfl, rfl, HO, HN⟩ := hrel
    by_cases h1 : j < len
    · have h1z : (j : Int) < (len : Int) := by omega
      obtain ⟨z, hz⟩ : ∃ z, L[j]? = some z := ⟨_, List.getElem?_eq_getElem (by have := Hlen.out; omega)⟩
      have hS := H.out.same HN.out
      obtain ⟨B, Of, rfl, d0, -, d2, -⟩ := hS.cells hz
      have hnext := callsE_take hz
      have hle : (callsE (L.take j)).length ≤ j := Nat.le_trans (callsE_len _) (by rw [List.length_take]; omega)
      obtain ⟨C1, hC1⟩ : ∃ x, x = callsE (L.take j) := ⟨_, rfl⟩
      rw [← hC1] at hnext HO hle
      obtain ⟨zk, hzk⟩ : ∃ x, x = z.k := ⟨_, rfl⟩
      obtain ⟨zn, hzn⟩ : ∃ x, x = z.n := ⟨_, rfl⟩
      rw [← hzk] at d0 hnext
      rw [← hzn] at d2 hnext
      have hsz := HN.out.size
      clear hS hz hC1 hzk hzn
      by_cases k1 : zk = 1
      · rw [if_pos k1] at hnext
        have Hnext := Lib.hid hnext
        have b1 : (zk == 1) = true := by simpa using k1
        have hown2 : (wr.alloc (.cells #[.int .i64 zn] 3)).ownsRow w.heap.size 3 1 vo C1.length (C1.map (Value.int .i64)) := own_same HO.out ((Kept.refl _ _).alloc _)
        have hlit := Src.lit wr #[.int .i64 zn] 3 1 1 rfl
        clear k1 hnext
        go_wp2_with (at_builtin; refine wpList_append_src2 rfl _ _ 26 rfl w.heap.size 3 i3 _ 1 8 Try.underlying26 hi3 hy0 hy1 hy2 rfl (by decide) vo _ _ rfl hown2 _ 1 _ rfl hlit (by simp [Value.oneCell']) (by unfold maxLen; omega) (by omega) (by simp <;> omega) ?_; intro v' w' hown' hgr hid; (have Hkp : Hid (New w w') := (HN.out.alloc _).grown hgr (fun i hi => .inl (own_block hown2 hi))); (have Hown := Lib.hid hown'); clear hown2 hlit hgr hown' hid)
        go_roundw
        case rel => exact ⟨j + 1, v', by omega, rfl, by go_num, (by rw [Hid, Hnext.out, List.length_append, List.map_append]; exact Hown.out), Hkp⟩
        case measure => simp [intOf] <;> omega
      · rw [if_neg k1, List.append_nil] at hnext
        have Hnext := Lib.hid hnext
        have b1 : (zk == 1) = false := by simpa using k1
        have HO2 : Hid (wr.ownsRow w.heap.size 3 1 vo C1.length (C1.map (Value.int .i64))) := HO
        clear k1 hnext
        go_wp2_with fail
        go_roundw
        case rel => exact ⟨j + 1, vo, by omega, rfl, by go_num, (by rw [Hnext.out]; exact HO2), HN⟩
        case measure => simp [intOf] <;> omega
    · obtain rfl : len = j := by omega
      rw [List.take_of_length_le (by have := Hlen.out; omega)] at HO
      have HO2 := Lib.hid HO.out
      go_wp2_with fail
      go_ret
      exact ⟨_, rfl, HO2.out, HN.out⟩
end Go.Proofs.Ytjimjkfnpklhiaa

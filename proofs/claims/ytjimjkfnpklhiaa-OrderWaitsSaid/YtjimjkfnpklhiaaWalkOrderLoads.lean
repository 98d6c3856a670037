/- The walk of the law OrderLoads. -/
import Derived.Test.YtjimjkfnpklhiaaOrdN
import Derived.Deep.DeepCutAuto
set_option linter.all false
namespace Go.Proofs.Ytjimjkfnpklhiaa
open Go.RowKit Go.Maps

/-- What is ahead of the first one that may not be. -/
def cutM (n : Nat) (M : List Sn) : List Sn := if 0 ≤ (goE n [] 0 M 0).1 then M.take (goE n [] 0 M 0).1.toNat else M
theorem cutM_go (n : Nat) (M : List Sn) : (goE n [] 0 (cutM n M) 0).1 = -1 := goE_all n M
theorem cutM_cases (n : Nat) (M : List Sn) : ((goE n [] 0 M 0).1 = -1 ∧ cutM n M = M) ∨ ∃ k : Nat, (goE n [] 0 M 0).1 = (k : Int) ∧ k < M.length ∧ cutM n M = M.take k := by
  rcases goE_range n M [] 0 0 with h | ⟨h1, h2⟩
  · exact .inl ⟨h, by rw [cutM, if_neg (by omega)]⟩
  · right
    obtain ⟨k, hk⟩ : ∃ k : Nat, (goE n [] 0 M 0).1 = (k : Int) := ⟨(goE n [] 0 M 0).1.toNat, by omega⟩
    refine ⟨k, hk, by omega, ?_⟩
    rw [cutM, if_pos (by omega), hk]
    simp
theorem mem_take_succ {l : List Int} {j : Nat} {x k : Int} (h : l[j]? = some x) : decide (k ∈ l.take (j + 1)) = (decide (k ∈ l.take j) || x == k) := by
  rw [List.take_succ, h]
  simp only [Option.toList_some, List.mem_append, List.mem_singleton, Bool.decide_or]
  by_cases e : x = k
  · simp [e]
  · have : ¬ k = x := fun e' => e e'.symm
    simp [e, this]
theorem Sd.one {W : World} {v : Value} {M : List Sn} (h : Sd W v M) : ∀ u ∈ M.flatMap encS, u.oneCell' = true := encS_one (fun s hs => by
  obtain ⟨ao, c, e, -⟩ := (h.all s hs).1
  rw [e]; rfl)
theorem Sd.snoc {w0 W W' : World} {v v' : Value} {M : List Sn} (h : Sd W v M) (k : New W W') (q : Nat) (h60 : M.length ≤ 60) (ho : W'.ownsRow w0.heap.size 40 10 v' (M.length + 1) (M.flatMap encS ++ encS (ec 3 q))) : Sd W' v' (M ++ [ec 3 q]) := by
  refine ⟨?_, fun s hs => ?_, by simp; omega⟩
  · rw [List.length_append, ← enc_snoc]; exact Src.of_own ho
  · rcases List.mem_append.1 hs with hs | hs
    · exact ⟨(h.all s hs).1.same k, (h.all s hs).2⟩
    · obtain rfl := List.mem_singleton.1 hs
      exact ⟨⟨none, 0, rfl, fun _ => rfl, rfl, fun j v hj => by simp at hj⟩, by simp⟩

set_option maxRecDepth 100000 in
set_option maxHeartbeats 8000000 in
theorem walkOrderLoads (w : World) (cores : Int) (_ : (Lit.int .i64 cores).wf = true) (v : Value) (rows : List (List Value)) (hs : Src w v rows.length 10 rows.flatten) (hr : ∀ x ∈ rows, Flat2Ok w ksSeen x) (hm : rows.length ≤ maxLen) (kq : Int) (_ : (Lit.int .i64 kq).wf = true) :
    Calls Try.prog 9 #[.int .i64 cores, v, .int .i64 kq] w fun e w' => e = .returned (.bool true) ∧ Below w.heap.size w w' := by
  obtain ⟨ao0, c0, rfl, -⟩ := id hs
  have hbound := bound_rows w _ rows hs hr hm
  have Hbound := Lib.hid hbound
  clear hbound hr hm hs
  obtain ⟨m, hmm, a0, a1⟩ := and_small cores 3 (by decide)
  simp only [Int.reducePow, Int.reduceSub] at hmm a1
  obtain ⟨m, rfl⟩ := Int.eq_ofNat_of_zero_le a0
  obtain ⟨n, hn⟩ : ∃ n : Nat, n = 1 + m := ⟨_, rfl⟩
  have hw1 : IntKind.i64.wrap (1 + (m : Int)) = (n : Int) := by rw [IntKind.wrap_i64]; omega
  have hn1 : 1 ≤ n := by omega
  have hn2 : n ≤ 8 := by omega
  clear hn a0 a1
  obtain ⟨y, hy, y0, y1⟩ := and_small kq 16 (by decide)
  simp only [Int.reducePow, Int.reduceSub] at hy y1
  obtain ⟨y, rfl⟩ := Int.eq_ofNat_of_zero_le y0
  clear y0 y1
  obtain ⟨q, hq⟩ : ∃ q, q = y % n := ⟨_, rfl⟩
  have hqn : q < n := by rw [hq]; exact Nat.mod_lt y (by omega)
  have hrem : Int.tmod (y : Int) (n : Int) = (q : Int) := by rw [Int.tmod_eq_emod_of_nonneg (by omega), hq]; rfl
  have hn0 : (n : Int) ≠ 0 := by omega
  have hn00 : ¬ n = 0 := by omega
  clear hq
  obtain ⟨i0, hi0, hz0, hz1, hz2⟩ := info_parts info40
  go_enter Try.func9, Try.ntmps9
  go_wp2_with fail
  refine Hbound.out.mono ?_
  rintro e w1 ⟨ao, len, c, M, rfl, hlen, hlc, hl60, hS, hk1⟩
  obtain ⟨len2, hlen2⟩ : ∃ l, l = (cutM n M).length := ⟨_, rfl⟩
  obtain ⟨M2, hM2⟩ : ∃ X, X = cutM n M := ⟨_, rfl⟩
  obtain ⟨ra, hra⟩ : ∃ ra, (goE n [] 0 M 0).1 = ra := ⟨_, rfl⟩
  have hgo := cutM_go n M
  rw [← hM2] at hgo hlen2
  obtain ⟨E, hE⟩ : ∃ E, (goE n [] 0 M2 0).2.1 = E := ⟨_, rfl⟩
  obtain ⟨mw, hmw⟩ : ∃ mw, (goE n [] 0 M2 0).2.2 = mw := ⟨_, rfl⟩
  have hg2 : goE n [] 0 M2 0 = (-1, E, mw) := Prod.ext hgo (Prod.ext hE hmw)
  have hS2 : Sd w1 (.slice ao len2 c) M2 ∧ len2 ≤ 60 ∧ len2 ≤ c := by
    rcases cutM_cases n M with ⟨-, h2⟩ | ⟨k, -, h2, h3⟩
    · rw [hlen2, hM2, h2, ← hlen]; exact ⟨hS, hl60, hlc⟩
    · have hk : M2.length = k := by rw [hM2, h3, List.length_take]; omega
      rw [hlen2, hk, hM2, h3]
      exact ⟨hS.take (by omega), by omega, by omega⟩
  have hcut : (ra = -1 ∧ len2 = len) ∨ (ra = (len2 : Int) ∧ len2 < len) := by
    rcases cutM_cases n M with ⟨h1, h2⟩ | ⟨k, h1, h2, h3⟩
    · left; rw [← hra, hlen2, hM2, h2]; exact ⟨h1, hlen.symm⟩
    · right
      have hk : M2.length = k := by rw [hM2, h3, List.length_take]; omega
      rw [← hra, hlen2, hk]
      exact ⟨h1, by omega⟩
  have hf1 := hS.first (Kept.refl _ _) n hn1 hn2 ra hra
  have Hf1 := Lib.hid hf1
  have HS2 := Lib.hid hS2.1
  have hl2 := hS2.2.1
  have hl2c := hS2.2.2
  have Hcut := Lib.hid hcut
  have Hg2 := Lib.hid hg2
  have Hlen2 := Lib.hid hlen2
  have HE := Lib.hid hE
  have Hmw := Lib.hid hmw
  have HK := Lib.hid hk1
  clear Hbound hlen hS hk1 hra hM2 hgo hS2 hf1 hcut hg2 hlen2 hE hmw
  go_wp2_with fail
  refine Hf1.out.mono ?_
  rintro e w2 ⟨rfl, hk2⟩
  go_upto_if 25 with fail
  go_cut [7] (fun s7 wx => s7 = .slice ao len2 c ∧ wx = w2)
  case first =>
    rcases Hcut.out with ⟨rfl, rfl⟩ | ⟨rfl, hlt⟩
    · go_wp2_with fail
      go_meet
      exact ⟨rfl, rfl⟩
    · have hltz : (len2 : Int) < (len : Int) := by omega
      have hle : ¬ (len : Int) < (len2 : Int) := by omega
      go_wp2_with fail
      go_meet
      exact ⟨rfl, rfl⟩
  case rest =>
    obtain ⟨rfl, rfl⟩ := hcut
    have hline := (HS2.out.same hk2).line (Kept.refl _ _) n hn1 hn2 E HE.out
    have Hline := Lib.hid hline
    have HS3 := Lib.hid (HS2.out.same hk2)
    have HK2 := Lib.hid (HK.out.trans hk2)
    clear hline hk2 Hf1 HK HS2 Hcut
    go_wp2_with fail
    refine Hline.out.mono ?_
    rintro e w3 ⟨aoL, cL, rfl, hsL, hk3⟩
    obtain ⟨eL, heL⟩ : ∃ l, l = E.length := ⟨_, rfl⟩
    obtain ⟨C, hC⟩ : ∃ C, C = coreL E := ⟨_, rfl⟩
    rw [← heL, ← hC] at hsL
    rw [← heL]
    obtain ⟨hCl, aoL', cL', hv, hcell⟩ := hsL.intsA
    simp only [Value.slice.injEq, true_and] at hv
    obtain ⟨rfl, rfl⟩ := hv
    have heL8 : eL ≤ 8 := by have := (waits_law hn1 Hg2.out).2.1; omega
    have Hcell := Lib.hid hcell
    have HCl := Lib.hid hCl
    have HeL := Lib.hid heL
    have HC := Lib.hid hC
    have HK3 := Lib.hid (HK2.out.trans hk3)
    have HS4 := Lib.hid (HS3.out.same hk3)
    clear hsL hcell hCl heL hC Hline HK2 HS3 hk3
    go_wp2_with fail
    go_loopw [12, 13] (fun t i wr => ∃ (j : Nat) (th : Bool), j ≤ eL ∧ t = .bool th ∧ i = .int .i64 j ∧ Hid (decide ((q : Int) ∈ C.take j) = th) ∧ wr = w3) (fun _ i _ => eL - (intOf i).toNat)
    case atStart => exact ⟨0, false, by omega, rfl, rfl, by simp [Hid], rfl⟩
    case round =>
      obtain ⟨j, th, hj, rfl, rfl, Hth, rfl⟩ := hrel
      by_cases h1 : j < eL
      · have h1z : (j : Int) < (eL : Int) := by omega
        obtain ⟨B, Of, rfl, hc0⟩ := Hcell.out j h1
        obtain ⟨x, hx⟩ : ∃ x, x = C.getD j 0 := ⟨_, rfl⟩
        rw [← hx] at hc0
        have hxj : C[j]? = some x := by rw [hx, List.getD_eq_getElem?_getD, List.getElem?_eq_getElem (by have := HCl.out; omega)]; rfl
        have hnext := mem_take_succ (k := (q : Int)) hxj
        rw [Hth.out] at hnext
        have Hnext := Lib.hid hnext
        clear hnext hxj hx
        cases th with
        | true =>
          go_wp2_with fail
          go_roundw
          case rel => exact ⟨j + 1, true, by omega, rfl, by go_num, by rw [Hid, Hnext.out]; rfl, by trivial⟩
          case measure => simp [intOf]; omega
        | false =>
          by_cases hxq : x = (q : Int)
          · have hb : (x == (q : Int)) = true := by simpa using hxq
            have Hxq := Lib.hid hxq
            clear hxq
            go_wp2_with fail
            go_roundw
            case rel => exact ⟨j + 1, true, by omega, rfl, by go_num, by rw [Hid, Hnext.out, Hxq.out]; simp, by trivial⟩
            case measure => simp [intOf]; omega
          · have hb : (x == (q : Int)) = false := by simpa using hxq
            have Hxq := Lib.hid hxq
            clear hxq
            go_wp2_with fail
            go_roundw
            case rel => exact ⟨j + 1, false, by omega, rfl, by go_num, by rw [Hid, Hnext.out, hb]; rfl, by trivial⟩
            case measure => simp [intOf]; omega
      · obtain rfl : eL = j := by omega
        have hth := Hth.out
        rw [List.take_of_length_le (by have := HCl.out; omega)] at hth
        have Hin := Lib.hid hth
        have hszw := HK3.out.size
        have hmk : (wr.alloc (.cells #[] 40)).ownsRow wr.heap.size 40 10 (.slice (some ⟨wr.heap.size, 0, none⟩) 0 0) 0 (([] : List Sn).flatMap encS) := World.ownsRow_made wr #[] 0 (Nat.le_refl _) (by unfold maxLen; omega) rfl
        have hsA : Src (wr.alloc (.cells #[] 40)) (.slice ao len2 c) len2 10 (M2.flatMap encS) := by
          have h9 := HS4.out.src.alloc (.cells #[] 40)
          rw [← Hlen2.out] at h9; exact h9
        have hone := HS4.out.one
        clear Hth Hcell hth
        go_wp2_with (first | (at_builtin; refine wpList_append_src rfl _ _ 22 rfl wr.heap.size 40 i0 _ 10 96 Try.underlying22 hi0 hz0 hz1 hz2 rfl (by decide) _ 0 _ rfl hmk _ len2 _ rfl hsA hone (by unfold maxLen; omega) (by omega) (by simp <;> omega) ?_; intro va wa hoa hga; (have kA : New wr wa := ((Kept.refl _ _).alloc (.cells #[] 40)).grown hga (fun i hi => .inl (by have h9 : wr.heap.size = i := Option.some.inj hi; omega))); rw [Nat.zero_add] at hoa; (have hoB : (wa.alloc (.cells #[.int .i64 3, .int .i64 (q : Int), .int .i64 0, .int .i64 0, .int .u64 0, .int .i64 0, .slice none 0 0, .int .i64 0, .int .i64 0, .bool false] 40)).ownsRow wr.heap.size 40 10 va len2 (M2.flatMap encS) := own_same hoa ((Kept.refl _ _).alloc _)); (have hlit := Src.lit wa #[.int .i64 3, .int .i64 (q : Int), .int .i64 0, .int .i64 0, .int .u64 0, .int .i64 0, .slice none 0 0, .int .i64 0, .int .i64 0, .bool false] 40 1 10 rfl); (have hsza := kA.size); clear hmk hsA hone hga hoa) | (at_builtin; refine wpList_append_src rfl _ _ 22 rfl wr.heap.size 40 i0 _ 10 96 Try.underlying22 hi0 hz0 hz1 hz2 rfl (by decide) va len2 _ rfl hoB _ 1 _ rfl hlit (by simp [Value.oneCell']) (by unfold maxLen; omega) (by omega) (by simp <;> omega) ?_; intro vb wb hob hgb; (have HkAB : Hid (New wr wb) := (kA.alloc _).grown hgb (fun i hi => .inl (own_block hoB hi))); (have HkB : Hid (New w wb) := HK3.out.trans HkAB.out); clear hoB hlit hgb))
        have hlaw := loads_law Hg2.out q hqn
        have hSm : Sd wb vb (M2 ++ [ec 3 q]) := HS4.out.snoc (w0 := wr) (HkAB.out) q (by rw [← Hlen2.out]; exact hl2) (by rw [← Hlen2.out]; exact hob)
        obtain ⟨rm, hrm⟩ : ∃ rm, (goE n [] 0 (M2 ++ [ec 3 q]) 0).1 = rm := ⟨_, rfl⟩
        have hEm : (goE n [] 0 (M2 ++ [ec 3 q]) 0).2.1 = E := by rw [hlaw]
        have hmm2 : (goE n [] 0 (M2 ++ [ec 3 q]) 0).2.2 = mw := by rw [hlaw]
        have hrm2 : (th = true ∧ rm = (len2 : Int)) ∨ (th = false ∧ rm = -1) := by
          rw [hlaw] at hrm
          have hin := Hin.out
          rw [HC.out] at hin
          simp only at hrm
          by_cases h : (q : Int) ∈ coreL E
          · rw [if_pos h] at hrm
            left; exact ⟨by rw [← hin]; simpa using h, by rw [← hrm, Hlen2.out]⟩
          · rw [if_neg h] at hrm
            right; exact ⟨by rw [← hin]; simpa using h, hrm.symm⟩
        have HSm := Lib.hid hSm
        have Hrm := Lib.hid hrm
        have HEm := Lib.hid hEm
        have Hmm2 := Lib.hid hmm2
        have Hrm2 := Lib.hid hrm2
        have HSb := Lib.hid (HS4.out.same HkAB.out)
        clear hlaw hSm hrm hEm hmm2 hrm2 hob HS4 HK3 HE
        refine (HSm.out.line (Kept.refl _ _) n hn1 hn2 E HEm.out).mono ?_
        rintro e w4 ⟨aoN, cN, rfl, -, hk4⟩
        rw [← HeL.out]
        go_wp2_with fail
        refine ((HSm.out.same hk4).first hk4 n hn1 hn2 rm Hrm.out).mono ?_
        rintro e w5 ⟨rfl, hk5⟩
        rcases Hrm2.out with ⟨rfl, rfl⟩ | ⟨rfl, rfl⟩
        · have hne : ¬ (len2 : Int) = -1 := by omega
          go_wp2_with fail
          refine ((HSm.out.same hk5).waits hk5 n hn1 hn2 mw Hmm2.out).mono ?_
          rintro e w6 ⟨rfl, hk6⟩
          go_wp2_with fail
          refine ((HSb.out.same hk6).waits hk6 n hn1 hn2 mw Hmw.out).mono ?_
          rintro e w7 ⟨rfl, hk7⟩
          go_wp2_with fail
          refine (fixed_new hk7).mono ?_
          rintro e w8 ⟨rfl, hk8⟩
          go_wp2_with fail
          go_ret
          exact ⟨rfl, none_below (HkB.out.trans hk8)⟩
        · go_wp2_with fail
          refine ((HSm.out.same hk5).waits hk5 n hn1 hn2 mw Hmm2.out).mono ?_
          rintro e w6 ⟨rfl, hk6⟩
          go_wp2_with fail
          refine ((HSb.out.same hk6).waits hk6 n hn1 hn2 mw Hmw.out).mono ?_
          rintro e w7 ⟨rfl, hk7⟩
          go_wp2_with fail
          refine (fixed_new hk7).mono ?_
          rintro e w8 ⟨rfl, hk8⟩
          go_wp2_with fail
          go_ret
          exact ⟨rfl, none_below (HkB.out.trans hk8)⟩
end Go.Proofs.Ytjimjkfnpklhiaa

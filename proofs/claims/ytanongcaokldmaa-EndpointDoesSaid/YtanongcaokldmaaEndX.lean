/- Package endpoint: the reference's Cancel and Badge. -/
import Derived.Test.YtanongcaokldmaaEndV
set_option linter.all false
namespace Go.Proofs.Ytanongcaokldmaa
open Go.RowKit

theorem own_other {w : World} {b1 b2 e1 e2 s1 s2 n m : Nat} {v u : Value} {xs ys : List Value} (h : w.ownsRow b1 e1 s1 v n xs) (h' : w.ownsRow b2 e2 s2 u m ys) (hne : e1 ≠ e2) : ∀ k, v.ownBlock = some k → ¬ u.ownBlock = some k := by
  intro k hk hk'
  obtain ⟨cc, hcc⟩ := own_type h hk
  obtain ⟨dd, hdd⟩ := own_type h' hk'
  exact heap_ne hcc hdd hne rfl
def refCancel (S : List On) (R : List Int) (who : Int) : Bool × List On × List Int := if inRf S R who then (true, S.filter (fun y => !(y.who == who)), R.filter (fun y => !(y == who))) else (false, S, R)

set_option maxRecDepth 100000 in
set_option maxHeartbeats 4000000 in
theorem rcancel_any {O : Nat → Prop} (q : Nat) (S S' : List On) (R R' : List Int) (who : Int) (r : Bool) (w : World) (h : Rf O w q S R) (hS : S.length ≤ 1000) (hR : R.length ≤ 1000) (he : refCancel S R who = (r, S', R')) :
    Calls Try.prog 21 #[.pointer (some ⟨q, 0, none⟩), .int .i64 who] w fun e w' => e = .returned (.bool r) ∧ Rf (fun k => O k ∨ w.heap.size ≤ k) w' q S' R' ∧ Kept O w w' := by
  have hth := rthere_any q S R who (inRf S R who) w h hS hR rfl
  unfold refCancel at he
  cases hi0 : inRf S R who with
  | false =>
    rw [hi0, if_neg (by decide)] at he
    simp only [Prod.mk.injEq] at he
    obtain ⟨rfl, rfl, rfl⟩ := he
    rw [hi0] at hth
    have Hth := Lib.hid hth
    have Hh := Lib.hid h
    clear hth h hi0
    go_enter Try.func21, Try.ntmps21
    go_wp2_with fail
    refine Hth.out.mono ?_
    rintro e w1 ⟨rfl, rfl⟩
    go_wp2_with fail
    go_ret
    exact ⟨rfl, Hh.out.mono (fun _ h => .inl h), Kept.refl _ _⟩
  | true =>
    rw [hi0, if_pos rfl] at he
    simp only [Prod.mk.injEq] at he
    obtain ⟨rfl, hS', hR'⟩ := he
    rw [hi0] at hth
    have Hth := Lib.hid hth
    have HS' := Lib.hid hS'
    have HR' := Lib.hid hR'
    clear hth hi0 hS' hR'
    obtain ⟨v, u, h⟩ := h
    obtain ⟨ao, c, bo, d, rfl, rfl⟩ := h.sh
    have hql := lt_of_heap h.hq
    obtain ⟨ns, hns⟩ : ∃ ns, ns = S.length := ⟨_, rfl⟩
    obtain ⟨nr, hnr⟩ : ∃ nr, nr = R.length := ⟨_, rfl⟩
    have hq := h.hq
    have hv := h.hv
    have hu := h.hu
    rw [← hns, ← hnr] at hq
    rw [← hns] at hv hS
    rw [← hnr] at hu hR
    have Hq := Lib.hid hq
    have Hv := Lib.hid hv
    have Hu := Lib.hid hu
    have Hns := Lib.hid hns
    have Hnr := Lib.hid hnr
    have HB := Lib.hid h
    obtain ⟨i64, hi, hz0, hz1, hz2⟩ := info_parts info64
    obtain ⟨i3, hi3, hy0, hy1, hy2⟩ := info_parts info3
    have hoq := h.oq
    have kA : New w (w.alloc (.cells #[] 64)) := (Kept.refl _ _).alloc _
    have kB : New w ((w.alloc (.cells #[] 64)).alloc (.cells #[] 3)) := kA.alloc _
    have hsA : (w.alloc (.cells #[] 64)).heap.size = w.heap.size + 1 := Array.size_push ..
    have o5 : (w.alloc (.cells #[] 64)).ownsRow w.heap.size 64 8 (.slice (some ⟨w.heap.size, 0, none⟩) 0 0) 0 (([] : List On).flatMap encO) := World.ownsRow_made w #[] 0 (Nat.le_refl _) (by unfold maxLen; omega) rfl
    have o6 : ((w.alloc (.cells #[] 64)).alloc (.cells #[] 3)).ownsRow w.heap.size 3 1 (.slice (some ⟨w.heap.size + 1, 0, none⟩) 0 0) 0 (vI []) := by
      have h9 := World.ownsRow_made (base := w.heap.size) (e := 3) (size := 1) (w.alloc (.cells #[] 64)) #[] 0 (by rw [hsA]; omega) (by unfold maxLen; omega) rfl
      rw [hsA] at h9
      exact h9
    have O5 := Lib.hid (own_same o5 ((Kept.refl (fun _ => False) _).alloc (.cells #[] 3)))
    have O6 := Lib.hid o6
    have KB := Lib.hid kB
    clear hns hnr hq hv hu h kA kB hsA o5 o6
    go_enter Try.func21, Try.ntmps21
    go_wp2_with fail
    refine Hth.out.mono ?_
    rintro e w1 ⟨rfl, rfl⟩
    go_wp2_with fail
    go_loopw [5, 7] (fun l i wr => ∃ (k : Nat) (K : List On) (ml : Nat) (al : Option Addr) (cl : Nat), k ≤ ns ∧ i = .int .i64 k ∧ l = .slice al ml cl ∧ Hid ((S.take k).filter (fun y => !(y.who == who)) = K ∧ ml = K.length) ∧ Hid (wr.ownsRow w.heap.size 64 8 (.slice al ml cl) ml (K.flatMap encO)) ∧ Hid (wr.ownsRow w.heap.size 3 1 (.slice (some ⟨w.heap.size + 1, 0, none⟩) 0 0) 0 (vI [])) ∧ New w wr) (fun _ i _ => ns - (intOf i).toNat)
    case atStart => exact ⟨0, [], 0, _, 0, by omega, rfl, rfl, ⟨rfl, rfl⟩, O5.out, O6.out, KB.out⟩
    case round =>
      clear KB O5 O6
      obtain ⟨k, K, ml, al, cl, hk, rfl, rfl, HK, HownK, HJ, hkr⟩ := hrel
      have hbr := hkr.heap Hq.out (fun h => h)
      have hcb := cell_blk hbr 0
      have hszr := hkr.size
      have hml : ml ≤ 1000 := by
        have h2 := HK.out
        have h3 : K.length ≤ (S.take k).length := by rw [← h2.1]; exact List.length_filter_le _ _
        rw [List.length_take] at h3
        have := Hns.out
        omega
      clear hbr
      by_cases h1 : k < ns
      · obtain ⟨x, hx⟩ : ∃ x, S[k]? = some x := ⟨_, List.getElem?_eq_getElem (by have := Hns.out; omega)⟩
        obtain ⟨g, rfl⟩ := slice_at Hv.out (by omega)
        obtain ⟨x0, x1, x2, x3, x4, x5, x6, x7⟩ := own_snd (own_same Hv.out hkr) hx
        have Hlit := Lib.hid (Src.lit wr #[.int .i64 x.who, .int .i64 x.la, .int .u64 x.w0, .int .u64 x.w1, .int .u64 x.w2, .int .u64 x.w3, .int .u64 x.bg, .bool x.ca] 64 1 8 rfl)
        have kL : New wr (wr.alloc (blkS x)) := (Kept.refl _ wr).alloc _
        have HownA := Lib.hid (own_same HownK.out kL)
        have HJA := Lib.hid (own_same HJ.out kL)
        have hstep : (S.take (k + 1)).filter (fun y => !(y.who == who)) = K ++ [x].filter (fun y => !(y.who == who)) := by
          rw [List.take_add_one, hx, List.filter_append, ← HK.out.1]; rfl
        have Hstep := Lib.hid hstep
        clear hx hstep
        by_cases e1 : x.who = who
        · have e1b : (x.who != who) = false := by simpa using e1
          have hs1 : [x].filter (fun y => !(y.who == who)) = [] := by simp [e1]
          have Hs1 := Lib.hid hs1
          have E1 := Lib.hid e1
          clear hs1 e1
          go_wp2_with fail
          go_roundw
          case rel => exact ⟨k + 1, K, ml, al, cl, by omega, by go_num, rfl, ⟨by rw [Hstep.out, Hs1.out, List.append_nil], HK.out.2⟩, HownK.out, HJ.out, hkr⟩
          case measure => simp [intOf]; omega
        · have e1b : (x.who != who) = true := by simpa using e1
          have hs1 : [x].filter (fun y => !(y.who == who)) = [x] := by simp [e1]
          have Hs1 := Lib.hid hs1
          have E1 := Lib.hid e1
          clear hs1 e1
          go_wp2_with (at_builtin; refine wpList_append_src2 rfl _ _ 49 rfl w.heap.size 64 i64 (aggO ⟨0, 0, 0, 0, 0, 0, 0, false⟩) 8 64 Try.underlying49 hi hz0 hz1 hz2 rfl (by decide) (.slice al ml cl) ml (K.flatMap encO) rfl HownA.out _ 1 _ rfl Hlit.out (encO_one1 x) (by unfold maxLen; omega) (by omega) (by simp; omega) ?_; intro v' w5 hown' hgr hid; obtain ⟨ao5, c5, hv5, _⟩ := Src.of_own hown'; rw [hv5])
          subst hv5
          have HO := Lib.hid hown'
          have kG : Kept (fun k => (Value.slice al ml cl).ownBlock = some k) (wr.alloc (blkS x)) w5 := Kept.of_grown hgr
          have HJ5 := Lib.hid (own_kept HJA.out kG (own_other HJA.out HownA.out (by decide)))
          have hk5 : New w w5 := (hkr.trans kL).trans' kG (fun i hi hv => by have := own_block HownA.out hv; omega)
          clear hown' hgr hid kG
          go_roundw
          case rel => exact ⟨k + 1, K ++ [x], ml + 1, ao5, c5, by omega, by go_num, rfl, ⟨by rw [Hstep.out, Hs1.out], by rw [HK.out.2]; simp⟩, by show World.ownsRow _ _ _ _ _ _ _; rw [encO_snoc]; exact HO.out, HJ5.out, hk5⟩
          case measure => simp [intOf]; omega
      · have hKS : K = S' := by
          have h9 := HK.out.1
          rw [List.take_of_length_le (by have := Hns.out; omega)] at h9
          rw [← h9]; exact HS'.out
        subst hKS
        have hml2 := Lib.hid HK.out.2
        clear HK
        go_wp2_with fail
        go_loopw [6, 8] (fun l i wr => ∃ (k : Nat) (J : List Int) (nl : Nat) (bl : Option Addr) (dl : Nat), k ≤ nr ∧ i = .int .i64 k ∧ l = .slice bl nl dl ∧ Hid ((R.take k).filter (fun y => !(y == who)) = J ∧ nl = J.length) ∧ Hid (wr.ownsRow w.heap.size 3 1 (.slice bl nl dl) nl (vI J)) ∧ Hid (wr.ownsRow w.heap.size 64 8 (.slice al ml cl) ml (K.flatMap encO)) ∧ New w wr) (fun _ i _ => nr - (intOf i).toNat)
        case atStart => exact ⟨0, [], 0, _, 0, by omega, rfl, rfl, ⟨rfl, rfl⟩, HJ.out, HownK.out, hkr⟩
        case round =>
          clear HJ HownK hkr hcb hszr
          obtain ⟨k', J, nl, bl, dl, hk', rfl, rfl, HJK, HJ, HownK, hkr⟩ := hrel
          have hbr := hkr.heap Hq.out (fun h => h)
          have hcb := cell_blk hbr 1
          have hcb0 := cell_blk hbr 0
          have hf0 := free_blk hbr 0
          have hf1 := free_blk hbr 1
          have hszr := hkr.size
          have hnl : nl ≤ 1000 := by
            have h2 := HJK.out
            have h3 : J.length ≤ (R.take k').length := by rw [← h2.1]; exact List.length_filter_le _ _
            rw [List.length_take] at h3
            have := Hnr.out
            omega
          have Hbr := Lib.hid hbr
          clear hbr
          by_cases h2 : k' < nr
          · obtain ⟨y, hy⟩ : ∃ y, R[k']? = some y := ⟨_, List.getElem?_eq_getElem (by have := Hnr.out; omega)⟩
            obtain ⟨g, rfl⟩ := slice_at Hu.out (by omega)
            have x0 := own_int (own_same Hu.out hkr) hy
            have Jlit := Lib.hid (Src.lit wr #[.int .i64 y] 3 1 1 rfl)
            have kL : New wr (wr.alloc (.cells #[.int .i64 y] 3)) := (Kept.refl _ wr).alloc _
            have JownA := Lib.hid (own_same HJ.out kL)
            have HKA := Lib.hid (own_same HownK.out kL)
            have hstep : (R.take (k' + 1)).filter (fun y => !(y == who)) = J ++ [y].filter (fun y => !(y == who)) := by
              rw [List.take_add_one, hy, List.filter_append, ← HJK.out.1]; rfl
            have Hstep := Lib.hid hstep
            clear hy hstep
            by_cases e1 : y = who
            · have e1b : (y != who) = false := by simpa using e1
              have hs1 : [y].filter (fun y => !(y == who)) = [] := by simp [e1]
              have Hs1 := Lib.hid hs1
              have E1 := Lib.hid e1
              clear hs1 e1
              go_wp2_with fail
              go_roundw
              case rel => exact ⟨k' + 1, J, nl, bl, dl, by omega, by go_num, rfl, ⟨by rw [Hstep.out, Hs1.out, List.append_nil], HJK.out.2⟩, HJ.out, HownK.out, hkr⟩
              case measure => simp [intOf]; omega
            · have e1b : (y != who) = true := by simpa using e1
              have hs1 : [y].filter (fun y => !(y == who)) = [y] := by simp [e1]
              have Hs1 := Lib.hid hs1
              have E1 := Lib.hid e1
              clear hs1 e1
              go_wp2_with (at_builtin; refine wpList_append_src2 rfl _ _ 31 rfl w.heap.size 3 i3 (.int .i64 0) 1 8 Try.underlying31 hi3 hy0 hy1 hy2 rfl (by decide) (.slice bl nl dl) nl (vI J) rfl JownA.out _ 1 _ rfl Jlit.out (by simp [Value.oneCell']) (by unfold maxLen; omega) (by omega) (by simp; omega) ?_; intro v' w5 hown' hgr hid; obtain ⟨ao5, c5, hv5, _⟩ := Src.of_own hown'; rw [hv5])
              subst hv5
              have HO := Lib.hid hown'
              have kG : Kept (fun k => (Value.slice bl nl dl).ownBlock = some k) (wr.alloc (.cells #[.int .i64 y] 3)) w5 := Kept.of_grown hgr
              have HK5 := Lib.hid (own_kept HKA.out kG (own_other HKA.out JownA.out (by decide)))
              have hk5 : New w w5 := (hkr.trans kL).trans' kG (fun i hi hv => by have := own_block JownA.out hv; omega)
              clear hown' hgr hid kG
              go_roundw
              case rel => exact ⟨k' + 1, J ++ [y], nl + 1, ao5, c5, by omega, by go_num, rfl, ⟨by rw [Hstep.out, Hs1.out], by rw [HJK.out.2]; simp⟩, by show World.ownsRow _ _ _ _ _ _ _; simpa [vI] using HO.out, HK5.out, hk5⟩
              case measure => simp [intOf]; omega
          · have hJR : J = R' := by
              have h9 := HJK.out.1
              rw [List.take_of_length_le (by have := Hnr.out; omega)] at h9
              rw [← h9]; exact HR'.out
            subst hJR
            have hnl2 := Lib.hid HJK.out.2
            clear HJK
            go_wp2_with fail
            go_ret
            have kq : Kept (fun k => k = q) wr ((wr.setCell ⟨q, 0, none⟩ (.slice al ml cl)).setCell ⟨q, 1, none⟩ (.slice bl nl dl)) := (Kept.refl (fun k => k = q) wr).setCell (.inr rfl) _ |>.setCell (.inr rfl) _
            have hst := heap_setCell_same _ q 1 _ _ (.slice bl nl dl) (heap_setCell_same wr q 0 _ _ (.slice al ml cl) Hbr.out)
            refine ⟨rfl, ⟨.slice al ml cl, .slice bl nl dl, hst, ?_, ?_, .inl hoq, fun k hk => .inr (own_block HownK.out hk), fun k hk => .inr (own_block HJ.out hk)⟩, (hkr.mono (fun _ _ h => h.elim)).trans' kq (fun i hi e => by rw [e]; exact hoq)⟩
            · rw [← hml2.out]; exact own_mono (own_kept HownK.out kq (fun i hi e => by have := own_block HownK.out hi; omega)) (Nat.zero_le _)
            · rw [← hnl2.out]; exact own_mono (own_kept HJ.out kq (fun i hi e => by have := own_block HJ.out hi; omega)) (Nat.zero_le _)

set_option maxRecDepth 100000 in
set_option maxHeartbeats 4000000 in
theorem rbadge_any {O : Nat → Prop} (q : Nat) (S S' : List On) (R F : List Int) (s : Int) (w : World) (h : Rf O w q S R) (hS : S.length ≤ 1000) (hR : R.length ≤ 1000) (hS' : S.filter (fun y => !(y.bg == s)) = S') (hF : hasB S s = F) :
    Calls Try.prog 22 #[.pointer (some ⟨q, 0, none⟩), .int .u64 s] w fun e w' => ∃ v, e = .returned v ∧ w'.ownsRow 0 3 1 v F.length (vI F) ∧ Rf (fun k => O k ∨ w.heap.size ≤ k) w' q S' R ∧ Kept O w w' := by
  have HS' := Lib.hid hS'
  have HF := Lib.hid hF
  clear hS' hF
  obtain ⟨v, u, h⟩ := h
  obtain ⟨ao, c, bo, d, rfl, rfl⟩ := h.sh
  have hql := lt_of_heap h.hq
  obtain ⟨ns, hns⟩ : ∃ ns, ns = S.length := ⟨_, rfl⟩
  obtain ⟨nr, hnr⟩ : ∃ nr, nr = R.length := ⟨_, rfl⟩
  have hq := h.hq
  have hv := h.hv
  have hu := h.hu
  rw [← hns, ← hnr] at hq
  rw [← hns] at hv hS
  rw [← hnr] at hu hR
  have Hq := Lib.hid hq
  have Hv := Lib.hid hv
  have Hu := Lib.hid hu
  have Hns := Lib.hid hns
  have Hnr := Lib.hid hnr
  have HB := Lib.hid h
  obtain ⟨i64, hi, hz0, hz1, hz2⟩ := info_parts info64
  obtain ⟨i3, hi3, hy0, hy1, hy2⟩ := info_parts info3
  have hoq := h.oq
  have kA : New w (w.alloc (.cells #[] 64)) := (Kept.refl _ _).alloc _
  have kB : New w ((w.alloc (.cells #[] 64)).alloc (.cells #[] 3)) := kA.alloc _
  have hsA : (w.alloc (.cells #[] 64)).heap.size = w.heap.size + 1 := Array.size_push ..
  have o5 : (w.alloc (.cells #[] 64)).ownsRow w.heap.size 64 8 (.slice (some ⟨w.heap.size, 0, none⟩) 0 0) 0 (([] : List On).flatMap encO) := World.ownsRow_made w #[] 0 (Nat.le_refl _) (by unfold maxLen; omega) rfl
  have o6 : ((w.alloc (.cells #[] 64)).alloc (.cells #[] 3)).ownsRow w.heap.size 3 1 (.slice (some ⟨w.heap.size + 1, 0, none⟩) 0 0) 0 (vI []) := by
    have h9 := World.ownsRow_made (base := w.heap.size) (e := 3) (size := 1) (w.alloc (.cells #[] 64)) #[] 0 (by rw [hsA]; omega) (by unfold maxLen; omega) rfl
    rw [hsA] at h9
    exact h9
  have O5 := Lib.hid (own_same o5 ((Kept.refl (fun _ => False) _).alloc (.cells #[] 3)))
  have O6 := Lib.hid o6
  have KB := Lib.hid kB
  clear hns hnr hq hv hu h kA kB hsA o5 o6
  go_enter Try.func22, Try.ntmps22
  go_wp2_with fail
  go_loopw [5, 6, 7] (fun l l6 i wr => ∃ (k : Nat) (K : List On) (J : List Int) (ml nl : Nat) (al bl : Option Addr) (cl dl : Nat), k ≤ ns ∧ i = .int .i64 k ∧ l = .slice al ml cl ∧ l6 = .slice bl nl dl ∧ Hid ((S.take k).filter (fun y => !(y.bg == s)) = K ∧ ml = K.length ∧ hasB (S.take k) s = J ∧ nl = J.length) ∧ Hid (wr.ownsRow w.heap.size 64 8 (.slice al ml cl) ml (K.flatMap encO)) ∧ Hid (wr.ownsRow w.heap.size 3 1 (.slice bl nl dl) nl (vI J)) ∧ New w wr) (fun _ _ i _ => ns - (intOf i).toNat)
  case atStart => exact ⟨0, [], [], 0, 0, _, _, 0, 0, by omega, rfl, rfl, rfl, ⟨rfl, rfl, rfl, rfl⟩, O5.out, O6.out, KB.out⟩
  case round =>
    clear KB O5 O6
    obtain ⟨k, K, J, ml, nl, al, bl, cl, dl, hk, rfl, rfl, rfl, HK, HownK, HJ, hkr⟩ := hrel
    have hbr := hkr.heap Hq.out (fun h => h)
    have hcb := cell_blk hbr 0
    have hf0 := free_blk hbr 0
    have hszr := hkr.size
    have hml : ml ≤ 1000 := by
      have h2 := HK.out
      have h3 : K.length ≤ (S.take k).length := by rw [← h2.1]; exact List.length_filter_le _ _
      rw [List.length_take] at h3
      have := Hns.out
      omega
    have hnl : nl ≤ 1000 := by
      have h2 := HK.out
      have h3 := hasB_length (S.take k) s
      rw [h2.2.2.1, List.length_take] at h3
      have := Hns.out
      omega
    have Hbr := Lib.hid hbr
    clear hbr
    by_cases h1 : k < ns
    · obtain ⟨x, hx⟩ : ∃ x, S[k]? = some x := ⟨_, List.getElem?_eq_getElem (by have := Hns.out; omega)⟩
      obtain ⟨g, rfl⟩ := slice_at Hv.out (by omega)
      obtain ⟨x0, x1, x2, x3, x4, x5, x6, x7⟩ := own_snd (own_same Hv.out hkr) hx
      have hstep : (S.take (k + 1)).filter (fun y => !(y.bg == s)) = K ++ [x].filter (fun y => !(y.bg == s)) := by
        rw [List.take_add_one, hx, List.filter_append, ← HK.out.1]; rfl
      have Hstep := Lib.hid hstep
      have Hx := Lib.hid hx
      clear hx hstep
      cases e0 : (x.bg == s) with
      | false =>
        have Hlit := Lib.hid (Src.lit wr #[.int .i64 x.who, .int .i64 x.la, .int .u64 x.w0, .int .u64 x.w1, .int .u64 x.w2, .int .u64 x.w3, .int .u64 x.bg, .bool x.ca] 64 1 8 rfl)
        have kL : New wr (wr.alloc (blkS x)) := (Kept.refl _ wr).alloc _
        have HownA := Lib.hid (own_same HownK.out kL)
        have HJA := Lib.hid (own_same HJ.out kL)
        have hs1 : [x].filter (fun y => !(y.bg == s)) = [x] := by simp [e0]
        have Hs1 := Lib.hid hs1
        have Hj := Lib.hid (hasB_no Hx.out e0)
        have e1 : ¬ x.bg = s := by simpa using e0
        clear hs1 e0
        go_wp2_with (at_builtin; refine wpList_append_src2 rfl _ _ 49 rfl w.heap.size 64 i64 (aggO ⟨0, 0, 0, 0, 0, 0, 0, false⟩) 8 64 Try.underlying49 hi hz0 hz1 hz2 rfl (by decide) (.slice al ml cl) ml (K.flatMap encO) rfl HownA.out _ 1 _ rfl Hlit.out (encO_one1 x) (by unfold maxLen; omega) (by omega) (by simp; omega) ?_; intro v' w5 hown' hgr hid; obtain ⟨ao5, c5, hv5, _⟩ := Src.of_own hown'; rw [hv5])
        subst hv5
        have HO := Lib.hid hown'
        have kG : Kept (fun k => (Value.slice al ml cl).ownBlock = some k) (wr.alloc (blkS x)) w5 := Kept.of_grown hgr
        have HJ5 := Lib.hid (own_kept HJA.out kG (own_other HJA.out HownA.out (by decide)))
        have hk5 : New w w5 := (hkr.trans kL).trans' kG (fun i hi hv => by have := own_block HownA.out hv; omega)
        clear hown' hgr hid kG
        go_roundw
        case rel => exact ⟨k + 1, K ++ [x], J, ml + 1, nl, ao5, bl, c5, dl, by omega, by go_num, rfl, rfl, ⟨by rw [Hstep.out, Hs1.out], by rw [HK.out.2.1]; simp, by rw [Hj.out]; exact HK.out.2.2.1, HK.out.2.2.2⟩, by show World.ownsRow _ _ _ _ _ _ _; rw [encO_snoc]; exact HO.out, HJ5.out, hk5⟩
        case measure => simp [intOf]; omega
      | true =>
        have Jlit := Lib.hid (Src.lit wr #[.int .i64 x.who] 3 1 1 rfl)
        have kL : New wr (wr.alloc (.cells #[.int .i64 x.who] 3)) := (Kept.refl _ wr).alloc _
        have JownA := Lib.hid (own_same HJ.out kL)
        have HKA := Lib.hid (own_same HownK.out kL)
        have hs1 : [x].filter (fun y => !(y.bg == s)) = [] := by simp [e0]
        have Hs1 := Lib.hid hs1
        have Hj := Lib.hid (hasB_yes Hx.out e0)
        have e1 : x.bg = s := by simpa using e0
        rw [e1] at x6
        clear hs1 e0 e1
        go_wp2_with (at_builtin; refine wpList_append_src2 rfl _ _ 31 rfl w.heap.size 3 i3 (.int .i64 0) 1 8 Try.underlying31 hi3 hy0 hy1 hy2 rfl (by decide) (.slice bl nl dl) nl (vI J) rfl JownA.out _ 1 _ rfl Jlit.out (by simp [Value.oneCell']) (by unfold maxLen; omega) (by omega) (by simp; omega) ?_; intro v' w5 hown' hgr hid; obtain ⟨ao5, c5, hv5, _⟩ := Src.of_own hown'; rw [hv5])
        subst hv5
        have HO := Lib.hid hown'
        have kG : Kept (fun k => (Value.slice bl nl dl).ownBlock = some k) (wr.alloc (.cells #[.int .i64 x.who] 3)) w5 := Kept.of_grown hgr
        have HK5 := Lib.hid (own_kept HKA.out kG (own_other HKA.out JownA.out (by decide)))
        have hk5 : New w w5 := (hkr.trans kL).trans' kG (fun i hi hv => by have := own_block JownA.out hv; omega)
        clear hown' hgr hid kG
        go_roundw
        case rel => exact ⟨k + 1, K, J ++ [x.who], ml, nl + 1, al, ao5, cl, c5, by omega, by go_num, rfl, rfl, ⟨by rw [Hstep.out, Hs1.out, List.append_nil], HK.out.2.1, by rw [Hj.out, HK.out.2.2.1], by rw [HK.out.2.2.2]; simp⟩, HK5.out, by show World.ownsRow _ _ _ _ _ _ _; simpa [vI] using HO.out, hk5⟩
        case measure => simp [intOf]; omega
    · obtain ⟨g1, g2, g3, g4⟩ := HK.out
      rw [List.take_of_length_le (by have := Hns.out; omega)] at g1 g3
      rw [HS'.out] at g1
      rw [HF.out] at g3
      subst g1
      subst g3
      have G2 := Lib.hid g2
      have G4 := Lib.hid g4
      clear g2 g4 HK
      go_wp2_with fail
      go_ret
      obtain ⟨kk, hst, kq⟩ : ∃ kk : Unit, (wr.setCell ⟨q, 0, none⟩ (.slice al ml cl)).heap[q]? = some (.cells #[.slice al ml cl, .slice bo nr d] 51 (0, 0)) ∧ Kept (fun k => k = q) wr (wr.setCell ⟨q, 0, none⟩ (.slice al ml cl)) := ⟨(), heap_setCell_same wr q 0 _ _ (.slice al ml cl) Hbr.out, (Kept.refl (fun k => k = q) wr).setCell (.inr rfl) _⟩
      refine ⟨.slice bl nl dl, rfl, ?_, ⟨.slice al ml cl, .slice bo nr d, hst, ?_, ?_, .inl hoq, fun k hk => .inr (own_block HownK.out hk), fun k hk => .inl (HB.out.ou k (by rw [← Hnr.out]; exact hk))⟩, (hkr.mono (fun _ _ h => h.elim)).trans' kq (fun i hi e => by rw [e]; exact hoq)⟩
      · rw [← G4.out]; exact own_mono (own_kept HJ.out kq (fun i hi e => by have := own_block HJ.out hi; omega)) (Nat.zero_le _)
      · rw [← G2.out]; exact own_mono (own_kept HownK.out kq (fun i hi e => by have := own_block HownK.out hi; omega)) (Nat.zero_le _)
      · rw [← Hnr.out]; exact own_kept (own_same Hu.out hkr) kq (fun i hi e => (HB.out.nu (by rw [← Hnr.out]; exact hi)).1 e)
end Go.Proofs.Ytanongcaokldmaa

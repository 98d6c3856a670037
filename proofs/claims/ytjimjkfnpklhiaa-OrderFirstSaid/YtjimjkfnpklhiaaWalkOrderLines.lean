/- The walk of the law OrderLines. -/
import Derived.Test.YtjimjkfnpklhiaaWalkOrderOne
set_option linter.all false
namespace Go.Proofs.Ytjimjkfnpklhiaa
open Go.RowKit Go.Maps

abbrev ec (k c : Int) : Sn := ⟨k, c, 0, ⟨0, 0, 0, []⟩, .slice none 0 0, 0, 0, false⟩
def eW (w c : Nat) : En := ⟨(c : Int), 0, false, ⟨0, 0, 0, []⟩, .slice none 0 0, w⟩
theorem goE_append {n : Nat} : ∀ {A B : List Sn} {E E' : List En} {m m' i : Nat}, goE n E m A i = (-1, E', m') → goE n E m (A ++ B) i = goE n E' m' B (i + A.length)
  | [], B, E, E', m, m', i, h => by
    rw [goE] at h
    injection h with _ h; injection h with h1 h2; subst h1; subst h2; rfl
  | s :: A, B, E, E', m, m', i, h => by
    by_cases hc : s.c < 0 ∨ (n : Int) ≤ s.c
    · rw [goE, if_pos hc] at h
      injection h with h _; omega
    · obtain ⟨ok, E2, m2, hm⟩ : ∃ ok E2 m2, mayE E m s = (ok, E2, m2) := ⟨_, _, _, rfl⟩
      cases ok with
      | false => rw [goE_no hc hm] at h; injection h with h _; omega
      | true =>
        rw [goE_yes hc hm] at h
        rw [List.cons_append, goE_yes hc hm, goE_append h, List.length_cons]
        congr 1; omega
theorem core_eW (w : Nat) (l : List Nat) : coreL (l.map (eW w)) = l.map (fun (i : Nat) => (i : Int)) := by
  rw [coreL, List.map_map]; rfl
theorem enter_run (n : Nat) : ∀ (d c i m : Nat), c + d ≤ n → goE n ((List.range c).map (eW 0)) m ((List.range' c d).map (fun (i : Nat) => ec 0 (i : Int))) i = (-1, (List.range (c + d)).map (eW 0), m)
  | 0, c, i, m, _ => rfl
  | d + 1, c, i, m, h => by
    have hm : mayE ((List.range c).map (eW 0)) m (ec 0 c) = (true, (List.range (c + 1)).map (eW 0), m) := by
      unfold mayE
      rw [if_pos rfl, if_neg]
      · rw [List.range_succ, List.map_append]; rfl
      rw [core_eW]
      intro h
      obtain ⟨x, hx, e⟩ := List.mem_map.1 h
      have := List.mem_range.1 hx
      simp at e
      omega
    rw [List.range'_succ, List.map_cons, goE_yes (by simp; omega) hm, enter_run n d (c + 1) (i + 1) m (by omega)]
    rw [show c + 1 + d = c + (d + 1) by omega]
def roundsL (q : Nat) : List Sn := (List.range q).flatMap (fun (i : Nat) => [ec 1 (i : Int), ec 2 (i : Int)])
theorem rounds_succ (q : Nat) : roundsL (q + 1) = roundsL q ++ [ec 1 q] ++ [ec 2 q] := by rw [roundsL, List.range_succ, List.flatMap_append]; simp [roundsL]
theorem more_eW (w : Nat) (l : List Nat) : (l.map (eW w)).map (more 1) = l.map (eW (w + 1)) := by rw [List.map_map]; rfl
theorem rounds_run (n : Nat) : ∀ (q i : Nat), q ≤ n → goE n ((List.range n).map (eW 0)) 0 (roundsL q) i = (-1, (List.range' q (n - q)).map (eW q), q - 1)
  | 0, i, _ => by rw [Nat.sub_zero, List.range_eq_range']; rfl
  | q + 1, i, h => by
    obtain ⟨d, hd⟩ : ∃ d, n - q = d + 1 := ⟨n - q - 1, by omega⟩
    have hq := rounds_run n q i (by omega)
    rw [hd, List.range'_succ, List.map_cons] at hq
    rw [rounds_succ, List.append_assoc, goE_append hq, List.singleton_append, goE_yes (by simp; omega) (mayE1_yes rfl rfl rfl rfl), goE_yes (by simp; omega) (mayE2_yes rfl rfl rfl rfl rfl), goE, more_eW]
    rw [show n - (q + 1) = d by omega, show max (q - 1) (eW q q).wt = q + 1 - 1 from by show max (q - 1) q = _; omega]
theorem lines_run (n q : Nat) (h : q ≤ n) : goE n [] 0 ((List.range n).map (fun (i : Nat) => ec 0 (i : Int)) ++ roundsL q) 0 = (-1, (List.range' q (n - q)).map (eW q), q - 1) := by
  have h1 := enter_run n n 0 0 0 (by omega)
  rw [← List.range_eq_range', Nat.zero_add] at h1
  rw [show ([] : List En) = (List.range 0).map (eW 0) from rfl, goE_append h1, rounds_run n q _ h]
theorem isPlain_ec {L : List Sn} (h : ∀ s ∈ L, ∃ k c, s = ec k c) : ∀ (w : World), ∀ s ∈ L, Src w s.v s.t.fg.length 4 (s.t.fg.flatMap encL) ∧ s.t.fg.length ≤ 1000000 := fun w s hs => by
  obtain ⟨k, c, rfl⟩ := h s hs
  exact ⟨⟨none, 0, rfl, fun _ => rfl, rfl, fun j v hj => by simp at hj⟩, by simp⟩

set_option maxRecDepth 100000 in
set_option maxHeartbeats 4000000 in
theorem walkOrderLines (w : World) (cores : Int) (_ : (Lit.int .i64 cores).wf = true) (kq : Int) (_ : (Lit.int .i64 kq).wf = true) :
    Calls Try.prog 8 #[.int .i64 cores, .int .i64 kq] w fun e w' => e = .returned (.bool true) ∧ Below w.heap.size w w' := by
  obtain ⟨m, hmm, a0, a1⟩ := and_small cores 3 (by decide)
  simp only [Int.reducePow, Int.reduceSub] at hmm a1
  obtain ⟨m, rfl⟩ := Int.eq_ofNat_of_zero_le a0
  obtain ⟨n, hn⟩ : ∃ n : Nat, n = 1 + m := ⟨_, rfl⟩
  have hw1 : IntKind.i64.wrap (1 + (m : Int)) = (n : Int) := by rw [IntKind.wrap_i64]; omega
  have hn1 : 1 ≤ n := by omega
  have hn2 : n ≤ 8 := by omega
  clear hn a0 a1
  obtain ⟨y, hy, y0, y1⟩ := and_small kq 16 (by decide)
  simp only [Int.reducePow, Int.reduceSub] at hy y1
  obtain ⟨y, rfl⟩ := Int.eq_ofNat_of_zero_le y0
  obtain ⟨n1, hn1'⟩ : ∃ n1, n1 = n + 1 := ⟨_, rfl⟩
  have hw2 : IntKind.i64.wrap ((n : Int) + 1) = (n1 : Int) := by rw [IntKind.wrap_i64]; omega
  obtain ⟨q, hq⟩ : ∃ q, q = y % n1 := ⟨_, rfl⟩
  have hqn : q ≤ n := by have := Nat.mod_lt y (show n1 > 0 by omega); omega
  have hrem : Int.tmod (y : Int) (n1 : Int) = (q : Int) := by rw [Int.tmod_eq_emod_of_nonneg (by omega), hq]; rfl
  have hn0 : (n1 : Int) ≠ 0 := by omega
  have hn00 : ¬ n1 = 0 := by omega
  have hn000 : ((n1 : Int) == 0) = false := by simp [hn00]
  have Hn1 := Lib.hid hn1'
  clear hq y0 y1 hn1'
  obtain ⟨i0, hi0, hz0, hz1, hz2⟩ := info_parts info40
  obtain ⟨i3, hi3, hy0, hy1, hy2⟩ := info_parts info3
  go_enter Try.func8, Try.ntmps8
  go_wp2_with fail
  have hE0 : ((w.alloc (.cells #[] 40)).alloc (.cells #[] 3)).ownsRow w.heap.size 40 10 (.slice (some ⟨w.heap.size, 0, none⟩) 0 0) 0 (([] : List Sn).flatMap encS) := own_same (World.ownsRow_made w #[] 0 (Nat.le_refl _) (by unfold maxLen; omega) rfl) ((Kept.refl _ _).alloc _)
  have hF0 : ((w.alloc (.cells #[] 40)).alloc (.cells #[] 3)).ownsRow w.heap.size 3 1 (.slice (some ⟨w.heap.size + 1, 0, none⟩) 0 0) 0 (([] : List Int).map (Value.int .i64)) := by
    have := World.ownsRow_made (base := w.heap.size) (e := 3) (size := 1) (w.alloc (.cells #[] 40)) #[] 0 (by simp) (by unfold maxLen; omega) rfl
    simpa using this
  go_loopw [6, 7, 8] (fun l wn i wr => ∃ (j : Nat) (vl vn : Value), j ≤ n ∧ vl = l ∧ vn = wn ∧ i = .int .i64 j ∧ Hid (wr.ownsRow w.heap.size 40 10 vl j (((List.range j).map (fun (i : Nat) => ec 0 (i : Int))).flatMap encS)) ∧ Hid (wr.ownsRow w.heap.size 3 1 vn j (((List.range j).map (fun (i : Nat) => (i : Int))).map (Value.int .i64))) ∧ Hid (New w wr)) (fun _ _ i _ => n - (intOf i).toNat)
  case atStart => exact ⟨0, _, _, by omega, rfl, rfl, rfl, hE0, hF0, ((Kept.refl _ _).alloc _).alloc _⟩
  case round =>
    clear hE0 hF0
    obtain ⟨j, vl, vn, hj, rfl, rfl, rfl, HL, HF, HN⟩ := hrel
    by_cases h1 : j < n
    · have hown2 : (wr.alloc (.cells #[.int .i64 0, .int .i64 (j : Int), .int .i64 0, .int .i64 0, .int .u64 0, .int .i64 0, .slice none 0 0, .int .i64 0, .int .i64 0, .bool false] 40)).ownsRow w.heap.size 40 10 vl j (((List.range j).map (fun (i : Nat) => ec 0 (i : Int))).flatMap encS) := own_same HL.out ((Kept.refl _ _).alloc _)
      have hlit := Src.lit wr #[.int .i64 0, .int .i64 (j : Int), .int .i64 0, .int .i64 0, .int .u64 0, .int .i64 0, .slice none 0 0, .int .i64 0, .int .i64 0, .bool false] 40 1 10 rfl
      have hsz := HN.out.size
      go_wp2_with (first | (at_builtin; refine wpList_append_src rfl _ _ 22 rfl w.heap.size 40 i0 _ 10 96 Try.underlying22 hi0 hz0 hz1 hz2 rfl (by decide) vl j _ rfl hown2 _ 1 _ rfl hlit (by simp [Value.oneCell']) (by unfold maxLen; omega) (by omega) (by simp; omega) ?_; intro v' w' hown' hgr; (have hkp' : New w w' := (HN.out.alloc _).grown hgr (fun i hi => .inl (own_block hown2 hi))); (have hf' : w'.ownsRow w.heap.size 3 1 vn j (((List.range j).map (fun (i : Nat) => (i : Int))).map (Value.int .i64)) := own_kept (own_same HF.out ((Kept.refl _ _).alloc _)) (Kept.of_grown hgr) (fun i hi hj => by obtain ⟨c1, e1⟩ := own_type (own_same HF.out ((Kept.refl _ _).alloc _)) hi; obtain ⟨c2, e2⟩ := own_type hown2 hj; rw [e1] at e2; cases e2)); (have Hown : Hid (w'.ownsRow w.heap.size 40 10 v' (j + 1) (((List.range (j + 1)).map (fun (i : Nat) => ec 0 (i : Int))).flatMap encS)) := by rw [List.range_succ, List.map_append, List.map_singleton, ← enc_snoc]; exact hown'); (have hlit2 := Src.lit w' #[.int .i64 (j : Int)] 3 1 1 rfl); (have hsz2 := hkp'.size); (have Hkp := Lib.hid hkp'); (have hL2 : (w'.alloc (.cells #[.int .i64 (j : Int)] 3)).ownsRow w.heap.size 40 10 v' (j + 1) (((List.range (j + 1)).map (fun (i : Nat) => ec 0 (i : Int))).flatMap encS) := own_same Hown.out ((Kept.refl _ _).alloc _)); (have hF2 : (w'.alloc (.cells #[.int .i64 (j : Int)] 3)).ownsRow w.heap.size 3 1 vn j (((List.range j).map (fun (i : Nat) => (i : Int))).map (Value.int .i64)) := own_same hf' ((Kept.refl _ _).alloc _)); clear hown2 hlit hgr hown' hkp' ) | (at_builtin; refine wpList_append_src rfl _ _ 26 rfl w.heap.size 3 i3 _ 1 8 Try.underlying26 hi3 hy0 hy1 hy2 rfl (by decide) vn j _ rfl hF2 _ 1 _ rfl hlit2 (by simp [Value.oneCell']) (by unfold maxLen; omega) (by omega) (by simp; omega) ?_; intro v'' w'' hown'' hgr2; (have Hkp2 : Hid (New w w'') := (Hkp.out.alloc _).grown hgr2 (fun i hi => .inl (own_block hf' hi))); (replace Hown : Hid (w''.ownsRow w.heap.size 40 10 v' (j + 1) (((List.range (j + 1)).map (fun (i : Nat) => ec 0 (i : Int))).flatMap encS)) := own_kept hL2 (Kept.of_grown hgr2) (fun i hi hj => by obtain ⟨c1, e1⟩ := own_type hL2 hi; obtain ⟨c2, e2⟩ := own_type hF2 hj; rw [e1] at e2; cases e2)); (have Hown2 : Hid (w''.ownsRow w.heap.size 3 1 v'' (j + 1) (((List.range (j + 1)).map (fun (i : Nat) => (i : Int))).map (Value.int .i64))) := by rw [List.range_succ, List.map_append, List.map_append]; exact hown''); clear hown'' hgr2))
      go_roundw
      case rel => exact ⟨j + 1, v', v'', by omega, rfl, rfl, by go_num, Hown.out, Hown2.out, Hkp2.out⟩
      case measure => simp [intOf]; omega
    · obtain rfl : n = j := by omega
      clear h1 hj
      clear hw1
      have hE1 : wr.ownsRow w.heap.size 40 10 vl (n + 2 * 0) (((List.range n).map (fun (i : Nat) => ec 0 (i : Int)) ++ roundsL 0).flatMap encS) := by rw [show roundsL 0 = [] from rfl, List.append_nil]; exact HL.out
      obtain ⟨g, cap, rfl, hg, hR⟩ := Row.of_own HF.out (by omega)
      have hcap : n ≤ cap := by have := hR.le; simpa using this
      clear HF HL
      go_wp2_with fail
      go_loopw [6, 7, 9] (fun l wn i wi => ∃ (j o : Nat) (vl : Value), j ≤ q ∧ vl = l ∧ wn = .slice (some ⟨g, o, none⟩) ((n - j : Nat)) ((cap - j : Nat)) ∧ i = .int .i64 j ∧ Hid (j < n → o = j) ∧ Hid (wi.ownsRow w.heap.size 40 10 vl (n + 2 * j) (((List.range n).map (fun (i : Nat) => ec 0 (i : Int)) ++ roundsL j).flatMap encS)) ∧ Hid (Row wi g cap 3 (((List.range n).map (fun (i : Nat) => (i : Int))).map (Value.int .i64))) ∧ Hid (New w wi)) (fun _ _ i _ => n - (intOf i).toNat)
      case atStart => exact ⟨0, 0, _, by omega, rfl, rfl, rfl, fun _ => rfl, hE1, hR, HN.out⟩
      case round =>
        clear hE1 hR HN
        obtain ⟨j, o, vl, hj, rfl, rfl, rfl, Ho, HE, HRi, HNi⟩ := hrel
        by_cases h1 : j < q
        · obtain rfl : j = o := (Ho.out (by omega)).symm
          have h1z : (j : Int) < (q : Int) := by omega
          obtain ⟨nj, hnj⟩ : ∃ nj, n - j = nj + 1 := ⟨n - j - 1, by omega⟩
          obtain ⟨cj, hcj⟩ : ∃ cj, cap - j = cj + 1 := ⟨cap - j - 1, by omega⟩
          have hle : nj ≤ cj := by omega
          have Hnj : Hid (n - (j + 1) = nj) := (by omega : n - (j + 1) = nj)
          have Hcj : Hid (cap - (j + 1) = cj) := (by omega : cap - (j + 1) = cj)
          rw [hnj, hcj]
          have hown2 : (wr.alloc (.cells #[.int .i64 1, .int .i64 (j : Int), .int .i64 0, .int .i64 0, .int .u64 0, .int .i64 0, .slice none 0 0, .int .i64 0, .int .i64 0, .bool false] 40)).ownsRow w.heap.size 40 10 vl (n + 2 * j) (((List.range n).map (fun (i : Nat) => ec 0 (i : Int)) ++ roundsL j).flatMap encS) := own_same HE.out ((Kept.refl _ _).alloc _)
          have hlit := Src.lit wr #[.int .i64 1, .int .i64 (j : Int), .int .i64 0, .int .i64 0, .int .u64 0, .int .i64 0, .slice none 0 0, .int .i64 0, .int .i64 0, .bool false] 40 1 10 rfl
          have hsz := HNi.out.size
          clear hnj hcj
          go_wp2_with (first | (at_builtin; refine wpList_append_src rfl _ _ 22 rfl w.heap.size 40 i0 _ 10 96 Try.underlying22 hi0 hz0 hz1 hz2 rfl (by decide) vl _ _ rfl hown2 _ 1 _ rfl hlit (by simp [Value.oneCell']) (by unfold maxLen; omega) (by omega) (by simp; omega) ?_; intro va wa hoa hga; (have hkA : New w wa := (HNi.out.alloc _).grown hga (fun i hi => .inl (own_block hown2 hi))); (have hrA : Row wa g cap 3 (((List.range n).map (fun (i : Nat) => (i : Int))).map (Value.int .i64)) := (HRi.out.alloc _).kept (Kept.of_grown hga) (fun hj => by obtain ⟨cu, e1, -⟩ := (HRi.out.alloc (.cells #[.int .i64 1, .int .i64 (j : Int), .int .i64 0, .int .i64 0, .int .u64 0, .int .i64 0, .slice none 0 0, .int .i64 0, .int .i64 0, .bool false] 40)).ex; obtain ⟨c2, e2⟩ := own_type hown2 hj; rw [e1] at e2; cases e2)); (have hoA : (wa.alloc (.cells #[.int .i64 2, .int .i64 (j : Int), .int .i64 0, .int .i64 0, .int .u64 0, .int .i64 0, .slice none 0 0, .int .i64 0, .int .i64 0, .bool false] 40)).ownsRow w.heap.size 40 10 va (n + 2 * j + 1) ((((List.range n).map (fun (i : Nat) => ec 0 (i : Int)) ++ roundsL j) ++ [ec 1 (j : Int)]).flatMap encS) := own_same (by rw [← enc_snoc]; exact hoa) ((Kept.refl _ _).alloc _)); (have hlit2 := Src.lit wa #[.int .i64 2, .int .i64 (j : Int), .int .i64 0, .int .i64 0, .int .u64 0, .int .i64 0, .slice none 0 0, .int .i64 0, .int .i64 0, .bool false] 40 1 10 rfl); (have hsz2 := hkA.size); clear hown2 hlit hga hoa) | (at_builtin; refine wpList_append_src rfl _ _ 22 rfl w.heap.size 40 i0 _ 10 96 Try.underlying22 hi0 hz0 hz1 hz2 rfl (by decide) va _ _ rfl hoA _ 1 _ rfl hlit2 (by simp [Value.oneCell']) (by unfold maxLen; omega) (by omega) (by simp; omega) ?_; intro vb wb hob hgb; (have HkB : Hid (New w wb) := (hkA.alloc _).grown hgb (fun i hi => .inl (own_block hoA hi))); (have HrB : Hid (Row wb g cap 3 (((List.range n).map (fun (i : Nat) => (i : Int))).map (Value.int .i64))) := (hrA.alloc _).kept (Kept.of_grown hgb) (fun hj => by obtain ⟨cu, e1, -⟩ := (hrA.alloc (.cells #[.int .i64 2, .int .i64 (j : Int), .int .i64 0, .int .i64 0, .int .u64 0, .int .i64 0, .slice none 0 0, .int .i64 0, .int .i64 0, .bool false] 40)).ex; obtain ⟨c2, e2⟩ := own_type hoA hj; rw [e1] at e2; cases e2)); (have HoB : Hid (wb.ownsRow w.heap.size 40 10 vb (n + 2 * (j + 1)) (((List.range n).map (fun (i : Nat) => ec 0 (i : Int)) ++ roundsL (j + 1)).flatMap encS)) := by rw [rounds_succ, ← List.append_assoc, ← List.append_assoc, ← enc_snoc]; exact hob); clear hoA hlit2 hgb hob hkA hrA hsz2))
          go_roundw
          case rel => exact ⟨j + 1, (if cj = 0 then j else j + 1), vb, by omega, rfl, (by rw [Hnj.out, Hcj.out]; split <;> rfl), by go_num, (fun h => by rw [if_neg]; have := Hnj.out; omega), HoB.out, HrB.out, HkB.out⟩
          case measure => simp [intOf]; omega
        · obtain rfl : q = j := by omega
          clear h1 hj
          have hgo := lines_run n q hqn
          have hlen : ((List.range n).map (fun (i : Nat) => ec 0 (i : Int)) ++ roundsL q).length = n + 2 * q := by
            have h9 := HE.out.1
            rw [seen_len] at h9
            omega
          have hsrc := Src.of_own HE.out
          rw [← hlen] at hsrc
          have hpl : ∀ (w : World), ∀ s ∈ (List.range n).map (fun (i : Nat) => ec 0 (i : Int)) ++ roundsL q, Src w s.v s.t.fg.length 4 (s.t.fg.flatMap encL) ∧ s.t.fg.length ≤ 1000000 := isPlain_ec (by
            intro s hs
            rcases List.mem_append.1 hs with hs | hs
            · obtain ⟨i, -, rfl⟩ := List.mem_map.1 hs; exact ⟨_, _, rfl⟩
            · obtain ⟨i, -, hs⟩ := List.mem_flatMap.1 hs
              simp at hs
              rcases hs with rfl | rfl <;> exact ⟨_, _, rfl⟩)
          have hwant : ∀ W, New wr W → Src W (.slice (some ⟨g, o, none⟩) (n - q) (cap - q)) (n - q) 1 (((List.range' q (n - q)).map (fun (i : Nat) => (i : Int))).map (Value.int .i64)) := fun W hW => by
            refine ⟨_, _, rfl, by simp, by simp, fun i u hi => ?_⟩
            have hlt := (List.getElem?_eq_some_iff.1 hi).1
            simp at hlt
            have ho := Ho.out (by omega)
            subst ho
            refine ⟨_, rfl, ?_⟩
            rw [addr_add]
            have hc := cell_kept hW (HRi.out.cellI (i := o + i) (by simp; omega)) (fun h => h)
            rw [hc]
            simp [hlt] at hi ⊢
            rw [← hi]
            simp [List.getD, show o + i < n by omega]
          have hnum : ∀ v W, New wr W → Src W v (n - q) 1 (((List.range' q (n - q)).map (fun (i : Nat) => (i : Int))).map (Value.int .i64)) → Calls Try.prog 13 #[v, .slice (some ⟨g, o, none⟩) (n - q) (cap - q)] W fun e w' => e = .returned (.bool true) ∧ New wr w' := fun v W h1 h2 => by
            have := nums_any v _ (n - q) (n - q) _ _ W h2 (hwant W h1) (by omega) (by omega)
            rw [decide_eq_true rfl] at this
            exact this.mono (fun e w' ⟨h3, h4⟩ => ⟨h3, h1.trans h4⟩)
          have hfirst : ∀ W, New wr W → Calls Try.prog 11 #[.int .i64 n, vl] W fun e w' => e = .returned (.int .i64 (-1)) ∧ New wr w' := fun W hW =>
            (ofirst_any n vl _ W hn1 hn2 (hsrc.same hW) (hpl W) (by rw [hlen]; omega) _ _ _ hgo).mono (fun e w' ⟨h3, h4⟩ => ⟨h3, hW.trans h4⟩)
          have hline : ∀ W, New wr W → Calls Try.prog 14 #[.int .i64 n, vl] W fun e w' => ∃ v, e = .returned v ∧ Src w' v (n - q) 1 (((List.range' q (n - q)).map (fun (i : Nat) => (i : Int))).map (Value.int .i64)) ∧ New wr w' := fun W hW => by
            refine (oline_any n vl _ W hn1 hn2 (hsrc.same hW) (hpl W) (by rw [hlen]; omega) _ _ _ hgo).mono ?_
            rintro e w' ⟨v, rfl, h1, h2⟩
            rw [core_eW] at h1
            refine ⟨v, rfl, ?_, hW.trans h2⟩
            have h3 := Src.of_own h1
            simpa using h3
          have hwaits : ∀ W, New wr W → Calls Try.prog 18 #[.int .i64 n, vl] W fun e w' => e = .returned (.int .i64 ((q - 1 : Nat))) ∧ New wr w' := fun W hW =>
            (owaits_any n vl _ W hn1 hn2 (hsrc.same hW) (hpl W) (by rw [hlen]; omega) _ _ _ hgo).mono (fun e w' ⟨h3, h4⟩ => ⟨h3, hW.trans h4⟩)
          have hfix : ∀ W, New wr W → Calls Try.prog 20 #[] W fun e w' => e = .returned (.bool true) ∧ New wr w' := fun W hW => (fixed_any W).mono (fun e w' ⟨h3, h4⟩ => ⟨h3, hW.trans h4⟩)
          obtain ⟨nq, hnq⟩ : ∃ nq, nq = n - q := ⟨_, rfl⟩
          obtain ⟨cq, hcq⟩ : ∃ cq, cq = cap - q := ⟨_, rfl⟩
          obtain ⟨q1, hq1⟩ : ∃ q1, q1 = q - 1 := ⟨_, rfl⟩
          have hmax : (0 < IntKind.i64.wrap ((q : Int) - 1) ∧ IntKind.i64.wrap ((q : Int) - 1) = (q1 : Int)) ∨ (¬ 0 < IntKind.i64.wrap ((q : Int) - 1) ∧ q1 = 0) := by rw [IntKind.wrap_i64]; omega
          rw [← hnq, ← hcq] at hnum ⊢
          rw [← hnq] at hline
          rw [← hq1] at hwaits
          have Hnum := Lib.hid hnum
          have Hfirst := Lib.hid hfirst
          have Hline := Lib.hid hline
          have Hwaits := Lib.hid hwaits
          have Hfix := Lib.hid hfix
          have hd0 : New wr wr.drew := (Kept.refl _ _).drew
          have Hsz := HNi.out
          clear hnum hfirst hline hwaits hfix hwant hpl hsrc hlen hgo hnq hcq hq1 HE HRi Ho
          rcases hmax with ⟨hp, hw3⟩ | ⟨hp, hq0⟩
          · rw [hw3] at hp
            go_wp2_with fail
            go_region_held3 (fun W => New wr W) (with_reducible assumption)
              (first
                | (go_at_call 11; refine (Hfirst.out _ (by with_reducible assumption)).mono ?_; rintro e w' ⟨rfl, hk⟩)
                | (go_at_call 14; refine (Hline.out _ (by with_reducible assumption)).mono ?_; rintro e w' ⟨v, rfl, hv, hk⟩)
                | (go_at_call 13; refine (Hnum.out _ _ (by with_reducible assumption) (by with_reducible assumption)).mono ?_; rintro e w' ⟨rfl, hk⟩)
                | (go_at_call 18; refine (Hwaits.out _ (by with_reducible assumption)).mono ?_; rintro e w' ⟨rfl, hk⟩)
                | (go_at_call 20; refine (Hfix.out _ (by with_reducible assumption)).mono ?_; rintro e w' ⟨rfl, hk⟩))
            all_goals (go_wp2_with fail; go_ret; exact ⟨rfl, none_below (Hsz.trans (by with_reducible assumption))⟩)
          · subst hq0
            go_wp2_with fail
            go_region_held3 (fun W => New wr W) (with_reducible assumption)
              (first
                | (go_at_call 11; refine (Hfirst.out _ (by with_reducible assumption)).mono ?_; rintro e w' ⟨rfl, hk⟩)
                | (go_at_call 14; refine (Hline.out _ (by with_reducible assumption)).mono ?_; rintro e w' ⟨v, rfl, hv, hk⟩)
                | (go_at_call 13; refine (Hnum.out _ _ (by with_reducible assumption) (by with_reducible assumption)).mono ?_; rintro e w' ⟨rfl, hk⟩)
                | (go_at_call 18; refine (Hwaits.out _ (by with_reducible assumption)).mono ?_; rintro e w' ⟨rfl, hk⟩)
                | (go_at_call 20; refine (Hfix.out _ (by with_reducible assumption)).mono ?_; rintro e w' ⟨rfl, hk⟩))
            all_goals (go_wp2_with fail; go_ret; exact ⟨rfl, none_below (Hsz.trans (by with_reducible assumption))⟩)

end Go.Proofs.Ytjimjkfnpklhiaa

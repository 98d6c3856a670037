/- The walk of the law OrderOne. -/
import Derived.Test.YtjimjkfnpklhiaaOrdU
set_option linter.all false
namespace Go.Proofs.Ytjimjkfnpklhiaa
open Go.RowKit Go.Maps

abbrev kk (k : Int) : Sn := ⟨k, 0, 0, ⟨0, 0, 0, []⟩, .slice none 0 0, 0, 0, false⟩
/-- The first whose kind is not its number's, of three in turns. -/
def goW : List Int → Nat → Int
  | [], _ => -1
  | k :: r, i => if k ≠ (i : Int) % 3 then i else goW r (i + 1)
theorem goW_cons_eq {a : Int} {K : List Int} {i : Nat} (h : a = (i : Int) % 3) : goW (a :: K) i = goW K (i + 1) := by rw [goW, if_neg (fun h' => h' h)]
theorem goW_cons_ne {a : Int} {K : List Int} {i : Nat} (h : ¬ a = (i : Int) % 3) : goW (a :: K) i = i := by rw [goW, if_pos h]
theorem goW_hit {k : Int} : ∀ {K : List Int} {i : Nat}, goW K i < 0 → ¬ k = ((i + K.length : Nat) : Int) % 3 → goW (K ++ [k]) i = ((i + K.length : Nat) : Int)
  | [], i, _, h => goW_cons_ne h
  | a :: K, i, h0, h => by
    by_cases h1 : a = (i : Int) % 3
    · rw [goW_cons_eq h1] at h0
      rw [List.length_cons, show i + (K.length + 1) = i + 1 + K.length by omega] at h ⊢
      rw [List.cons_append, goW_cons_eq h1, goW_hit h0 h]
    · rw [goW_cons_ne h1] at h0; omega
theorem goW_miss {k : Int} : ∀ {K : List Int} {i : Nat}, ¬ (goW K i < 0) ∨ k = ((i + K.length : Nat) : Int) % 3 → goW (K ++ [k]) i = goW K i
  | [], i, h => by
    rcases h with h | h
    · exact absurd (show goW [] i < 0 by rw [goW]; decide) h
    · exact goW_cons_eq h
  | a :: K, i, h => by
    by_cases h1 : a = (i : Int) % 3
    · rw [goW_cons_eq h1] at h
      rw [List.length_cons, show i + (K.length + 1) = i + 1 + K.length by omega] at h
      rw [List.cons_append, goW_cons_eq h1, goW_cons_eq h1, goW_miss h]
    · rw [List.cons_append, goW_cons_ne h1, goW_cons_ne h1]
def stOne (i : Nat) : List En := if i % 3 = 0 then [] else if i % 3 = 1 then [en0 (kk 0)] else [en1 (en0 (kk 0)) (kk 1)]
theorem goE_no {n : Nat} {E E' : List En} {m m' : Nat} {s : Sn} {r : List Sn} {i : Nat} (h : ¬ (s.c < 0 ∨ (n : Int) ≤ s.c)) (hm : mayE E m s = (false, E', m')) : goE n E m (s :: r) i = ((i : Int), E', m') := by
  rw [goE, if_neg h, hm, if_neg (by simp)]
theorem goE_yes {n : Nat} {E E' : List En} {m m' : Nat} {s : Sn} {r : List Sn} {i : Nat} (h : ¬ (s.c < 0 ∨ (n : Int) ≤ s.c)) (hm : mayE E m s = (true, E', m')) : goE n E m (s :: r) i = goE n E' m' r (i + 1) := by
  rw [goE, if_neg h, hm, if_pos rfl]
theorem goE_one : ∀ (K : List Int) (i m : Nat), (∀ k ∈ K, 0 ≤ k ∧ k < 3) → (goE 1 (stOne i) m (K.map kk) i).1 = goW K i
  | [], i, m, _ => rfl
  | k :: K, i, m, h => by
    have hk := h k (by simp)
    have ih := fun m => goE_one K (i + 1) m (fun x hx => h x (List.mem_cons_of_mem _ hx))
    have hc : ∀ k, ¬ ((kk k).c < 0 ∨ ((1 : Nat) : Int) ≤ (kk k).c) := fun k => by simp
    rw [List.map_cons]
    have hi : i % 3 = 0 ∨ i % 3 = 1 ∨ i % 3 = 2 := by omega
    have hk3 : k = 0 ∨ k = 1 ∨ k = 2 := by omega
    rcases hi with hi | hi | hi
    · have e1 : stOne i = [] := by rw [stOne, if_pos hi]
      have e2 : stOne (i + 1) = [en0 (kk 0)] := by rw [stOne, if_neg (by omega), if_pos (by omega)]
      rw [e1]
      rw [e2] at ih
      rcases hk3 with rfl | rfl | rfl
      · rw [goW_cons_eq (by omega), goE_yes (hc _) rfl]; exact ih m
      · rw [goW_cons_ne (by omega), goE_no (hc _) rfl]
      · rw [goW_cons_ne (by omega), goE_no (hc _) rfl]
    · have e1 : stOne i = [en0 (kk 0)] := by rw [stOne, if_neg (by omega), if_pos hi]
      have e2 : stOne (i + 1) = [en1 (en0 (kk 0)) (kk 1)] := by rw [stOne, if_neg (by omega), if_neg (by omega)]
      rw [e1]
      rw [e2] at ih
      rcases hk3 with rfl | rfl | rfl
      · rw [goW_cons_ne (by omega), goE_no (hc _) rfl]
      · rw [goW_cons_eq (by omega), goE_yes (hc _) rfl]; exact ih m
      · rw [goW_cons_ne (by omega), goE_no (hc _) rfl]
    · have e1 : stOne i = [en1 (en0 (kk 0)) (kk 1)] := by rw [stOne, if_neg (by omega), if_neg (by omega)]
      have e2 : stOne (i + 1) = [] := by rw [stOne, if_pos (by omega)]
      rw [e1]
      rw [e2] at ih
      rcases hk3 with rfl | rfl | rfl
      · rw [goW_cons_ne (by omega), goE_no (hc _) rfl]
      · rw [goW_cons_ne (by omega), goE_no (hc _) rfl]
      · rw [goW_cons_eq (by omega), goE_yes (hc _) rfl]; exact ih _
theorem info40 : (Try.prog.info? 40).map (fun i => (i.zero, i.size, i.bytes)) = some (some (snV (kk 0)), 10, 96) := by kernel_rfl
theorem encS_one {L : List Sn} (h : ∀ s ∈ L, s.v.oneCell' = true) : ∀ u ∈ L.flatMap encS, u.oneCell' = true := by
  intro u hu
  obtain ⟨s, hs, hu⟩ := List.mem_flatMap.1 hu
  simp [encS] at hu
  rcases hu with rfl | rfl | rfl | rfl | rfl | rfl | rfl | rfl | rfl | rfl
  case inr.inr.inr.inr.inr.inr.inl => exact h s hs
  all_goals rfl

def kE (z : Int) : Int := Int.tmod (bits .and .i64 z 65535) 3
theorem kE_eq (z : Int) : ∃ y k : Nat, bits .and .i64 z 65535 = (y : Int) ∧ Int.tmod (y : Int) 3 = (k : Int) ∧ kE z = (k : Int) ∧ k < 3 := by
  obtain ⟨y, hy, y0, y1⟩ := and_small z 16 (by decide)
  simp only [Int.reducePow, Int.reduceSub] at hy y1
  obtain ⟨y, rfl⟩ := Int.eq_ofNat_of_zero_le y0
  have h : Int.tmod (y : Int) 3 = ((y % 3 : Nat) : Int) := by rw [Int.tmod_eq_emod_of_nonneg (by omega)]; omega
  exact ⟨y, y % 3, hy, h, by rw [kE, hy, h], Nat.mod_lt _ (by decide)⟩
theorem kk_snoc {K : List Int} {j : Nat} {k : Int} (h : K[j]? = some k) : K.take (j + 1) = K.take j ++ [k] := by rw [List.take_succ, h]; rfl
theorem enc_snoc (L : List Sn) (s : Sn) : L.flatMap encS ++ encS s = (L ++ [s]).flatMap encS := by simp

theorem Src.intsA {w : World} {v : Value} {n : Nat} {k : IntKind} {zs : List Int} (h : Src w v n 1 (zs.map (Value.int k))) :
    zs.length = n ∧ ∃ ao c, v = .slice ao n c ∧ ∀ i, i < n → ∃ B O, ao = some ⟨B, O, none⟩ ∧ w.cell? ⟨B, O + i, none⟩ = some (.int k (zs.getD i 0)) := by
  obtain ⟨h1, ao, c, rfl, h2⟩ := h.ints
  refine ⟨h1, ao, c, rfl, fun i hi => ?_⟩
  obtain ⟨⟨B, O, sp⟩, rfl, h0⟩ := h2 0 (by omega)
  have hsp : sp = none := by have := spot_of_cell h0; simpa [Addr.add] using this
  subst hsp
  obtain ⟨ad, e, hc⟩ := h2 i hi
  cases e
  rw [addr_add] at hc
  exact ⟨B, O, rfl, hc⟩

set_option maxRecDepth 100000 in
set_option maxHeartbeats 4000000 in
theorem walkOrderOne (w : World) (v : Value) (rows : List (List Value)) (hs : Src w v rows.length 1 rows.flatten) (hr : ∀ x ∈ rows, FlatOk [.int .i64] x) (hm : rows.length ≤ maxLen) :
    Calls Try.prog 6 #[v] w fun e w' => e = .returned (.bool true) ∧ Below w.heap.size w w' := by
  unfold maxLen at hm
  obtain ⟨zs, hz, hzl, hzw⟩ := ints_of_rows hr
  rw [hz, ← hzl] at hs
  rw [← hzl] at hm
  obtain ⟨-, ao, c, rfl, hc⟩ := hs.intsA
  obtain ⟨len, hlen⟩ : ∃ len, len = zs.length := ⟨_, rfl⟩
  rw [← hlen] at hc hm ⊢
  obtain ⟨K, hK⟩ : ∃ K, K = (zs.take 60).map kE := ⟨_, rfl⟩
  have hKl : K.length = min 60 len := by rw [hK, List.length_map, List.length_take, hlen]
  have hKz : ∀ j, j < len → j < 60 → K[j]? = some (kE (zs.getD j 0)) := fun j h1 h2 => by
    rw [hK, List.getElem?_map, List.getElem?_take, if_pos h2, List.getElem?_eq_getElem (by omega)]
    simp [List.getD, List.getElem?_eq_getElem (show j < zs.length by omega)]
  have hK3 : ∀ k ∈ K, 0 ≤ k ∧ k < 3 := fun k hk => by
    rw [hK] at hk
    obtain ⟨z, -, rfl⟩ := List.mem_map.1 hk
    obtain ⟨y, k, -, -, h, h3⟩ := kE_eq z
    rw [h]; omega
  have Hc := Lib.hid hc
  have HKl := Lib.hid hKl
  have HKz := Lib.hid hKz
  have HK3 := Lib.hid hK3
  clear hc hs hz hzl hzw hr hK hlen hKl hKz hK3
  obtain ⟨i0, hi0, hz0, hz1, hz2⟩ := info_parts info40
  go_enter Try.func6, Try.ntmps6
  go_wp2_with fail
  have hE0 : (w.alloc (.cells #[] 40)).ownsRow w.heap.size 40 10 (.slice (some ⟨w.heap.size, 0, none⟩) 0 0) 0 (([] : List Sn).flatMap encS) := World.ownsRow_made w #[] 0 (Nat.le_refl _) (by unfold maxLen; omega) rfl
  go_loopw [3, 4, 5, 6] (fun m st wt i wr => ∃ (j : Nat) (vm : Value) (wn : Int), j ≤ len ∧ j ≤ 60 ∧ vm = m ∧ st = .int .i64 j ∧ wt = .int .i64 wn ∧ i = .int .i64 j ∧ Hid (goW (K.take j) 0 = wn ∧ wn ≤ 60 ∧ -1 ≤ wn) ∧ Hid (wr.ownsRow w.heap.size 40 10 vm j (((K.take j).map kk).flatMap encS)) ∧ Hid (New w wr)) (fun _ _ _ i _ => 60 - (intOf i).toNat)
  case atStart => exact ⟨0, _, -1, by omega, by omega, rfl, rfl, rfl, rfl, ⟨rfl, by decide, by decide⟩, hE0, (Kept.refl _ _).alloc _⟩
  case round =>
    clear hE0
    obtain ⟨j, vm, wn, hj, hj60, rfl, rfl, rfl, rfl, HW, HO, HN⟩ := hrel
    by_cases h1 : j < len
    · by_cases h2 : j < 60
      · have h2z : (j : Int) < 60 := by omega
        obtain ⟨B, O, rfl, hcell⟩ := Hc.out j h1
        replace hcell := cell_kept HN.out hcell (fun h => h)
        obtain ⟨y, k, hy, hmod, hkE, hk3⟩ := kE_eq (zs.getD j 0)
        have hsn := kk_snoc (HKz.out j h1 h2)
        rw [hkE] at hsn
        have hjm : Int.tmod (j : Int) 3 = ((j % 3 : Nat) : Int) := by rw [Int.tmod_eq_emod_of_nonneg (by omega)]; omega
        obtain ⟨jm, hjm'⟩ : ∃ jm, jm = j % 3 := ⟨_, rfl⟩
        rw [← hjm'] at hjm
        have Hjm := Lib.hid hjm'
        obtain ⟨z, hzz⟩ : ∃ z, z = zs.getD j 0 := ⟨_, rfl⟩
        rw [← hzz] at hcell hy
        have hown2 : (wr.alloc (.cells #[.int .i64 k, .int .i64 0, .int .i64 0, .int .i64 0, .int .u64 0, .int .i64 0, .slice none 0 0, .int .i64 0, .int .i64 0, .bool false] 40)).ownsRow w.heap.size 40 10 vm j (((K.take j).map kk).flatMap encS) := own_same HO.out ((Kept.refl _ _).alloc _)
        have hlit := Src.lit wr #[.int .i64 k, .int .i64 0, .int .i64 0, .int .i64 0, .int .u64 0, .int .i64 0, .slice none 0 0, .int .i64 0, .int .i64 0, .bool false] 40 1 10 rfl
        have hsz := HN.out.size
        have HWo := HW
        have Hsn := Lib.hid hsn
        have HkE := Lib.hid hkE
        clear hkE hsn HW hzz hjm' HO
        by_cases hw : wn < 0
        · by_cases hkj : (k : Int) = (jm : Int)
          · have hne : ((k : Int) != (jm : Int)) = false := by simpa using hkj
            have hst : goW (K.take (j + 1)) 0 = wn := by
              rw [Hsn.out, goW_miss (.inr (by rw [List.length_take, HKl.out, Nat.zero_add, Nat.min_eq_left (by omega)]; have := Hjm.out; omega))]; exact HWo.out.1
            have Hst := Lib.hid hst
            clear hst hkj
            go_wp2_with (at_builtin; refine wpList_append_src rfl _ _ 22 rfl w.heap.size 40 i0 _ 10 96 Try.underlying22 hi0 hz0 hz1 hz2 rfl (by decide) vm j _ rfl hown2 _ 1 _ rfl hlit (by simp [Value.oneCell']) (by unfold maxLen; omega) (by omega) (by simp; omega) ?_; intro v' w' hown' hgr; (have hkp' : New w w' := (HN.out.alloc _).grown hgr (fun i hi => .inl (own_block hown2 hi))); (have Hown := Lib.hid hown'); (have Hkp := Lib.hid hkp'); clear hown2 hlit hgr hown' hkp')
            go_roundw
            case rel => exact ⟨j + 1, v', wn, by omega, by omega, rfl, by go_num, rfl, by go_num, ⟨Hst.out, HWo.out.2⟩, by rw [Hsn.out, List.map_append, List.map_singleton, ← enc_snoc]; exact Hown.out, Hkp.out⟩
            case measure => simp [intOf]; omega
          · have hne : ((k : Int) != (jm : Int)) = true := by simpa using hkj
            have hst : goW (K.take (j + 1)) 0 = j := by
              rw [Hsn.out, goW_hit (by rw [HWo.out.1]; exact hw) (by rw [List.length_take, HKl.out, Nat.zero_add, Nat.min_eq_left (by omega)]; have := Hjm.out; omega)]
              rw [List.length_take, HKl.out, Nat.zero_add, Nat.min_eq_left (by omega)]
            have Hst := Lib.hid hst
            clear hst hkj
            go_wp2_with (at_builtin; refine wpList_append_src rfl _ _ 22 rfl w.heap.size 40 i0 _ 10 96 Try.underlying22 hi0 hz0 hz1 hz2 rfl (by decide) vm j _ rfl hown2 _ 1 _ rfl hlit (by simp [Value.oneCell']) (by unfold maxLen; omega) (by omega) (by simp; omega) ?_; intro v' w' hown' hgr; (have hkp' : New w w' := (HN.out.alloc _).grown hgr (fun i hi => .inl (own_block hown2 hi))); (have Hown := Lib.hid hown'); (have Hkp := Lib.hid hkp'); clear hown2 hlit hgr hown' hkp')
            go_roundw
            case rel => exact ⟨j + 1, v', j, by omega, by omega, rfl, by go_num, rfl, by go_num, ⟨Hst.out, by omega, by omega⟩, by rw [Hsn.out, List.map_append, List.map_singleton, ← enc_snoc]; exact Hown.out, Hkp.out⟩
            case measure => simp [intOf]; omega
        · have hst : goW (K.take (j + 1)) 0 = wn := by
            rw [Hsn.out, goW_miss (.inl (by rw [HWo.out.1]; exact hw))]; exact HWo.out.1
          have Hst := Lib.hid hst
          clear hst
          go_wp2_with (at_builtin; refine wpList_append_src rfl _ _ 22 rfl w.heap.size 40 i0 _ 10 96 Try.underlying22 hi0 hz0 hz1 hz2 rfl (by decide) vm j _ rfl hown2 _ 1 _ rfl hlit (by simp [Value.oneCell']) (by unfold maxLen; omega) (by omega) (by simp; omega) ?_; intro v' w' hown' hgr; (have hkp' : New w w' := (HN.out.alloc _).grown hgr (fun i hi => .inl (own_block hown2 hi))); (have Hown := Lib.hid hown'); (have Hkp := Lib.hid hkp'); clear hown2 hlit hgr hown' hkp')
          go_roundw
          case rel => exact ⟨j + 1, v', wn, by omega, by omega, rfl, by go_num, rfl, by go_num, ⟨Hst.out, HWo.out.2⟩, by rw [Hsn.out, List.map_append, List.map_singleton, ← enc_snoc]; exact Hown.out, Hkp.out⟩
          case measure => simp [intOf]; omega
      · clear Hc HKz
        rw [List.take_of_length_le (by have := HKl.out; omega)] at HO HW
        have hlen : (K.map kk).length = j := by rw [List.length_map, HKl.out]; omega
        obtain ⟨r, E, m, hg⟩ : ∃ r E m, goE 1 [] 0 (K.map kk) 0 = (r, E, m) := ⟨_, _, _, rfl⟩
        have hr : r = wn := by rw [← HW.out.1, ← goE_one K 0 0 HK3.out, show stOne 0 = [] from rfl, hg]
        subst hr
        have hcall := ofirst_any 1 vm (K.map kk) wr (by decide) (by decide) (by rw [hlen]; exact Src.of_own HO.out) (fun s hs => by obtain ⟨k, -, rfl⟩ := List.mem_map.1 hs; exact ⟨⟨none, 0, rfl, fun _ => rfl, rfl, fun j v hj => by simp at hj⟩, by simp⟩) (by rw [hlen]; omega) _ E m hg
        have Hcall := Lib.hid hcall
        clear hcall hg hlen HO HW HKl HK3
        go_wp2_with fail
        refine Hcall.out.mono ?_
        rintro e w3 ⟨rfl, hk3⟩
        go_wp2_with fail
        refine (fixed_any _).mono ?_
        rintro e w4 ⟨rfl, hk4⟩
        go_wp2_with fail
        go_ret
        exact ⟨rfl, none_below (HN.out.trans (hk3.trans hk4))⟩
    · clear Hc HKz
      rw [List.take_of_length_le (by have := HKl.out; omega)] at HO HW
      have hlen : (K.map kk).length = j := by rw [List.length_map, HKl.out]; omega
      obtain ⟨r, E, m, hg⟩ : ∃ r E m, goE 1 [] 0 (K.map kk) 0 = (r, E, m) := ⟨_, _, _, rfl⟩
      have hr : r = wn := by rw [← HW.out.1, ← goE_one K 0 0 HK3.out, show stOne 0 = [] from rfl, hg]
      subst hr
      have hcall := ofirst_any 1 vm (K.map kk) wr (by decide) (by decide) (by rw [hlen]; exact Src.of_own HO.out) (fun s hs => by obtain ⟨k, -, rfl⟩ := List.mem_map.1 hs; exact ⟨⟨none, 0, rfl, fun _ => rfl, rfl, fun j v hj => by simp at hj⟩, by simp⟩) (by rw [hlen]; omega) _ E m hg
      have Hcall := Lib.hid hcall
      clear hcall hg hlen HO HW HKl HK3
      go_wp2_with fail
      refine Hcall.out.mono ?_
      rintro e w3 ⟨rfl, hk3⟩
      go_wp2_with fail
      refine (fixed_any _).mono ?_
      rintro e w4 ⟨rfl, hk4⟩
      go_wp2_with fail
      go_ret
      exact ⟨rfl, none_below (HN.out.trans (hk3.trans hk4))⟩
end Go.Proofs.Ytjimjkfnpklhiaa

/- The walk of the law NotifyEach. -/
import Derived.Test.YtaaoegfdhpploaaNotF
import Derived.Deep.RegionHeld3
set_option linter.all false
namespace Go.Proofs.Ytaaoegfdhpploaa
open Go.RowKit

theorem wpAnyH_skip {P : Program} {md : Region.Mode} {ops : Array Oper} {Q : Exit → Act → World → Prop} {S : World → Prop} {i : Nat} {oi : Oper} {fuel : Nat} {listed : Array Bool} {a : Act} {w : World} (hi : ops[i]? = some oi)
    (hs : Region.noSelect ops = true) (hf : Region.free md ops listed i = true) (hr : (Region.ready md ops listed).contains i = true)
    (hQ : ∀ c a w, Q (.panic c) (a.put oi.dst undef) w → Q (.panic c) a w) (hw : Region.wanted oi (yielded ops a.tmps) = false) (hp : a.put oi.dst undef = a) (hS : S w)
    (h : wpAnyH P md ops Q S fuel (listed.setIfInBounds i true) a w) : wpAnyH P md ops Q S (fuel + 1) listed a w :=
  wpAnyH_take hi hs hf hr hQ (Or.inr ⟨hw, rfl⟩) hS (by rw [hp]; exact h)

theorem Src.tailI {w : World} {ao : Option Addr} {n cap m : Nat} {F : List Int} (h : Src w (.slice ao n cap) n 1 (vI F)) (hm : m ≤ n) : Src w (.slice (ao.map (fun x => x.add m)) (n - m) (cap - m)) (n - m) 1 (vI (F.drop m)) := by
  obtain ⟨ao', c', he, hc, hl, h3⟩ := h
  simp only [Value.slice.injEq, true_and] at he
  obtain ⟨rfl, rfl⟩ := he
  refine ⟨_, _, rfl, fun h => ?_, by simp [vI] at hl ⊢; omega, fun j u hj => ?_⟩
  · have : ao = none := by simpa using h
    rw [hc this]; omega
  · obtain ⟨ad, e, h4⟩ := h3 (m + j) u (by simpa [vI] using hj)
    subst e
    exact ⟨_, rfl, by rw [Deep.add_add]; exact h4⟩
set_option maxRecDepth 100000 in
set_option maxHeartbeats 8000000 in
theorem walkNotifyEach (w : World) (v : Value) (rows : List (List Value)) (hs : Src w v rows.length 1 rows.flatten) (hr : ∀ x ∈ rows, FlatOk [.int .i64] x) (hm : rows.length ≤ maxLen) (who : Int) (hwho : (Lit.int .i64 who).wf = true) :
    Calls Try.prog 7 #[v, .int .i64 who] w fun e w' => e = .returned (.bool true) ∧ Below w.heap.size w w' := by
  obtain ⟨L, hfl, hll, -⟩ := ints_of_rows hr
  rw [hfl] at hs
  obtain ⟨len, hlen⟩ : ∃ len, len = rows.length := ⟨_, rfl⟩
  rw [← hlen] at hs hm hll
  clear hr hfl hlen
  have Hs := Lib.hid hs
  obtain ⟨-, ao, c, rfl, hcells⟩ := Src.nums hs
  have Hll := Lib.hid hll
  have hlenm : len ≤ 9223372036854775807 := by have : maxLen = 9223372036854775807 := rfl; omega
  clear hs hll hcells hm
  obtain ⟨l9, hl9, a0, a1⟩ := and_small who 16 (by decide)
  simp only [Int.reducePow, Int.reduceSub] at hl9 a1
  obtain ⟨l9, rfl⟩ := Int.eq_ofNat_of_zero_le a0
  clear hwho a0 a1
  go_enter Try.func7, Try.ntmps7
  go_wp2_with fail
  refine (new_any w).mono ?_
  rintro e w1 ⟨rfl, hN, hk1⟩
  obtain ⟨b, hb⟩ : ∃ b, b = w.heap.size := ⟨_, rfl⟩
  have hN1 : Nt (fun k => w.heap.size ≤ k) w1 b 0 false [] := by rw [hb]; exact hN
  rw [← hb]
  clear hb hN
  go_wp2_with fail
  go_loopw [6] (fun i wr => ∃ k : Nat, k ≤ 20 ∧ k ≤ len ∧ i = .int .i64 k ∧ New w wr ∧ Nt (fun k => w.heap.size ≤ k) wr b 0 false (linesE (L.take k))) (fun i _ => 20 - (intOf i).toNat)
  case atStart => exact ⟨0, by omega, by omega, rfl, hk1, hN1⟩
  case round =>
    clear hN1 hk1
    obtain ⟨k, hk6, hk, rfl, hkr, hN⟩ := hrel
    by_cases h1 : k < len ∧ k < 20
    · obtain ⟨h1, h2⟩ := h1
      have h2' : (k : Int) < 20 := by omega
      obtain ⟨x, hx⟩ : ∃ x, L[k]? = some x := ⟨_, List.getElem?_eq_getElem (by have := Hll.out; omega)⟩
      obtain ⟨ao', c', he, hcl⟩ := (Src.nums (Hs.out.same hkr)).2
      cases he
      obtain ⟨B, Of, rfl, c0⟩ := hcl k x hx
      have hln := linesE_length k L
      have Hx := Lib.hid hx
      clear hcl hx
      go_wp2_with fail
      refine (wait_in b 0 (linesE (L.take k)) x wr hN (by omega)).mono ?_
      rintro e w3 ⟨y, rfl, hN3, hk3⟩
      have hN3' := hN3.mono (O' := fun k => w.heap.size ≤ k) (fun k h => by have := hkr.size; omega)
      have hkr3 := hkr.new hk3 (fun i hi => hi)
      rw [← linesE_take Hx.out] at hN3'
      have c0' := cell_kept hkr3 (show w.cell? ⟨B, Of + k, none⟩ = some (.int .i64 x) from by
        obtain ⟨ao9, c9, he9, hcl9⟩ := (Src.nums Hs.out).2
        cases he9
        obtain ⟨B9, Of9, he8, c8⟩ := hcl9 k x Hx.out
        cases he8
        exact c8) (fun h => h)
      clear hN3 hk3 c0
      clear c0'
      go_wp2_with fail
      go_roundw
      case rel => exact ⟨k + 1, by omega, by omega, by go_num, hkr3, hN3'⟩
      case measure => simp [intOf]; omega
    · obtain ⟨F, hF⟩ : ∃ F, F = linesE (L.take k) := ⟨_, rfl⟩
      have hF20 : F.length ≤ 20 := by have := linesE_length k L; rw [hF]; omega
      have hF8 : F.length ≤ 1000 := by omega
      rw [← hF] at hN
      clear hF
      obtain ⟨mF, hmF⟩ : ∃ mF, mF = F.length := ⟨_, rfl⟩
      have HmF := Lib.hid hmF
      have hmF20 : mF ≤ 20 := by omega
      clear hmF
      obtain ⟨m1, hm1⟩ : ∃ m1, m1 = mF + 1 := ⟨_, rfl⟩
      obtain ⟨m, hmm⟩ : ∃ m, m = l9 % m1 := ⟨_, rfl⟩
      have hmF1 : m ≤ mF := by have : m < m1 := by rw [hmm]; exact Nat.mod_lt _ (by omega)
                               omega
      have hw2 : IntKind.i64.wrap ((mF : Int) + 1) = (m1 : Int) := by rw [IntKind.wrap_i64]; omega
      have hrem : Int.tmod (l9 : Int) (m1 : Int) = (m : Int) := by rw [hmm]; rfl
      have hw3 : IntKind.i64.wrap (m : Int) = (m : Int) := by rw [IntKind.wrap_i64]; omega
      have hnz : ¬ (m1 : Int) = 0 := by omega
      have hnz2 : ¬ m1 = 0 := by omega
      have q4 : (m : Int) ≤ mF := by omega
      clear hmm hm1
      by_cases h3 : k < len
      · have h2' : ¬ ((k : Int) < 20) := by omega
        go_wp2_with fail
        refine (waits_any b 0 false F _ hN hF8).mono ?_
        rintro e w4 ⟨v4, rfl, hown, hkx⟩
        obtain ⟨ao4, c4, hv4, -⟩ := Src.of_own hown
        have hS := Sep.fresh (N := LQ v4 F) (NP.ok b 0 false F) (show NP b 0 false F (fun k => w.heap.size ≤ k) _ from hN) (LQ.fresh hown) hkx (fun k hk => Nat.le_trans hkr.size hk)
        have hkw := hkr.trans hkx
        rw [← HmF.out] at hv4
        subst hv4
        clear hown hkx hN hkr
        go_wp2_with fail
        go_loopw [9] (fun i wi => ∃ j : Nat, j ≤ m ∧ i = .int .i64 j ∧ Sep (NP b 0 false (F.drop j)) (LQ (.slice ao4 mF c4) F) (fun k => w.heap.size ≤ k) wi ∧ New w wi) (fun i _ => m - (intOf i).toNat)
        case atStart => exact ⟨0, by omega, rfl, hS.swap, hkw⟩
        case round =>
          clear hS hkw
          obtain ⟨j, hj, rfl, hS, hkw⟩ := hrel
          by_cases hjm : j < m
          · obtain ⟨y, hy⟩ : ∃ y, F[j]? = some y := ⟨_, List.getElem?_eq_getElem (by rw [← HmF.out]; omega)⟩
            have Hy := Lib.hid hy
            clear hy
            rw [drop_cons Hy.out] at hS
            obtain ⟨O1, O2, g1, g2, g3, g4⟩ := hS
            have G3 := Lib.hid g3
            have G4 := Lib.hid g4
            have hl8 : (F.drop (j + 1)).length ≤ 1000 := by rw [List.length_drop]; omega
            clear g3 g4
            go_wp2_with fail
            refine (signal_who b 0 false y (F.drop (j + 1)) 1 _ g1 hl8).mono ?_
            rintro e w5 ⟨rfl, hA, hkx⟩
            obtain ⟨hS5, hkst⟩ := Sep.step (P' := NP b 0 false (F.drop (j + 1))) (LQ.ok _ F) g2 G3.out G4.out (Nt.mono hA (fun _ h => .inl h)) hkx (fun k hk => Nat.le_trans hkw.size hk)
            have hkw5 := hkw.new hkst (fun i hi => hi)
            obtain ⟨_, hl5⟩ := Sep.any hS5
            obtain ⟨g5, e5, d5⟩ := LQ.at hl5 HmF.out Hy.out
            subst e5
            clear g1 g2 G3 G4 hA hkx hkst hl5 hkw hl8
            go_wp2_with fail
            go_roundw
            case rel => exact ⟨j + 1, by omega, by go_num, hS5, hkw5⟩
            case measure => simp [intOf]; omega
          · obtain rfl : j = m := by omega
            obtain ⟨rest, hrest⟩ : ∃ rest, rest = F.drop j := ⟨_, rfl⟩
            have hrl : rest.length = mF - j := by rw [hrest, List.length_drop, ← HmF.out]
            rw [← hrest] at hS
            obtain ⟨rl, hrl2⟩ : ∃ rl, rl = mF - j := ⟨_, rfl⟩
            rw [← hrl2] at hrl
            have hrl8 : rest.length ≤ 1000 := by omega
            have Hrest := Lib.hid hrest
            have Hrl := Lib.hid hrl
            have hrl9 : mF - j = rl := hrl2.symm
            obtain ⟨_, hn⟩ := Sep.one hS
            clear hrest hrl hrl2
            go_wp2_with fail
            refine (word_any b 0 false rest _ hn).mono ?_
            rintro e w5 ⟨rfl, hkx⟩
            have hS5 := (Sep.ok (NP.ok b 0 false rest) (LQ.ok (.slice ao4 mF c4) F)).kept hS hkx (fun _ _ h => h)
            have hkw5 := hkw.trans hkx
            clear hn hS hkx hkw
            obtain ⟨_, hn⟩ := Sep.one hS5
            by_cases hm9 : (-9 : Int) ∈ rest
            · have Hm9 := Lib.hid hm9
              clear hm9
              go_wp2_with fail
              refine (wait_out b 0 rest (-9) 120 _ hn hrl8 (by rw [if_pos Hm9.out])).mono ?_
              rintro e w6 ⟨rfl, rfl⟩
              obtain ⟨W0, hW0⟩ : ∃ W0, W0 = w5 := ⟨_, rfl⟩
              rw [← hW0] at hS5 hkw5 hn ⊢
              clear hW0
              have hdr : New W0 W0.drew := (Kept.refl _ _).drew
              have hnd := Nt.same hn hdr
              have hwts := waits_any b 0 false rest W0.drew hnd hrl8
              have Hwts := Lib.hid hwts
              obtain ⟨_, hl5⟩ := Sep.any hS5
              have hl5' := hl5.1
              rw [← HmF.out] at hl5'
              have hcap := own_cap hl5' rfl
              have hcapz : (mF : Int) ≤ c4 := by omega
              have hsrc := (Src.of_own hl5').same hdr
              have hdk := hkw5.trans hdr
              by_cases hc4 : c4 = j
              · subst hc4
                have hrl0 : rl = 0 := by omega
                have hr0 : rest = [] := List.eq_nil_of_length_eq_zero (by rw [Hrl.out]; exact hrl0)
                have hst : ∀ (va : Value) (w7 : World), Src w7 va rl 1 (vI rest) → New W0.drew w7 → Calls Try.prog 16 #[va, .slice ao4 rl 0] w7 fun e w' => e = .returned (.bool true) ∧ ∃ q, w' = w7.drewN q := by
                  intro va w7 h1 h2
                  refine nums_any va _ rl rest w7 h1 ?_ (by omega)
                  rw [hrl0, hr0]
                  exact ⟨_, _, rfl, fun _ => rfl, rfl, fun j u hj => by simp at hj⟩
                have Hst := Lib.hid hst
                clear hst hrl0 hr0 hwts hnd hn hS5 hl5 hl5' hsrc hkw5
                go_wp2_with fail
                (go_region_held3 (fun _ => True) (trivial)
                  (first
                  | (go_at_call 14; refine Hwts.out.mono ?_; rintro e w7 ⟨v7, rfl, hown7, hk7⟩; obtain ⟨ao7, c7, hv7, _⟩ := Src.of_own hown7; have hs7 := Src.of_own hown7; rw [Hrl.out] at hv7 hs7; rw [hv7] at hs7; rw [hv7])
                  | (go_at_call 16; refine (Hst.out _ _ hs7 hk7).mono ?_; rintro e w8 ⟨rfl, qd, rfl⟩; have hk8 := (hdk.trans hk7).drewN qd)
                  | (go_at_call 13; refine (fixed_any _).mono ?_; rintro e w9 ⟨rfl, hk9⟩)))
                all_goals go_wp2_with fail
                all_goals go_ret
                all_goals exact ⟨rfl, none_below (hk8.trans hk9)⟩
              · have hst : ∀ (va : Value) (w7 : World), Src w7 va rl 1 (vI rest) → New W0.drew w7 → Calls Try.prog 16 #[va, .slice (ao4.map (fun x => x.add j)) rl (c4 - j)] w7 fun e w' => e = .returned (.bool true) ∧ ∃ q, w' = w7.drewN q := by
                  intro va w7 h1 h2
                  refine nums_any va _ rl rest w7 h1 ?_ (by omega)
                  rw [Hrest.out, ← hrl9]
                  exact (Src.tailI hsrc (by omega)).same h2
                have Hst := Lib.hid hst
                clear hst hwts hnd hn hS5 hl5 hl5' hsrc hkw5
                go_wp2_with fail
                (go_region_held3 (fun _ => True) (trivial)
                  (first
                  | (go_at_call 14; refine Hwts.out.mono ?_; rintro e w7 ⟨v7, rfl, hown7, hk7⟩; obtain ⟨ao7, c7, hv7, _⟩ := Src.of_own hown7; have hs7 := Src.of_own hown7; rw [Hrl.out] at hv7 hs7; rw [hv7] at hs7; rw [hv7])
                  | (go_at_call 16; refine (Hst.out _ _ hs7 hk7).mono ?_; rintro e w8 ⟨rfl, qd, rfl⟩; have hk8 := (hdk.trans hk7).drewN qd)
                  | (go_at_call 13; refine (fixed_any _).mono ?_; rintro e w9 ⟨rfl, hk9⟩)))
                all_goals go_wp2_with fail
                all_goals go_ret
                all_goals exact ⟨rfl, none_below (hk8.trans hk9)⟩
            · have Hm9 := Lib.hid hm9
              clear hm9
              go_wp2_with fail
              refine (wait_out b 0 rest (-9) 0 _ hn hrl8 (by rw [if_neg Hm9.out])).mono ?_
              rintro e w6 ⟨rfl, rfl⟩
              obtain ⟨W0, hW0⟩ : ∃ W0, W0 = w5 := ⟨_, rfl⟩
              rw [← hW0] at hS5 hkw5 hn ⊢
              clear hW0
              have hdr : New W0 W0.drew := (Kept.refl _ _).drew
              have hnd := Nt.same hn hdr
              have hwts := waits_any b 0 false rest W0.drew hnd hrl8
              have Hwts := Lib.hid hwts
              obtain ⟨_, hl5⟩ := Sep.any hS5
              have hl5' := hl5.1
              rw [← HmF.out] at hl5'
              have hcap := own_cap hl5' rfl
              have hcapz : (mF : Int) ≤ c4 := by omega
              have hsrc := (Src.of_own hl5').same hdr
              have hdk := hkw5.trans hdr
              by_cases hc4 : c4 = j
              · subst hc4
                have hrl0 : rl = 0 := by omega
                have hr0 : rest = [] := List.eq_nil_of_length_eq_zero (by rw [Hrl.out]; exact hrl0)
                have hst : ∀ (va : Value) (w7 : World), Src w7 va rl 1 (vI rest) → New W0.drew w7 → Calls Try.prog 16 #[va, .slice ao4 rl 0] w7 fun e w' => e = .returned (.bool true) ∧ ∃ q, w' = w7.drewN q := by
                  intro va w7 h1 h2
                  refine nums_any va _ rl rest w7 h1 ?_ (by omega)
                  rw [hrl0, hr0]
                  exact ⟨_, _, rfl, fun _ => rfl, rfl, fun j u hj => by simp at hj⟩
                have Hst := Lib.hid hst
                clear hst hrl0 hr0 hwts hnd hn hS5 hl5 hl5' hsrc hkw5
                go_wp2_with fail
                refine wp_region_held_drew (S := fun _ => True) (by kernel_rfl) trivial (fun hHeld => ?_)
                clear hHeld
                refine wpAnyH_take (i := 0) (v := .bool false) rfl (by kernel_rfl) (by kernel_rfl) (by kernel_rfl) (fun _ _ _ h => h) (Or.inl ⟨by rfl, ?_⟩) trivial ?_
                · intro W hSW; clear hSW; go_simp
                try simp only [Act.put, List.getElem_toArray, List.getElem_cons_zero, List.getElem_cons_succ, List.setIfInBounds_toArray, List.set_cons_zero, List.set_cons_succ]
                refine wpAnyH_take (i := 1) (v := .bool true) rfl (by kernel_rfl) (by kernel_rfl) (by kernel_rfl) (fun _ _ _ h => h) (Or.inl ⟨by rfl, ?_⟩) trivial ?_
                · intro W hSW; clear hSW; go_simp
                try simp only [Act.put, List.getElem_toArray, List.getElem_cons_zero, List.getElem_cons_succ, List.setIfInBounds_toArray, List.set_cons_zero, List.set_cons_succ]
                refine wpAnyH_take (i := 2) (v := .bool true) rfl (by kernel_rfl) (by kernel_rfl) (by kernel_rfl) (fun _ _ _ h => h) (Or.inl ⟨by rfl, ?_⟩) trivial ?_
                · intro W hSW; clear hSW; go_simp
                try simp only [Act.put, List.getElem_toArray, List.getElem_cons_zero, List.getElem_cons_succ, List.setIfInBounds_toArray, List.set_cons_zero, List.set_cons_succ]
                refine wpAnyH_take (i := 3) (v := .int .i64 0) rfl (by kernel_rfl) (by kernel_rfl) (by kernel_rfl) (fun _ _ _ h => h) (Or.inl ⟨by rfl, ?_⟩) trivial ?_
                · intro W hSW; clear hSW; go_simp
                try simp only [Act.put, List.getElem_toArray, List.getElem_cons_zero, List.getElem_cons_succ, List.setIfInBounds_toArray, List.set_cons_zero, List.set_cons_succ]
                refine wpAnyH_take (i := 4) (v := .bool true) rfl (by kernel_rfl) (by kernel_rfl) (by kernel_rfl) (fun _ _ _ h => h) (Or.inl ⟨by rfl, ?_⟩) trivial ?_
                · intro W hSW; clear hSW; go_simp
                try simp only [Act.put, List.getElem_toArray, List.getElem_cons_zero, List.getElem_cons_succ, List.setIfInBounds_toArray, List.set_cons_zero, List.set_cons_succ]
                refine wpAnyH_take (i := 5) (v := .bool true) rfl (by kernel_rfl) (by kernel_rfl) (by kernel_rfl) (fun _ _ _ h => h) (Or.inl ⟨by rfl, ?_⟩) trivial ?_
                · intro W hSW; clear hSW; go_simp
                try simp only [Act.put, List.getElem_toArray, List.getElem_cons_zero, List.getElem_cons_succ, List.setIfInBounds_toArray, List.set_cons_zero, List.set_cons_succ]
                refine wpAnyH_skip (i := 6) rfl (by kernel_rfl) (by kernel_rfl) (by kernel_rfl) (fun _ _ _ h => h) (by kernel_rfl) (by kernel_rfl) trivial ?_
                refine wpAnyH_skip (i := 7) rfl (by kernel_rfl) (by kernel_rfl) (by kernel_rfl) (fun _ _ _ h => h) (by kernel_rfl) (by kernel_rfl) trivial ?_
                refine wpAnyH_take (i := 8) (v := .bool true) rfl (by kernel_rfl) (by kernel_rfl) (by kernel_rfl) (fun _ _ _ h => h) (Or.inl ⟨by rfl, ?_⟩) trivial ?_
                · intro W hSW; clear hSW; go_simp
                try simp only [Act.put, List.getElem_toArray, List.getElem_cons_zero, List.getElem_cons_succ, List.setIfInBounds_toArray, List.set_cons_zero, List.set_cons_succ]
                refine wpAnyH_take (i := 9) (v := .bool true) rfl (by kernel_rfl) (by kernel_rfl) (by kernel_rfl) (fun _ _ _ h => h) (Or.inl ⟨by rfl, ?_⟩) trivial ?_
                · intro W hSW; clear hSW; go_simp
                try simp only [Act.put, List.getElem_toArray, List.getElem_cons_zero, List.getElem_cons_succ, List.setIfInBounds_toArray, List.set_cons_zero, List.set_cons_succ]
                refine wpAnyH_take (i := 10) (v := .bool true) rfl (by kernel_rfl) (by kernel_rfl) (by kernel_rfl) (fun _ _ _ h => h) (Or.inl ⟨by rfl, ?_⟩) trivial ?_
                · intro W hSW; clear hSW; go_simp
                try simp only [Act.put, List.getElem_toArray, List.getElem_cons_zero, List.getElem_cons_succ, List.setIfInBounds_toArray, List.set_cons_zero, List.set_cons_succ]
                refine wpAnyH_take (i := 11) (v := .pointer (some ⟨b, 0, none⟩)) rfl (by kernel_rfl) (by kernel_rfl) (by kernel_rfl) (fun _ _ _ h => h) (Or.inl ⟨by rfl, ?_⟩) trivial ?_
                · intro W hSW; clear hSW; go_simp
                try simp only [Act.put, List.getElem_toArray, List.getElem_cons_zero, List.getElem_cons_succ, List.setIfInBounds_toArray, List.set_cons_zero, List.set_cons_succ]
                refine wpAnyH_take (i := 13) (v := .slice ao4 mF c4) rfl (by kernel_rfl) (by kernel_rfl) (by kernel_rfl) (fun _ _ _ h => h) (Or.inl ⟨by rfl, ?_⟩) trivial ?_
                · intro W hSW; clear hSW; go_simp
                try simp only [Act.put, List.getElem_toArray, List.getElem_cons_zero, List.getElem_cons_succ, List.setIfInBounds_toArray, List.set_cons_zero, List.set_cons_succ]
                refine wpAnyH_take (i := 14) (v := .int .i64 c4) rfl (by kernel_rfl) (by kernel_rfl) (by kernel_rfl) (fun _ _ _ h => h) (Or.inl ⟨by rfl, ?_⟩) trivial ?_
                · intro W hSW; clear hSW; go_simp
                try simp only [Act.put, List.getElem_toArray, List.getElem_cons_zero, List.getElem_cons_succ, List.setIfInBounds_toArray, List.set_cons_zero, List.set_cons_succ]
                refine wpAnyH_take (i := 15) (v := .slice ao4 rl 0) rfl (by kernel_rfl) (by kernel_rfl) (by kernel_rfl) (fun _ _ _ h => h) (Or.inl ⟨by rfl, ?_⟩) trivial ?_
                · intro W hSW; clear hSW; go_simp
                try simp only [Act.put, List.getElem_toArray, List.getElem_cons_zero, List.getElem_cons_succ, List.setIfInBounds_toArray, List.set_cons_zero, List.set_cons_succ]
                refine wpAnyH_ready (rs := [12]) (by kernel_rfl) (by simp) ?_
                refine AllReadyH.cons rfl (fun K hK => ?_) AllReadyH.nil
                go_simp
                refine Hwts.out.mono ?_
                rintro e w7 ⟨v7, rfl, hown7, hk7⟩
                obtain ⟨ao7, c7, hv7, _⟩ := Src.of_own hown7
                have hs7 := Src.of_own hown7
                rw [Hrl.out] at hv7 hs7
                rw [hv7] at hs7
                rw [hv7]
                refine hK.out _ _ trivial (fun hHeld => ?_)
                clear hK K hHeld
                try simp only [Act.put, List.getElem_toArray, List.getElem_cons_zero, List.getElem_cons_succ, List.setIfInBounds_toArray, List.set_cons_zero, List.set_cons_succ]
                refine wpAnyH_ready (rs := [16]) (by kernel_rfl) (by simp) ?_
                refine AllReadyH.cons rfl (fun K hK => ?_) AllReadyH.nil
                go_simp
                refine (Hst.out _ _ hs7 hk7).mono ?_
                rintro e w8 ⟨rfl, qd, rfl⟩
                have hk8 := (hdk.trans hk7).drewN qd
                refine hK.out _ _ trivial (fun hHeld => ?_)
                clear hK K hHeld
                try simp only [Act.put, List.getElem_toArray, List.getElem_cons_zero, List.getElem_cons_succ, List.setIfInBounds_toArray, List.set_cons_zero, List.set_cons_succ]
                refine wpAnyH_take (i := 17) (v := .bool true) rfl (by kernel_rfl) (by kernel_rfl) (by kernel_rfl) (fun _ _ _ h => h) (Or.inl ⟨by rfl, ?_⟩) trivial ?_
                · intro W hSW; clear hSW; go_simp
                try simp only [Act.put, List.getElem_toArray, List.getElem_cons_zero, List.getElem_cons_succ, List.setIfInBounds_toArray, List.set_cons_zero, List.set_cons_succ]
                refine wpAnyH_take (i := 18) (v := .bool true) rfl (by kernel_rfl) (by kernel_rfl) (by kernel_rfl) (fun _ _ _ h => h) (Or.inl ⟨by rfl, ?_⟩) trivial ?_
                · intro W hSW; clear hSW; go_simp
                try simp only [Act.put, List.getElem_toArray, List.getElem_cons_zero, List.getElem_cons_succ, List.setIfInBounds_toArray, List.set_cons_zero, List.set_cons_succ]
                refine wpAnyH_ready (rs := [19]) (by kernel_rfl) (by simp) ?_
                refine AllReadyH.cons rfl (fun K hK => ?_) AllReadyH.nil
                go_simp
                refine (fixed_any _).mono ?_
                rintro e w9 ⟨rfl, hk9⟩
                refine hK.out _ _ trivial (fun hHeld => ?_)
                clear hK K hHeld
                try simp only [Act.put, List.getElem_toArray, List.getElem_cons_zero, List.getElem_cons_succ, List.setIfInBounds_toArray, List.set_cons_zero, List.set_cons_succ]
                refine wpAnyH_take (i := 20) (v := .bool true) rfl (by kernel_rfl) (by kernel_rfl) (by kernel_rfl) (fun _ _ _ h => h) (Or.inl ⟨by rfl, ?_⟩) trivial ?_
                · intro W hSW; clear hSW; go_simp
                try simp only [Act.put, List.getElem_toArray, List.getElem_cons_zero, List.getElem_cons_succ, List.setIfInBounds_toArray, List.set_cons_zero, List.set_cons_succ]
                refine wpAnyH_take (i := 21) (v := .bool true) rfl (by kernel_rfl) (by kernel_rfl) (by kernel_rfl) (fun _ _ _ h => h) (Or.inl ⟨by rfl, ?_⟩) trivial ?_
                · intro W hSW; clear hSW; go_simp
                try simp only [Act.put, List.getElem_toArray, List.getElem_cons_zero, List.getElem_cons_succ, List.setIfInBounds_toArray, List.set_cons_zero, List.set_cons_succ]
                refine wpAnyH_done (by kernel_rfl) ?_ _
                go_wp2_with fail
                go_ret
                exact ⟨rfl, none_below (hk8.trans hk9)⟩
              · have hst : ∀ (va : Value) (w7 : World), Src w7 va rl 1 (vI rest) → New W0.drew w7 → Calls Try.prog 16 #[va, .slice (ao4.map (fun x => x.add j)) rl (c4 - j)] w7 fun e w' => e = .returned (.bool true) ∧ ∃ q, w' = w7.drewN q := by
                  intro va w7 h1 h2
                  refine nums_any va _ rl rest w7 h1 ?_ (by omega)
                  rw [Hrest.out, ← hrl9]
                  exact (Src.tailI hsrc (by omega)).same h2
                have Hst := Lib.hid hst
                clear hst hwts hnd hn hS5 hl5 hl5' hsrc hkw5
                go_wp2_with fail
                refine wp_region_held_drew (S := fun _ => True) (by kernel_rfl) trivial (fun hHeld => ?_)
                clear hHeld
                refine wpAnyH_take (i := 0) (v := .bool false) rfl (by kernel_rfl) (by kernel_rfl) (by kernel_rfl) (fun _ _ _ h => h) (Or.inl ⟨by rfl, ?_⟩) trivial ?_
                · intro W hSW; clear hSW; go_simp
                try simp only [Act.put, List.getElem_toArray, List.getElem_cons_zero, List.getElem_cons_succ, List.setIfInBounds_toArray, List.set_cons_zero, List.set_cons_succ]
                refine wpAnyH_take (i := 1) (v := .bool true) rfl (by kernel_rfl) (by kernel_rfl) (by kernel_rfl) (fun _ _ _ h => h) (Or.inl ⟨by rfl, ?_⟩) trivial ?_
                · intro W hSW; clear hSW; go_simp
                try simp only [Act.put, List.getElem_toArray, List.getElem_cons_zero, List.getElem_cons_succ, List.setIfInBounds_toArray, List.set_cons_zero, List.set_cons_succ]
                refine wpAnyH_take (i := 2) (v := .bool true) rfl (by kernel_rfl) (by kernel_rfl) (by kernel_rfl) (fun _ _ _ h => h) (Or.inl ⟨by rfl, ?_⟩) trivial ?_
                · intro W hSW; clear hSW; go_simp
                try simp only [Act.put, List.getElem_toArray, List.getElem_cons_zero, List.getElem_cons_succ, List.setIfInBounds_toArray, List.set_cons_zero, List.set_cons_succ]
                refine wpAnyH_take (i := 3) (v := .int .i64 0) rfl (by kernel_rfl) (by kernel_rfl) (by kernel_rfl) (fun _ _ _ h => h) (Or.inl ⟨by rfl, ?_⟩) trivial ?_
                · intro W hSW; clear hSW; go_simp
                try simp only [Act.put, List.getElem_toArray, List.getElem_cons_zero, List.getElem_cons_succ, List.setIfInBounds_toArray, List.set_cons_zero, List.set_cons_succ]
                refine wpAnyH_take (i := 4) (v := .bool true) rfl (by kernel_rfl) (by kernel_rfl) (by kernel_rfl) (fun _ _ _ h => h) (Or.inl ⟨by rfl, ?_⟩) trivial ?_
                · intro W hSW; clear hSW; go_simp
                try simp only [Act.put, List.getElem_toArray, List.getElem_cons_zero, List.getElem_cons_succ, List.setIfInBounds_toArray, List.set_cons_zero, List.set_cons_succ]
                refine wpAnyH_take (i := 5) (v := .bool true) rfl (by kernel_rfl) (by kernel_rfl) (by kernel_rfl) (fun _ _ _ h => h) (Or.inl ⟨by rfl, ?_⟩) trivial ?_
                · intro W hSW; clear hSW; go_simp
                try simp only [Act.put, List.getElem_toArray, List.getElem_cons_zero, List.getElem_cons_succ, List.setIfInBounds_toArray, List.set_cons_zero, List.set_cons_succ]
                refine wpAnyH_skip (i := 6) rfl (by kernel_rfl) (by kernel_rfl) (by kernel_rfl) (fun _ _ _ h => h) (by kernel_rfl) (by kernel_rfl) trivial ?_
                refine wpAnyH_skip (i := 7) rfl (by kernel_rfl) (by kernel_rfl) (by kernel_rfl) (fun _ _ _ h => h) (by kernel_rfl) (by kernel_rfl) trivial ?_
                refine wpAnyH_take (i := 8) (v := .bool true) rfl (by kernel_rfl) (by kernel_rfl) (by kernel_rfl) (fun _ _ _ h => h) (Or.inl ⟨by rfl, ?_⟩) trivial ?_
                · intro W hSW; clear hSW; go_simp
                try simp only [Act.put, List.getElem_toArray, List.getElem_cons_zero, List.getElem_cons_succ, List.setIfInBounds_toArray, List.set_cons_zero, List.set_cons_succ]
                refine wpAnyH_take (i := 9) (v := .bool true) rfl (by kernel_rfl) (by kernel_rfl) (by kernel_rfl) (fun _ _ _ h => h) (Or.inl ⟨by rfl, ?_⟩) trivial ?_
                · intro W hSW; clear hSW; go_simp
                try simp only [Act.put, List.getElem_toArray, List.getElem_cons_zero, List.getElem_cons_succ, List.setIfInBounds_toArray, List.set_cons_zero, List.set_cons_succ]
                refine wpAnyH_take (i := 10) (v := .bool true) rfl (by kernel_rfl) (by kernel_rfl) (by kernel_rfl) (fun _ _ _ h => h) (Or.inl ⟨by rfl, ?_⟩) trivial ?_
                · intro W hSW; clear hSW; go_simp
                try simp only [Act.put, List.getElem_toArray, List.getElem_cons_zero, List.getElem_cons_succ, List.setIfInBounds_toArray, List.set_cons_zero, List.set_cons_succ]
                refine wpAnyH_take (i := 11) (v := .pointer (some ⟨b, 0, none⟩)) rfl (by kernel_rfl) (by kernel_rfl) (by kernel_rfl) (fun _ _ _ h => h) (Or.inl ⟨by rfl, ?_⟩) trivial ?_
                · intro W hSW; clear hSW; go_simp
                try simp only [Act.put, List.getElem_toArray, List.getElem_cons_zero, List.getElem_cons_succ, List.setIfInBounds_toArray, List.set_cons_zero, List.set_cons_succ]
                refine wpAnyH_take (i := 13) (v := .slice ao4 mF c4) rfl (by kernel_rfl) (by kernel_rfl) (by kernel_rfl) (fun _ _ _ h => h) (Or.inl ⟨by rfl, ?_⟩) trivial ?_
                · intro W hSW; clear hSW; go_simp
                try simp only [Act.put, List.getElem_toArray, List.getElem_cons_zero, List.getElem_cons_succ, List.setIfInBounds_toArray, List.set_cons_zero, List.set_cons_succ]
                refine wpAnyH_take (i := 14) (v := .int .i64 j) rfl (by kernel_rfl) (by kernel_rfl) (by kernel_rfl) (fun _ _ _ h => h) (Or.inl ⟨by rfl, ?_⟩) trivial ?_
                · intro W hSW; clear hSW; go_simp
                try simp only [Act.put, List.getElem_toArray, List.getElem_cons_zero, List.getElem_cons_succ, List.setIfInBounds_toArray, List.set_cons_zero, List.set_cons_succ]
                refine wpAnyH_take (i := 15) (v := .slice (ao4.map (fun x => x.add j)) rl (c4 - j)) rfl (by kernel_rfl) (by kernel_rfl) (by kernel_rfl) (fun _ _ _ h => h) (Or.inl ⟨by rfl, ?_⟩) trivial ?_
                · intro W hSW; clear hSW; go_simp
                try simp only [Act.put, List.getElem_toArray, List.getElem_cons_zero, List.getElem_cons_succ, List.setIfInBounds_toArray, List.set_cons_zero, List.set_cons_succ]
                refine wpAnyH_ready (rs := [12]) (by kernel_rfl) (by simp) ?_
                refine AllReadyH.cons rfl (fun K hK => ?_) AllReadyH.nil
                go_simp
                refine Hwts.out.mono ?_
                rintro e w7 ⟨v7, rfl, hown7, hk7⟩
                obtain ⟨ao7, c7, hv7, _⟩ := Src.of_own hown7
                have hs7 := Src.of_own hown7
                rw [Hrl.out] at hv7 hs7
                rw [hv7] at hs7
                rw [hv7]
                refine hK.out _ _ trivial (fun hHeld => ?_)
                clear hK K hHeld
                try simp only [Act.put, List.getElem_toArray, List.getElem_cons_zero, List.getElem_cons_succ, List.setIfInBounds_toArray, List.set_cons_zero, List.set_cons_succ]
                refine wpAnyH_ready (rs := [16]) (by kernel_rfl) (by simp) ?_
                refine AllReadyH.cons rfl (fun K hK => ?_) AllReadyH.nil
                go_simp
                refine (Hst.out _ _ hs7 hk7).mono ?_
                rintro e w8 ⟨rfl, qd, rfl⟩
                have hk8 := (hdk.trans hk7).drewN qd
                refine hK.out _ _ trivial (fun hHeld => ?_)
                clear hK K hHeld
                try simp only [Act.put, List.getElem_toArray, List.getElem_cons_zero, List.getElem_cons_succ, List.setIfInBounds_toArray, List.set_cons_zero, List.set_cons_succ]
                refine wpAnyH_take (i := 17) (v := .bool true) rfl (by kernel_rfl) (by kernel_rfl) (by kernel_rfl) (fun _ _ _ h => h) (Or.inl ⟨by rfl, ?_⟩) trivial ?_
                · intro W hSW; clear hSW; go_simp
                try simp only [Act.put, List.getElem_toArray, List.getElem_cons_zero, List.getElem_cons_succ, List.setIfInBounds_toArray, List.set_cons_zero, List.set_cons_succ]
                refine wpAnyH_take (i := 18) (v := .bool true) rfl (by kernel_rfl) (by kernel_rfl) (by kernel_rfl) (fun _ _ _ h => h) (Or.inl ⟨by rfl, ?_⟩) trivial ?_
                · intro W hSW; clear hSW; go_simp
                try simp only [Act.put, List.getElem_toArray, List.getElem_cons_zero, List.getElem_cons_succ, List.setIfInBounds_toArray, List.set_cons_zero, List.set_cons_succ]
                refine wpAnyH_ready (rs := [19]) (by kernel_rfl) (by simp) ?_
                refine AllReadyH.cons rfl (fun K hK => ?_) AllReadyH.nil
                go_simp
                refine (fixed_any _).mono ?_
                rintro e w9 ⟨rfl, hk9⟩
                refine hK.out _ _ trivial (fun hHeld => ?_)
                clear hK K hHeld
                try simp only [Act.put, List.getElem_toArray, List.getElem_cons_zero, List.getElem_cons_succ, List.setIfInBounds_toArray, List.set_cons_zero, List.set_cons_succ]
                refine wpAnyH_take (i := 20) (v := .bool true) rfl (by kernel_rfl) (by kernel_rfl) (by kernel_rfl) (fun _ _ _ h => h) (Or.inl ⟨by rfl, ?_⟩) trivial ?_
                · intro W hSW; clear hSW; go_simp
                try simp only [Act.put, List.getElem_toArray, List.getElem_cons_zero, List.getElem_cons_succ, List.setIfInBounds_toArray, List.set_cons_zero, List.set_cons_succ]
                refine wpAnyH_take (i := 21) (v := .bool true) rfl (by kernel_rfl) (by kernel_rfl) (by kernel_rfl) (fun _ _ _ h => h) (Or.inl ⟨by rfl, ?_⟩) trivial ?_
                · intro W hSW; clear hSW; go_simp
                try simp only [Act.put, List.getElem_toArray, List.getElem_cons_zero, List.getElem_cons_succ, List.setIfInBounds_toArray, List.set_cons_zero, List.set_cons_succ]
                refine wpAnyH_done (by kernel_rfl) ?_ _
                go_wp2_with fail
                go_ret
                exact ⟨rfl, none_below (hk8.trans hk9)⟩
      · have h3' : ¬ ((k : Int) < len) := by omega
        go_wp2_with fail
        refine (waits_any b 0 false F _ hN hF8).mono ?_
        rintro e w4 ⟨v4, rfl, hown, hkx⟩
        obtain ⟨ao4, c4, hv4, -⟩ := Src.of_own hown
        have hS := Sep.fresh (N := LQ v4 F) (NP.ok b 0 false F) (show NP b 0 false F (fun k => w.heap.size ≤ k) _ from hN) (LQ.fresh hown) hkx (fun k hk => Nat.le_trans hkr.size hk)
        have hkw := hkr.trans hkx
        rw [← HmF.out] at hv4
        subst hv4
        clear hown hkx hN hkr
        go_wp2_with fail
        go_loopw [9] (fun i wi => ∃ j : Nat, j ≤ m ∧ i = .int .i64 j ∧ Sep (NP b 0 false (F.drop j)) (LQ (.slice ao4 mF c4) F) (fun k => w.heap.size ≤ k) wi ∧ New w wi) (fun i _ => m - (intOf i).toNat)
        case atStart => exact ⟨0, by omega, rfl, hS.swap, hkw⟩
        case round =>
          clear hS hkw
          obtain ⟨j, hj, rfl, hS, hkw⟩ := hrel
          by_cases hjm : j < m
          · obtain ⟨y, hy⟩ : ∃ y, F[j]? = some y := ⟨_, List.getElem?_eq_getElem (by rw [← HmF.out]; omega)⟩
            have Hy := Lib.hid hy
            clear hy
            rw [drop_cons Hy.out] at hS
            obtain ⟨O1, O2, g1, g2, g3, g4⟩ := hS
            have G3 := Lib.hid g3
            have G4 := Lib.hid g4
            have hl8 : (F.drop (j + 1)).length ≤ 1000 := by rw [List.length_drop]; omega
            clear g3 g4
            go_wp2_with fail
            refine (signal_who b 0 false y (F.drop (j + 1)) 1 _ g1 hl8).mono ?_
            rintro e w5 ⟨rfl, hA, hkx⟩
            obtain ⟨hS5, hkst⟩ := Sep.step (P' := NP b 0 false (F.drop (j + 1))) (LQ.ok _ F) g2 G3.out G4.out (Nt.mono hA (fun _ h => .inl h)) hkx (fun k hk => Nat.le_trans hkw.size hk)
            have hkw5 := hkw.new hkst (fun i hi => hi)
            obtain ⟨_, hl5⟩ := Sep.any hS5
            obtain ⟨g5, e5, d5⟩ := LQ.at hl5 HmF.out Hy.out
            subst e5
            clear g1 g2 G3 G4 hA hkx hkst hl5 hkw hl8
            go_wp2_with fail
            go_roundw
            case rel => exact ⟨j + 1, by omega, by go_num, hS5, hkw5⟩
            case measure => simp [intOf]; omega
          · obtain rfl : j = m := by omega
            obtain ⟨rest, hrest⟩ : ∃ rest, rest = F.drop j := ⟨_, rfl⟩
            have hrl : rest.length = mF - j := by rw [hrest, List.length_drop, ← HmF.out]
            rw [← hrest] at hS
            obtain ⟨rl, hrl2⟩ : ∃ rl, rl = mF - j := ⟨_, rfl⟩
            rw [← hrl2] at hrl
            have hrl8 : rest.length ≤ 1000 := by omega
            have Hrest := Lib.hid hrest
            have Hrl := Lib.hid hrl
            have hrl9 : mF - j = rl := hrl2.symm
            obtain ⟨_, hn⟩ := Sep.one hS
            clear hrest hrl hrl2
            go_wp2_with fail
            refine (word_any b 0 false rest _ hn).mono ?_
            rintro e w5 ⟨rfl, hkx⟩
            have hS5 := (Sep.ok (NP.ok b 0 false rest) (LQ.ok (.slice ao4 mF c4) F)).kept hS hkx (fun _ _ h => h)
            have hkw5 := hkw.trans hkx
            clear hn hS hkx hkw
            obtain ⟨_, hn⟩ := Sep.one hS5
            by_cases hm9 : (-9 : Int) ∈ rest
            · have Hm9 := Lib.hid hm9
              clear hm9
              go_wp2_with fail
              refine (wait_out b 0 rest (-9) 120 _ hn hrl8 (by rw [if_pos Hm9.out])).mono ?_
              rintro e w6 ⟨rfl, rfl⟩
              obtain ⟨W0, hW0⟩ : ∃ W0, W0 = w5 := ⟨_, rfl⟩
              rw [← hW0] at hS5 hkw5 hn ⊢
              clear hW0
              have hdr : New W0 W0.drew := (Kept.refl _ _).drew
              have hnd := Nt.same hn hdr
              have hwts := waits_any b 0 false rest W0.drew hnd hrl8
              have Hwts := Lib.hid hwts
              obtain ⟨_, hl5⟩ := Sep.any hS5
              have hl5' := hl5.1
              rw [← HmF.out] at hl5'
              have hcap := own_cap hl5' rfl
              have hcapz : (mF : Int) ≤ c4 := by omega
              have hsrc := (Src.of_own hl5').same hdr
              have hdk := hkw5.trans hdr
              by_cases hc4 : c4 = j
              · subst hc4
                have hrl0 : rl = 0 := by omega
                have hr0 : rest = [] := List.eq_nil_of_length_eq_zero (by rw [Hrl.out]; exact hrl0)
                have hst : ∀ (va : Value) (w7 : World), Src w7 va rl 1 (vI rest) → New W0.drew w7 → Calls Try.prog 16 #[va, .slice ao4 rl 0] w7 fun e w' => e = .returned (.bool true) ∧ ∃ q, w' = w7.drewN q := by
                  intro va w7 h1 h2
                  refine nums_any va _ rl rest w7 h1 ?_ (by omega)
                  rw [hrl0, hr0]
                  exact ⟨_, _, rfl, fun _ => rfl, rfl, fun j u hj => by simp at hj⟩
                have Hst := Lib.hid hst
                clear hst hrl0 hr0 hwts hnd hn hS5 hl5 hl5' hsrc hkw5
                go_wp2_with fail
                (go_region_held3 (fun _ => True) (trivial)
                  (first
                  | (go_at_call 14; refine Hwts.out.mono ?_; rintro e w7 ⟨v7, rfl, hown7, hk7⟩; obtain ⟨ao7, c7, hv7, _⟩ := Src.of_own hown7; have hs7 := Src.of_own hown7; rw [Hrl.out] at hv7 hs7; rw [hv7] at hs7; rw [hv7])
                  | (go_at_call 16; refine (Hst.out _ _ hs7 hk7).mono ?_; rintro e w8 ⟨rfl, qd, rfl⟩; have hk8 := (hdk.trans hk7).drewN qd)
                  | (go_at_call 13; refine (fixed_any _).mono ?_; rintro e w9 ⟨rfl, hk9⟩)))
                all_goals go_wp2_with fail
                all_goals go_ret
                all_goals exact ⟨rfl, none_below (hk8.trans hk9)⟩
              · have hst : ∀ (va : Value) (w7 : World), Src w7 va rl 1 (vI rest) → New W0.drew w7 → Calls Try.prog 16 #[va, .slice (ao4.map (fun x => x.add j)) rl (c4 - j)] w7 fun e w' => e = .returned (.bool true) ∧ ∃ q, w' = w7.drewN q := by
                  intro va w7 h1 h2
                  refine nums_any va _ rl rest w7 h1 ?_ (by omega)
                  rw [Hrest.out, ← hrl9]
                  exact (Src.tailI hsrc (by omega)).same h2
                have Hst := Lib.hid hst
                clear hst hwts hnd hn hS5 hl5 hl5' hsrc hkw5
                go_wp2_with fail
                (go_region_held3 (fun _ => True) (trivial)
                  (first
                  | (go_at_call 14; refine Hwts.out.mono ?_; rintro e w7 ⟨v7, rfl, hown7, hk7⟩; obtain ⟨ao7, c7, hv7, _⟩ := Src.of_own hown7; have hs7 := Src.of_own hown7; rw [Hrl.out] at hv7 hs7; rw [hv7] at hs7; rw [hv7])
                  | (go_at_call 16; refine (Hst.out _ _ hs7 hk7).mono ?_; rintro e w8 ⟨rfl, qd, rfl⟩; have hk8 := (hdk.trans hk7).drewN qd)
                  | (go_at_call 13; refine (fixed_any _).mono ?_; rintro e w9 ⟨rfl, hk9⟩)))
                all_goals go_wp2_with fail
                all_goals go_ret
                all_goals exact ⟨rfl, none_below (hk8.trans hk9)⟩
            · have Hm9 := Lib.hid hm9
              clear hm9
              go_wp2_with fail
              refine (wait_out b 0 rest (-9) 0 _ hn hrl8 (by rw [if_neg Hm9.out])).mono ?_
              rintro e w6 ⟨rfl, rfl⟩
              obtain ⟨W0, hW0⟩ : ∃ W0, W0 = w5 := ⟨_, rfl⟩
              rw [← hW0] at hS5 hkw5 hn ⊢
              clear hW0
              have hdr : New W0 W0.drew := (Kept.refl _ _).drew
              have hnd := Nt.same hn hdr
              have hwts := waits_any b 0 false rest W0.drew hnd hrl8
              have Hwts := Lib.hid hwts
              obtain ⟨_, hl5⟩ := Sep.any hS5
              have hl5' := hl5.1
              rw [← HmF.out] at hl5'
              have hcap := own_cap hl5' rfl
              have hcapz : (mF : Int) ≤ c4 := by omega
              have hsrc := (Src.of_own hl5').same hdr
              have hdk := hkw5.trans hdr
              by_cases hc4 : c4 = j
              · subst hc4
                have hrl0 : rl = 0 := by omega
                have hr0 : rest = [] := List.eq_nil_of_length_eq_zero (by rw [Hrl.out]; exact hrl0)
                have hst : ∀ (va : Value) (w7 : World), Src w7 va rl 1 (vI rest) → New W0.drew w7 → Calls Try.prog 16 #[va, .slice ao4 rl 0] w7 fun e w' => e = .returned (.bool true) ∧ ∃ q, w' = w7.drewN q := by
                  intro va w7 h1 h2
                  refine nums_any va _ rl rest w7 h1 ?_ (by omega)
                  rw [hrl0, hr0]
                  exact ⟨_, _, rfl, fun _ => rfl, rfl, fun j u hj => by simp at hj⟩
                have Hst := Lib.hid hst
                clear hst hrl0 hr0 hwts hnd hn hS5 hl5 hl5' hsrc hkw5
                go_wp2_with fail
                refine wp_region_held_drew (S := fun _ => True) (by kernel_rfl) trivial (fun hHeld => ?_)
                clear hHeld
                refine wpAnyH_take (i := 0) (v := .bool false) rfl (by kernel_rfl) (by kernel_rfl) (by kernel_rfl) (fun _ _ _ h => h) (Or.inl ⟨by rfl, ?_⟩) trivial ?_
                · intro W hSW; clear hSW; go_simp
                try simp only [Act.put, List.getElem_toArray, List.getElem_cons_zero, List.getElem_cons_succ, List.setIfInBounds_toArray, List.set_cons_zero, List.set_cons_succ]
                refine wpAnyH_take (i := 1) (v := .bool true) rfl (by kernel_rfl) (by kernel_rfl) (by kernel_rfl) (fun _ _ _ h => h) (Or.inl ⟨by rfl, ?_⟩) trivial ?_
                · intro W hSW; clear hSW; go_simp
                try simp only [Act.put, List.getElem_toArray, List.getElem_cons_zero, List.getElem_cons_succ, List.setIfInBounds_toArray, List.set_cons_zero, List.set_cons_succ]
                refine wpAnyH_take (i := 2) (v := .bool true) rfl (by kernel_rfl) (by kernel_rfl) (by kernel_rfl) (fun _ _ _ h => h) (Or.inl ⟨by rfl, ?_⟩) trivial ?_
                · intro W hSW; clear hSW; go_simp
                try simp only [Act.put, List.getElem_toArray, List.getElem_cons_zero, List.getElem_cons_succ, List.setIfInBounds_toArray, List.set_cons_zero, List.set_cons_succ]
                refine wpAnyH_take (i := 3) (v := .int .i64 0) rfl (by kernel_rfl) (by kernel_rfl) (by kernel_rfl) (fun _ _ _ h => h) (Or.inl ⟨by rfl, ?_⟩) trivial ?_
                · intro W hSW; clear hSW; go_simp
                try simp only [Act.put, List.getElem_toArray, List.getElem_cons_zero, List.getElem_cons_succ, List.setIfInBounds_toArray, List.set_cons_zero, List.set_cons_succ]
                refine wpAnyH_take (i := 4) (v := .bool true) rfl (by kernel_rfl) (by kernel_rfl) (by kernel_rfl) (fun _ _ _ h => h) (Or.inl ⟨by rfl, ?_⟩) trivial ?_
                · intro W hSW; clear hSW; go_simp
                try simp only [Act.put, List.getElem_toArray, List.getElem_cons_zero, List.getElem_cons_succ, List.setIfInBounds_toArray, List.set_cons_zero, List.set_cons_succ]
                refine wpAnyH_take (i := 5) (v := .bool true) rfl (by kernel_rfl) (by kernel_rfl) (by kernel_rfl) (fun _ _ _ h => h) (Or.inl ⟨by rfl, ?_⟩) trivial ?_
                · intro W hSW; clear hSW; go_simp
                try simp only [Act.put, List.getElem_toArray, List.getElem_cons_zero, List.getElem_cons_succ, List.setIfInBounds_toArray, List.set_cons_zero, List.set_cons_succ]
                refine wpAnyH_skip (i := 6) rfl (by kernel_rfl) (by kernel_rfl) (by kernel_rfl) (fun _ _ _ h => h) (by kernel_rfl) (by kernel_rfl) trivial ?_
                refine wpAnyH_skip (i := 7) rfl (by kernel_rfl) (by kernel_rfl) (by kernel_rfl) (fun _ _ _ h => h) (by kernel_rfl) (by kernel_rfl) trivial ?_
                refine wpAnyH_take (i := 8) (v := .bool true) rfl (by kernel_rfl) (by kernel_rfl) (by kernel_rfl) (fun _ _ _ h => h) (Or.inl ⟨by rfl, ?_⟩) trivial ?_
                · intro W hSW; clear hSW; go_simp
                try simp only [Act.put, List.getElem_toArray, List.getElem_cons_zero, List.getElem_cons_succ, List.setIfInBounds_toArray, List.set_cons_zero, List.set_cons_succ]
                refine wpAnyH_take (i := 9) (v := .bool true) rfl (by kernel_rfl) (by kernel_rfl) (by kernel_rfl) (fun _ _ _ h => h) (Or.inl ⟨by rfl, ?_⟩) trivial ?_
                · intro W hSW; clear hSW; go_simp
                try simp only [Act.put, List.getElem_toArray, List.getElem_cons_zero, List.getElem_cons_succ, List.setIfInBounds_toArray, List.set_cons_zero, List.set_cons_succ]
                refine wpAnyH_take (i := 10) (v := .bool true) rfl (by kernel_rfl) (by kernel_rfl) (by kernel_rfl) (fun _ _ _ h => h) (Or.inl ⟨by rfl, ?_⟩) trivial ?_
                · intro W hSW; clear hSW; go_simp
                try simp only [Act.put, List.getElem_toArray, List.getElem_cons_zero, List.getElem_cons_succ, List.setIfInBounds_toArray, List.set_cons_zero, List.set_cons_succ]
                refine wpAnyH_take (i := 11) (v := .pointer (some ⟨b, 0, none⟩)) rfl (by kernel_rfl) (by kernel_rfl) (by kernel_rfl) (fun _ _ _ h => h) (Or.inl ⟨by rfl, ?_⟩) trivial ?_
                · intro W hSW; clear hSW; go_simp
                try simp only [Act.put, List.getElem_toArray, List.getElem_cons_zero, List.getElem_cons_succ, List.setIfInBounds_toArray, List.set_cons_zero, List.set_cons_succ]
                refine wpAnyH_take (i := 13) (v := .slice ao4 mF c4) rfl (by kernel_rfl) (by kernel_rfl) (by kernel_rfl) (fun _ _ _ h => h) (Or.inl ⟨by rfl, ?_⟩) trivial ?_
                · intro W hSW; clear hSW; go_simp
                try simp only [Act.put, List.getElem_toArray, List.getElem_cons_zero, List.getElem_cons_succ, List.setIfInBounds_toArray, List.set_cons_zero, List.set_cons_succ]
                refine wpAnyH_take (i := 14) (v := .int .i64 c4) rfl (by kernel_rfl) (by kernel_rfl) (by kernel_rfl) (fun _ _ _ h => h) (Or.inl ⟨by rfl, ?_⟩) trivial ?_
                · intro W hSW; clear hSW; go_simp
                try simp only [Act.put, List.getElem_toArray, List.getElem_cons_zero, List.getElem_cons_succ, List.setIfInBounds_toArray, List.set_cons_zero, List.set_cons_succ]
                refine wpAnyH_take (i := 15) (v := .slice ao4 rl 0) rfl (by kernel_rfl) (by kernel_rfl) (by kernel_rfl) (fun _ _ _ h => h) (Or.inl ⟨by rfl, ?_⟩) trivial ?_
                · intro W hSW; clear hSW; go_simp
                try simp only [Act.put, List.getElem_toArray, List.getElem_cons_zero, List.getElem_cons_succ, List.setIfInBounds_toArray, List.set_cons_zero, List.set_cons_succ]
                refine wpAnyH_ready (rs := [12]) (by kernel_rfl) (by simp) ?_
                refine AllReadyH.cons rfl (fun K hK => ?_) AllReadyH.nil
                go_simp
                refine Hwts.out.mono ?_
                rintro e w7 ⟨v7, rfl, hown7, hk7⟩
                obtain ⟨ao7, c7, hv7, _⟩ := Src.of_own hown7
                have hs7 := Src.of_own hown7
                rw [Hrl.out] at hv7 hs7
                rw [hv7] at hs7
                rw [hv7]
                refine hK.out _ _ trivial (fun hHeld => ?_)
                clear hK K hHeld
                try simp only [Act.put, List.getElem_toArray, List.getElem_cons_zero, List.getElem_cons_succ, List.setIfInBounds_toArray, List.set_cons_zero, List.set_cons_succ]
                refine wpAnyH_ready (rs := [16]) (by kernel_rfl) (by simp) ?_
                refine AllReadyH.cons rfl (fun K hK => ?_) AllReadyH.nil
                go_simp
                refine (Hst.out _ _ hs7 hk7).mono ?_
                rintro e w8 ⟨rfl, qd, rfl⟩
                have hk8 := (hdk.trans hk7).drewN qd
                refine hK.out _ _ trivial (fun hHeld => ?_)
                clear hK K hHeld
                try simp only [Act.put, List.getElem_toArray, List.getElem_cons_zero, List.getElem_cons_succ, List.setIfInBounds_toArray, List.set_cons_zero, List.set_cons_succ]
                refine wpAnyH_take (i := 17) (v := .bool true) rfl (by kernel_rfl) (by kernel_rfl) (by kernel_rfl) (fun _ _ _ h => h) (Or.inl ⟨by rfl, ?_⟩) trivial ?_
                · intro W hSW; clear hSW; go_simp
                try simp only [Act.put, List.getElem_toArray, List.getElem_cons_zero, List.getElem_cons_succ, List.setIfInBounds_toArray, List.set_cons_zero, List.set_cons_succ]
                refine wpAnyH_take (i := 18) (v := .bool true) rfl (by kernel_rfl) (by kernel_rfl) (by kernel_rfl) (fun _ _ _ h => h) (Or.inl ⟨by rfl, ?_⟩) trivial ?_
                · intro W hSW; clear hSW; go_simp
                try simp only [Act.put, List.getElem_toArray, List.getElem_cons_zero, List.getElem_cons_succ, List.setIfInBounds_toArray, List.set_cons_zero, List.set_cons_succ]
                refine wpAnyH_ready (rs := [19]) (by kernel_rfl) (by simp) ?_
                refine AllReadyH.cons rfl (fun K hK => ?_) AllReadyH.nil
                go_simp
                refine (fixed_any _).mono ?_
                rintro e w9 ⟨rfl, hk9⟩
                refine hK.out _ _ trivial (fun hHeld => ?_)
                clear hK K hHeld
                try simp only [Act.put, List.getElem_toArray, List.getElem_cons_zero, List.getElem_cons_succ, List.setIfInBounds_toArray, List.set_cons_zero, List.set_cons_succ]
                refine wpAnyH_take (i := 20) (v := .bool true) rfl (by kernel_rfl) (by kernel_rfl) (by kernel_rfl) (fun _ _ _ h => h) (Or.inl ⟨by rfl, ?_⟩) trivial ?_
                · intro W hSW; clear hSW; go_simp
                try simp only [Act.put, List.getElem_toArray, List.getElem_cons_zero, List.getElem_cons_succ, List.setIfInBounds_toArray, List.set_cons_zero, List.set_cons_succ]
                refine wpAnyH_take (i := 21) (v := .bool true) rfl (by kernel_rfl) (by kernel_rfl) (by kernel_rfl) (fun _ _ _ h => h) (Or.inl ⟨by rfl, ?_⟩) trivial ?_
                · intro W hSW; clear hSW; go_simp
                try simp only [Act.put, List.getElem_toArray, List.getElem_cons_zero, List.getElem_cons_succ, List.setIfInBounds_toArray, List.set_cons_zero, List.set_cons_succ]
                refine wpAnyH_done (by kernel_rfl) ?_ _
                go_wp2_with fail
                go_ret
                exact ⟨rfl, none_below (hk8.trans hk9)⟩
              · have hst : ∀ (va : Value) (w7 : World), Src w7 va rl 1 (vI rest) → New W0.drew w7 → Calls Try.prog 16 #[va, .slice (ao4.map (fun x => x.add j)) rl (c4 - j)] w7 fun e w' => e = .returned (.bool true) ∧ ∃ q, w' = w7.drewN q := by
                  intro va w7 h1 h2
                  refine nums_any va _ rl rest w7 h1 ?_ (by omega)
                  rw [Hrest.out, ← hrl9]
                  exact (Src.tailI hsrc (by omega)).same h2
                have Hst := Lib.hid hst
                clear hst hwts hnd hn hS5 hl5 hl5' hsrc hkw5
                go_wp2_with fail
                refine wp_region_held_drew (S := fun _ => True) (by kernel_rfl) trivial (fun hHeld => ?_)
                clear hHeld
                refine wpAnyH_take (i := 0) (v := .bool false) rfl (by kernel_rfl) (by kernel_rfl) (by kernel_rfl) (fun _ _ _ h => h) (Or.inl ⟨by rfl, ?_⟩) trivial ?_
                · intro W hSW; clear hSW; go_simp
                try simp only [Act.put, List.getElem_toArray, List.getElem_cons_zero, List.getElem_cons_succ, List.setIfInBounds_toArray, List.set_cons_zero, List.set_cons_succ]
                refine wpAnyH_take (i := 1) (v := .bool true) rfl (by kernel_rfl) (by kernel_rfl) (by kernel_rfl) (fun _ _ _ h => h) (Or.inl ⟨by rfl, ?_⟩) trivial ?_
                · intro W hSW; clear hSW; go_simp
                try simp only [Act.put, List.getElem_toArray, List.getElem_cons_zero, List.getElem_cons_succ, List.setIfInBounds_toArray, List.set_cons_zero, List.set_cons_succ]
                refine wpAnyH_take (i := 2) (v := .bool true) rfl (by kernel_rfl) (by kernel_rfl) (by kernel_rfl) (fun _ _ _ h => h) (Or.inl ⟨by rfl, ?_⟩) trivial ?_
                · intro W hSW; clear hSW; go_simp
                try simp only [Act.put, List.getElem_toArray, List.getElem_cons_zero, List.getElem_cons_succ, List.setIfInBounds_toArray, List.set_cons_zero, List.set_cons_succ]
                refine wpAnyH_take (i := 3) (v := .int .i64 0) rfl (by kernel_rfl) (by kernel_rfl) (by kernel_rfl) (fun _ _ _ h => h) (Or.inl ⟨by rfl, ?_⟩) trivial ?_
                · intro W hSW; clear hSW; go_simp
                try simp only [Act.put, List.getElem_toArray, List.getElem_cons_zero, List.getElem_cons_succ, List.setIfInBounds_toArray, List.set_cons_zero, List.set_cons_succ]
                refine wpAnyH_take (i := 4) (v := .bool true) rfl (by kernel_rfl) (by kernel_rfl) (by kernel_rfl) (fun _ _ _ h => h) (Or.inl ⟨by rfl, ?_⟩) trivial ?_
                · intro W hSW; clear hSW; go_simp
                try simp only [Act.put, List.getElem_toArray, List.getElem_cons_zero, List.getElem_cons_succ, List.setIfInBounds_toArray, List.set_cons_zero, List.set_cons_succ]
                refine wpAnyH_take (i := 5) (v := .bool true) rfl (by kernel_rfl) (by kernel_rfl) (by kernel_rfl) (fun _ _ _ h => h) (Or.inl ⟨by rfl, ?_⟩) trivial ?_
                · intro W hSW; clear hSW; go_simp
                try simp only [Act.put, List.getElem_toArray, List.getElem_cons_zero, List.getElem_cons_succ, List.setIfInBounds_toArray, List.set_cons_zero, List.set_cons_succ]
                refine wpAnyH_skip (i := 6) rfl (by kernel_rfl) (by kernel_rfl) (by kernel_rfl) (fun _ _ _ h => h) (by kernel_rfl) (by kernel_rfl) trivial ?_
                refine wpAnyH_skip (i := 7) rfl (by kernel_rfl) (by kernel_rfl) (by kernel_rfl) (fun _ _ _ h => h) (by kernel_rfl) (by kernel_rfl) trivial ?_
                refine wpAnyH_take (i := 8) (v := .bool true) rfl (by kernel_rfl) (by kernel_rfl) (by kernel_rfl) (fun _ _ _ h => h) (Or.inl ⟨by rfl, ?_⟩) trivial ?_
                · intro W hSW; clear hSW; go_simp
                try simp only [Act.put, List.getElem_toArray, List.getElem_cons_zero, List.getElem_cons_succ, List.setIfInBounds_toArray, List.set_cons_zero, List.set_cons_succ]
                refine wpAnyH_take (i := 9) (v := .bool true) rfl (by kernel_rfl) (by kernel_rfl) (by kernel_rfl) (fun _ _ _ h => h) (Or.inl ⟨by rfl, ?_⟩) trivial ?_
                · intro W hSW; clear hSW; go_simp
                try simp only [Act.put, List.getElem_toArray, List.getElem_cons_zero, List.getElem_cons_succ, List.setIfInBounds_toArray, List.set_cons_zero, List.set_cons_succ]
                refine wpAnyH_take (i := 10) (v := .bool true) rfl (by kernel_rfl) (by kernel_rfl) (by kernel_rfl) (fun _ _ _ h => h) (Or.inl ⟨by rfl, ?_⟩) trivial ?_
                · intro W hSW; clear hSW; go_simp
                try simp only [Act.put, List.getElem_toArray, List.getElem_cons_zero, List.getElem_cons_succ, List.setIfInBounds_toArray, List.set_cons_zero, List.set_cons_succ]
                refine wpAnyH_take (i := 11) (v := .pointer (some ⟨b, 0, none⟩)) rfl (by kernel_rfl) (by kernel_rfl) (by kernel_rfl) (fun _ _ _ h => h) (Or.inl ⟨by rfl, ?_⟩) trivial ?_
                · intro W hSW; clear hSW; go_simp
                try simp only [Act.put, List.getElem_toArray, List.getElem_cons_zero, List.getElem_cons_succ, List.setIfInBounds_toArray, List.set_cons_zero, List.set_cons_succ]
                refine wpAnyH_take (i := 13) (v := .slice ao4 mF c4) rfl (by kernel_rfl) (by kernel_rfl) (by kernel_rfl) (fun _ _ _ h => h) (Or.inl ⟨by rfl, ?_⟩) trivial ?_
                · intro W hSW; clear hSW; go_simp
                try simp only [Act.put, List.getElem_toArray, List.getElem_cons_zero, List.getElem_cons_succ, List.setIfInBounds_toArray, List.set_cons_zero, List.set_cons_succ]
                refine wpAnyH_take (i := 14) (v := .int .i64 j) rfl (by kernel_rfl) (by kernel_rfl) (by kernel_rfl) (fun _ _ _ h => h) (Or.inl ⟨by rfl, ?_⟩) trivial ?_
                · intro W hSW; clear hSW; go_simp
                try simp only [Act.put, List.getElem_toArray, List.getElem_cons_zero, List.getElem_cons_succ, List.setIfInBounds_toArray, List.set_cons_zero, List.set_cons_succ]
                refine wpAnyH_take (i := 15) (v := .slice (ao4.map (fun x => x.add j)) rl (c4 - j)) rfl (by kernel_rfl) (by kernel_rfl) (by kernel_rfl) (fun _ _ _ h => h) (Or.inl ⟨by rfl, ?_⟩) trivial ?_
                · intro W hSW; clear hSW; go_simp
                try simp only [Act.put, List.getElem_toArray, List.getElem_cons_zero, List.getElem_cons_succ, List.setIfInBounds_toArray, List.set_cons_zero, List.set_cons_succ]
                refine wpAnyH_ready (rs := [12]) (by kernel_rfl) (by simp) ?_
                refine AllReadyH.cons rfl (fun K hK => ?_) AllReadyH.nil
                go_simp
                refine Hwts.out.mono ?_
                rintro e w7 ⟨v7, rfl, hown7, hk7⟩
                obtain ⟨ao7, c7, hv7, _⟩ := Src.of_own hown7
                have hs7 := Src.of_own hown7
                rw [Hrl.out] at hv7 hs7
                rw [hv7] at hs7
                rw [hv7]
                refine hK.out _ _ trivial (fun hHeld => ?_)
                clear hK K hHeld
                try simp only [Act.put, List.getElem_toArray, List.getElem_cons_zero, List.getElem_cons_succ, List.setIfInBounds_toArray, List.set_cons_zero, List.set_cons_succ]
                refine wpAnyH_ready (rs := [16]) (by kernel_rfl) (by simp) ?_
                refine AllReadyH.cons rfl (fun K hK => ?_) AllReadyH.nil
                go_simp
                refine (Hst.out _ _ hs7 hk7).mono ?_
                rintro e w8 ⟨rfl, qd, rfl⟩
                have hk8 := (hdk.trans hk7).drewN qd
                refine hK.out _ _ trivial (fun hHeld => ?_)
                clear hK K hHeld
                try simp only [Act.put, List.getElem_toArray, List.getElem_cons_zero, List.getElem_cons_succ, List.setIfInBounds_toArray, List.set_cons_zero, List.set_cons_succ]
                refine wpAnyH_take (i := 17) (v := .bool true) rfl (by kernel_rfl) (by kernel_rfl) (by kernel_rfl) (fun _ _ _ h => h) (Or.inl ⟨by rfl, ?_⟩) trivial ?_
                · intro W hSW; clear hSW; go_simp
                try simp only [Act.put, List.getElem_toArray, List.getElem_cons_zero, List.getElem_cons_succ, List.setIfInBounds_toArray, List.set_cons_zero, List.set_cons_succ]
                refine wpAnyH_take (i := 18) (v := .bool true) rfl (by kernel_rfl) (by kernel_rfl) (by kernel_rfl) (fun _ _ _ h => h) (Or.inl ⟨by rfl, ?_⟩) trivial ?_
                · intro W hSW; clear hSW; go_simp
                try simp only [Act.put, List.getElem_toArray, List.getElem_cons_zero, List.getElem_cons_succ, List.setIfInBounds_toArray, List.set_cons_zero, List.set_cons_succ]
                refine wpAnyH_ready (rs := [19]) (by kernel_rfl) (by simp) ?_
                refine AllReadyH.cons rfl (fun K hK => ?_) AllReadyH.nil
                go_simp
                refine (fixed_any _).mono ?_
                rintro e w9 ⟨rfl, hk9⟩
                refine hK.out _ _ trivial (fun hHeld => ?_)
                clear hK K hHeld
                try simp only [Act.put, List.getElem_toArray, List.getElem_cons_zero, List.getElem_cons_succ, List.setIfInBounds_toArray, List.set_cons_zero, List.set_cons_succ]
                refine wpAnyH_take (i := 20) (v := .bool true) rfl (by kernel_rfl) (by kernel_rfl) (by kernel_rfl) (fun _ _ _ h => h) (Or.inl ⟨by rfl, ?_⟩) trivial ?_
                · intro W hSW; clear hSW; go_simp
                try simp only [Act.put, List.getElem_toArray, List.getElem_cons_zero, List.getElem_cons_succ, List.setIfInBounds_toArray, List.set_cons_zero, List.set_cons_succ]
                refine wpAnyH_take (i := 21) (v := .bool true) rfl (by kernel_rfl) (by kernel_rfl) (by kernel_rfl) (fun _ _ _ h => h) (Or.inl ⟨by rfl, ?_⟩) trivial ?_
                · intro W hSW; clear hSW; go_simp
                try simp only [Act.put, List.getElem_toArray, List.getElem_cons_zero, List.getElem_cons_succ, List.setIfInBounds_toArray, List.set_cons_zero, List.set_cons_succ]
                refine wpAnyH_done (by kernel_rfl) ?_ _
                go_wp2_with fail
                go_ret
                exact ⟨rfl, none_below (hk8.trans hk9)⟩
end Go.Proofs.Ytaaoegfdhpploaa

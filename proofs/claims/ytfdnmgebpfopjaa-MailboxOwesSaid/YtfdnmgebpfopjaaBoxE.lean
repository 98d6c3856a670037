/- Package mailbox: Owed; are two the same; the calls whose answers the document fixes. -/
import Derived.Test.YtfdnmgebpfopjaaBoxD
set_option linter.all false
namespace Go.Proofs.Ytfdnmgebpfopjaa
open Go.RowKit

/-- How many of a box are from a core; how many of all. -/
def cntB (L : List Ml) (c : Int) : Nat := (L.filter (fun m => m.fr == c)).length
def owedE (X : List (List Ml)) (c : Int) : Nat := (X.map (fun L => cntB L c)).sum
theorem cntB_le (L : List Ml) (c : Int) : cntB L c ≤ L.length := List.length_filter_le _ _
theorem cntB_take {L : List Ml} {c : Int} {k : Nat} {x : Ml} (h : L[k]? = some x) : cntB (L.take (k + 1)) c = cntB (L.take k) c + (if x.fr == c then 1 else 0) := by
  unfold cntB
  rw [List.take_add_one, h, List.filter_append, List.length_append]
  congr 1
  simp only [Option.toList_some, List.filter_cons, List.filter_nil]
  split <;> rfl
theorem owedE_take {X : List (List Ml)} {c : Int} {j : Nat} {L : List Ml} (h : X[j]? = some L) : owedE (X.take (j + 1)) c = owedE (X.take j) c + cntB L c := by
  unfold owedE
  rw [List.take_add_one, h, List.map_append, List.sum_append]
  simp
theorem owedE_le (c : Int) (q : Nat) : ∀ X : List (List Ml), (∀ L ∈ X, L.length ≤ q) → owedE X c ≤ X.length * q
  | [], _ => by simp [owedE]
  | L :: X, h => by
    have h1 := owedE_le c q X (fun L hL => h L (by simp [hL]))
    have h2 := cntB_le L c
    have h3 := h L (by simp)
    have h4 : owedE (L :: X) c = cntB L c + owedE X c := by simp [owedE]
    rw [h4, List.length_cons, Nat.add_mul]
    omega
theorem Src.mails {w : World} {v : Value} {n : Nat} {L : List Ml} (h : Src w v n 3 (L.flatMap encM)) : L.length = n ∧ ∃ ao c, v = .slice ao n c ∧ ∀ i z, L[i]? = some z → ∃ B Of, ao = some ⟨B, Of, none⟩ ∧
    w.cell? ⟨B, Of + i * 3, none⟩ = some (.int .i64 z.fr) ∧ w.cell? ⟨B, Of + i * 3 + 1, none⟩ = some (.int .i64 z.kd) ∧ w.cell? ⟨B, Of + i * 3 + 2, none⟩ = some (.int .i64 z.ab) := by
  obtain ⟨ao, c, rfl, _, hl, h3⟩ := h
  rw [mails_len] at hl
  refine ⟨by omega, ao, c, rfl, fun i x hx => ?_⟩
  have key : ∀ i x, L[i]? = some x → ∀ j v, j < 3 → (encM x)[j]? = some v → ∃ ad, ao = some ad ∧ w.cell? (ad.add (i * 3 + j)) = some v := by
    intro i x hx j v hj hv
    have := enc_get encM_len hx hj
    rw [hv] at this
    exact h3 _ _ this
  obtain ⟨⟨B, Of, sp⟩, rfl, h0⟩ := key i x hx 0 _ (by omega) rfl
  obtain ⟨x0, hx0⟩ : ∃ x0, L[0]? = some x0 := ⟨_, List.getElem?_eq_getElem (by have := lt_of_some hx; omega)⟩
  obtain ⟨ad, e, h00⟩ := key 0 x0 hx0 0 _ (by omega) rfl
  cases e
  have hsp : sp = none := by
    have := spot_of_cell h00
    simpa [Addr.add] using this
  subst hsp
  have k2 : ∀ j v, j < 3 → (encM x)[j]? = some v → w.cell? ⟨B, Of + i * 3 + j, none⟩ = some v := by
    intro j v hj hv
    obtain ⟨ad, e, h⟩ := key i x hx j v hj hv
    cases e
    rw [addr_add, ← Nat.add_assoc] at h
    exact h
  exact ⟨B, Of, rfl, by simpa using k2 0 _ (by omega) rfl, k2 1 _ (by omega) rfl, k2 2 _ (by omega) rfl⟩

set_option maxRecDepth 100000 in
set_option maxHeartbeats 1000000 in
theorem owed_any {O : Nat → Prop} (b : Nat) (X : List (List Ml)) (c : Int) (q : Nat) (w : World) (h : Bs O w b X) (hX : X.length ≤ 8) (hs : ∀ L ∈ X, L.length ≤ 64) (hq : q = owedE X c) :
    Calls Try.prog 11 #[.pointer (some ⟨b, 0, none⟩), .int .i64 c] w fun e w' => e = .returned (.int .i64 q) ∧ New w w' := by
  obtain ⟨g, vs, hw⟩ := h
  have hb := hw.hb
  have c0 := cell_blk hb 0
  have hbl := lt_of_heap hb
  obtain ⟨n, hn⟩ : ∃ n, n = X.length := ⟨_, rfl⟩
  rw [← hn] at c0 hX
  have Hn := Lib.hid hn
  have Hs := Lib.hid hs
  have Hq := Lib.hid hq
  have Hw := Lib.hid hw
  clear hb hn hs hq hw
  go_enter Try.func11, Try.ntmps11
  go_wp2_with fail
  go_loopw [5, 15] (fun p i wr => ∃ (j t : Nat), j ≤ n ∧ p = .int .i64 t ∧ i = .int .i64 j ∧ Hid (t = owedE (X.take j) c) ∧ New w wr) (fun _ i _ => n - (intOf i).toNat)
  case atStart => exact ⟨0, 0, by omega, rfl, rfl, by simp [Hid, owedE], Kept.refl _ _⟩
  case round =>
    obtain ⟨j, t, hj, rfl, rfl, Ht, hkr⟩ := hrel
    have hw1 := Bw.kept Hw.out hkr (fun _ _ h => h)
    have d0 := cell_kept hkr c0 (fun h => h)
    by_cases h1 : j < n
    · obtain ⟨L, hL⟩ : ∃ L, X[j]? = some L := ⟨_, List.getElem?_eq_getElem (by have := Hn.out; omega)⟩
      obtain ⟨aL, cL, hvi, ci, hown⟩ := hw1.at hL
      have hL64 := Hs.out L (List.mem_of_getElem? hL)
      have htk := owedE_take (c := c) hL
      have ht512 : t ≤ 512 := by
        rw [Ht.out]
        have := owedE_le c 64 (X.take j) (fun L hL => Hs.out L (List.mem_of_mem_take hL))
        rw [List.length_take] at this
        have := Hn.out
        omega
      have Htk := Lib.hid htk
      obtain ⟨l, hl⟩ : ∃ l, l = L.length := ⟨_, rfl⟩
      rw [← hl] at ci hown hL64
      have Hl := Lib.hid hl
      have Hown := Lib.hid hown
      have hjn : (j : Int) < n := by omega
      obtain ⟨W, hW⟩ : ∃ W, W = wr := ⟨_, rfl⟩
      rw [← hW] at ci d0 Hown hkr ⊢
      clear hL hvi hown hl htk hw1 hW
      go_wp2_with fail
      go_loopw [5, 21] (fun p i wx => ∃ (k u : Nat), k ≤ l ∧ p = .int .i64 u ∧ i = .int .i64 k ∧ Hid (u = t + cntB (L.take k) c) ∧ New W wx) (fun _ i _ => l - (intOf i).toNat)
      case atStart => exact ⟨0, t, by omega, rfl, rfl, by simp [Hid, cntB], Kept.refl _ _⟩
      case round =>
        obtain ⟨k, u, hk, rfl, rfl, Hu, hkx⟩ := hrel
        have hu600 : u ≤ 600 := by
          have h8 := Hu.out
          have h9 := cntB_le (L.take k) c
          rw [List.length_take] at h9
          have := Hl.out
          omega
        by_cases h2 : k < l
        · obtain ⟨x, hx⟩ : ∃ x, L[k]? = some x := ⟨_, List.getElem?_eq_getElem (by have := Hl.out; omega)⟩
          obtain ⟨gL, cap, hv, -⟩ := Row.of_ownS Hown.out (by omega)
          simp only [Value.slice.injEq] at hv
          obtain ⟨rfl, -, rfl⟩ := hv
          obtain ⟨x0, x1, x2⟩ := own_mail (own_same Hown.out hkx) hx
          have hct := cntB_take (c := c) hx
          have Hct := Lib.hid hct
          clear hct hx
          by_cases hxc : x.fr = c
          · have hst : u + 1 = t + cntB (L.take (k + 1)) c := by rw [Hct.out, if_pos (by simpa using hxc), Hu.out]; omega
            have Hst := Lib.hid hst
            have hwp : IntKind.i64.wrap ((u : Int) + 1) = ((u + 1 : Nat) : Int) := by rw [IntKind.wrap_i64]; omega
            clear hst
            go_wp2_with fail
            go_roundw
            case rel => exact ⟨k + 1, u + 1, by omega, by go_num, by go_num, Hst.out, hkx.alloc _⟩
            case measure => simp [intOf]; omega
          · have hst : u = t + cntB (L.take (k + 1)) c := by rw [Hct.out, if_neg (by simpa using hxc), Hu.out]; omega
            have Hst := Lib.hid hst
            clear hst
            go_wp2_with fail
            go_roundw
            case rel => exact ⟨k + 1, u, by omega, rfl, by go_num, Hst.out, hkx.alloc _⟩
            case measure => simp [intOf]; omega
        · have hfin : u = owedE (X.take (j + 1)) c := by
            rw [Htk.out, ← Ht.out, Hu.out, List.take_of_length_le (by have := Hl.out; omega)]
          have Hfin := Lib.hid hfin
          clear hfin
          go_wp2_with fail
          go_roundw
          case rel => exact ⟨j + 1, u, by omega, rfl, by go_num, Hfin.out, hkr.trans hkx⟩
          case measure => simp [intOf]; omega
    · obtain rfl : j = n := by omega
      go_wp2_with fail
      go_ret
      refine ⟨?_, hkr⟩
      have h9 := Ht.out
      rw [List.take_of_length_le (by have := Hn.out; omega), ← Hq.out] at h9
      rw [h9]; rfl

set_option maxRecDepth 100000 in
set_option maxHeartbeats 1000000 in
theorem same_any (va vb : Value) (n : Nat) (L : List Ml) (w : World) (ha : Src w va n 3 (L.flatMap encM)) (hb : Src w vb n 3 (L.flatMap encM)) (hn : n ≤ 1000000) :
    Calls Try.prog 15 #[va, vb] w fun e w' => e = .returned (.bool true) ∧ New w w' := by
  obtain ⟨hl, ao, ca, rfl, hca⟩ := Src.mails ha
  obtain ⟨-, bo, cb, rfl, hcb⟩ := Src.mails hb
  have Hl := Lib.hid hl
  have Ha := Lib.hid hca
  have Hb := Lib.hid hcb
  clear hl hca hcb ha hb
  go_enter Try.func15, Try.ntmps15
  go_wp2
  go_loopw [5] (fun i wr => ∃ k : Nat, k ≤ n ∧ i = .int .i64 k ∧ (∃ q, wr = w.drewN q)) (fun i _ => n - (intOf i).toNat)
  case atStart => exact ⟨0, Nat.zero_le _, rfl, 0, rfl⟩
  case round =>
    obtain ⟨k, hk, rfl, q, rfl⟩ := hrel
    by_cases hlt : k < n
    · obtain ⟨x, hx⟩ : ∃ x, L[k]? = some x := ⟨_, List.getElem?_eq_getElem (by have := Hl.out; omega)⟩
      obtain ⟨B, Of, rfl, a0, a1, a2⟩ := Ha.out k x hx
      obtain ⟨B', Of', rfl, b0, b1, b2⟩ := Hb.out k x hx
      clear hx
      go_wp2
      go_quiet (fail)
      go_wp2
      go_roundw
      case rel => exact ⟨k + 1, by omega, by go_num, _, rfl⟩
      case measure => simp [intOf]; omega
    · go_wp2
      go_ret
      exact ⟨rfl, (Kept.refl _ _).drewN _⟩

theorem Send_sep {Q : Thing} (hQ : Q.Ok) (n0 b : Nat) (X X' : List (List Ml)) (f t kd ab er : Int) (w : World) (hS : Sep (BX b X) Q (fun k => n0 ≤ k) w) (hn : n0 ≤ w.heap.size) (hX : X.length ≤ 8) (hs : ∀ L ∈ X, L.length ≤ 64) (he : sendE X f t kd ab = (er, X')) :
    Calls Try.prog 9 #[.pointer (some ⟨b, 0, none⟩), .int .i64 f, .int .i64 t, .int .i64 kd, .int .i64 ab] w fun e w' => e = .returned (.int .i64 er) ∧ Sep (BX b X') Q (fun k => n0 ≤ k) w' ∧ Kept (fun k => n0 ≤ k) w w' := by
  obtain ⟨O1, O2, h1, h2, h3, h4⟩ := hS
  refine (Send_any b X X' f t kd ab er w h1 hX hs he).mono ?_
  rintro e w1 ⟨rfl, hA, hk⟩
  obtain ⟨hS1, hk1⟩ := Sep.step (P' := BX b X') (O := fun k => n0 ≤ k) hQ h2 h3 h4 hA hk (fun k h => Nat.le_trans hn h)
  exact ⟨rfl, hS1, hk1⟩
theorem All_sep {Q : Thing} (hQ : Q.Ok) (n0 b : Nat) (X X' : List (List Ml)) (f kd ab er : Int) (w : World) (hS : Sep (BX b X) Q (fun k => n0 ≤ k) w) (hn : n0 ≤ w.heap.size) (hX : X.length ≤ 8) (hs : ∀ L ∈ X, L.length ≤ 64) (he : allE X f kd ab = (er, X')) :
    Calls Try.prog 10 #[.pointer (some ⟨b, 0, none⟩), .int .i64 f, .int .i64 kd, .int .i64 ab] w fun e w' => e = .returned (.int .i64 er) ∧ Sep (BX b X') Q (fun k => n0 ≤ k) w' ∧ Kept (fun k => n0 ≤ k) w w' := by
  obtain ⟨O1, O2, h1, h2, h3, h4⟩ := hS
  refine (All_any b X X' f kd ab er w h1 hX hs he).mono ?_
  rintro e w1 ⟨rfl, hA, hk⟩
  obtain ⟨hS1, hk1⟩ := Sep.step (P' := BX b X') (O := fun k => n0 ≤ k) hQ h2 h3 h4 hA hk (fun k h => Nat.le_trans hn h)
  exact ⟨rfl, hS1, hk1⟩
theorem Take_any {O : Nat → Prop} (b : Nat) (X X' : List (List Ml)) (c : Int) (m : Ml) (is : Bool) (w : World) (h : Bs O w b X) (hX : X.length ≤ 8) (hs : ∀ L ∈ X, L.length ≤ 64) (he : takeE X c = ((m, is), X')) :
    Calls Try.prog 12 #[.pointer (some ⟨b, 0, none⟩), .int .i64 c] w fun e w' => e = .returned (.tuple #[aggM m, .bool is]) ∧ Bs (fun k => O k ∨ w.heap.size ≤ k) w' b X' ∧ Kept O w w' := by
  unfold takeE at he
  cases hb : boxE X c with
  | nil =>
    rw [hb] at he
    simp only [Prod.mk.injEq] at he
    obtain ⟨⟨rfl, rfl⟩, rfl⟩ := he
    refine (take_no b X c w h hX hb).mono ?_
    rintro e w1 ⟨rfl, hk⟩
    exact ⟨rfl, (h.same hk).mono (fun _ h => .inl h), hk.mono (fun _ _ h => h.elim)⟩
  | cons x l =>
    rw [hb] at he
    simp only [Prod.mk.injEq] at he
    obtain ⟨⟨rfl, rfl⟩, rfl⟩ := he
    unfold boxE at hb
    cases hr : inR X c with
    | false => rw [hr] at hb; simp at hb
    | true =>
      rw [hr, if_pos rfl] at hb
      have hr2 : 0 ≤ c ∧ c < X.length := by simpa [inR] using hr
      obtain ⟨i, rfl⟩ := Int.eq_ofNat_of_zero_le hr2.1
      rw [show ((i : Int)).toNat = i by omega] at hb ⊢
      have hi : X[i]? = some (x :: l) := by
        have h9 : i < X.length := by omega
        rw [List.getElem?_eq_getElem h9]
        rw [List.getD_eq_getElem?_getD, List.getElem?_eq_getElem h9] at hb
        simpa using hb
      exact take_yes b X i x l w h hX hs hi
theorem Take_sep {Q : Thing} (hQ : Q.Ok) (n0 b : Nat) (X X' : List (List Ml)) (c : Int) (m : Ml) (is : Bool) (w : World) (hS : Sep (BX b X) Q (fun k => n0 ≤ k) w) (hn : n0 ≤ w.heap.size) (hX : X.length ≤ 8) (hs : ∀ L ∈ X, L.length ≤ 64) (he : takeE X c = ((m, is), X')) :
    Calls Try.prog 12 #[.pointer (some ⟨b, 0, none⟩), .int .i64 c] w fun e w' => e = .returned (.tuple #[aggM m, .bool is]) ∧ Sep (BX b X') Q (fun k => n0 ≤ k) w' ∧ Kept (fun k => n0 ≤ k) w w' := by
  obtain ⟨O1, O2, h1, h2, h3, h4⟩ := hS
  refine (Take_any b X X' c m is w h1 hX hs he).mono ?_
  rintro e w1 ⟨rfl, hA, hk⟩
  obtain ⟨hS1, hk1⟩ := Sep.step (P' := BX b X') (O := fun k => n0 ≤ k) hQ h2 h3 h4 hA hk (fun k h => Nat.le_trans hn h)
  exact ⟨rfl, hS1, hk1⟩

set_option maxRecDepth 100000 in
set_option maxHeartbeats 4000000 in
theorem fixed_any (w : World) : Calls Try.prog 13 #[] w fun e w' => e = .returned (.bool true) ∧ New w w' := by
  have hnew : Calls Try.prog 8 #[.int .i64 3] w _ := new_any 3 w (by decide) (by decide)
  go_enter Try.func13, Try.ntmps13
  go_wp2_with fail
  refine hnew.mono ?_
  rintro e w1 ⟨b, rfl, hbw, hB, hk⟩
  go_wp2_with fail
  refine (All_any b [[], [], []] [[], [⟨0, 1, 5⟩], [⟨0, 1, 5⟩]] 0 1 5 0 w1 hB (by decide) (by decide) (by decide)).mono ?_
  rintro e w2 ⟨rfl, hB2, hk2⟩
  have hB2' := Bs.mono (O' := fun k => w.heap.size ≤ k) hB2 (fun k h => h.elim id (fun h => Nat.le_trans hk.size h))
  replace hk := hk.new hk2 (fun i hi => hi)
  clear hB2 hB hk2
  go_wp2_with fail
  refine (owed_any b [[], [⟨0, 1, 5⟩], [⟨0, 1, 5⟩]] 0 2 w2 hB2' (by decide) (by decide) (by decide)).mono ?_
  rintro e w3 ⟨rfl, hk3⟩
  have hB3 := hB2'.same hk3
  replace hk := hk.trans hk3
  clear hB2' hk3
  go_wp2_with fail
  refine (Take_any b [[], [⟨0, 1, 5⟩], [⟨0, 1, 5⟩]] [[], [], [⟨0, 1, 5⟩]] 1 ⟨0, 1, 5⟩ true w3 hB3 (by decide) (by decide) (by decide)).mono ?_
  rintro e w4 ⟨rfl, hB4, hk4⟩
  have hB4' := Bs.mono (O' := fun k => w.heap.size ≤ k) hB4 (fun k h => h.elim id (fun h => Nat.le_trans hk.size h))
  replace hk := hk.new hk4 (fun i hi => hi)
  have kA : New w4 (w4.alloc (blkM ⟨0, 1, 5⟩)) := (Kept.refl _ _).alloc _
  have hS : Sep (BX b [[], [], [⟨0, 1, 5⟩]]) (BQ w4.heap.size (blkM ⟨0, 1, 5⟩)) (fun k => w.heap.size ≤ k) (w4.alloc (blkM ⟨0, 1, 5⟩)) := (Sep.fresh (N := BQ w4.heap.size (blkM ⟨0, 1, 5⟩)) (BX.ok _ _) (show BX b [[], [], [⟨0, 1, 5⟩]] (fun k => w.heap.size ≤ k) w4 from hB4') ⟨heap_alloc_new _ _, Nat.le_refl _⟩ kA (fun k h => Nat.le_trans hk.size h)).swap
  replace hk := hk.trans kA
  obtain ⟨q5, hq5⟩ : ∃ q5, q5 = w4.heap.size := ⟨_, rfl⟩
  have Hq5 := Lib.hid hq5
  rw [← hq5] at hS
  obtain ⟨W, hW⟩ : ∃ W, W = w4.alloc (blkM ⟨0, 1, 5⟩) := ⟨_, rfl⟩
  rw [← hW] at hS hk
  have HW := Lib.hid hW
  clear hB4 hB4' hB3 hk4 kA hq5 hW
  go_wp2_with fail
  have hW2 := HW.out
  simp only [blkM] at hW2
  rw [← hW2, ← Hq5.out]
  clear hW2 HW Hq5
  obtain ⟨_, hn⟩ := Sep.one hS
  refine (owed_any b [[], [], [⟨0, 1, 5⟩]] 0 1 W hn (by decide) (by decide) (by decide)).mono ?_
  rintro e w5 ⟨rfl, hk5⟩
  replace hS := (Sep.ok (BX.ok _ _) (BQ.ok _ _)).kept hS hk5 (fun _ _ h => h)
  replace hk := hk.trans hk5
  clear hn hk5
  go_wp2_with fail
  refine (Send_sep (BQ.ok _ _) w.heap.size b [[], [], [⟨0, 1, 5⟩]] [[], [], [⟨0, 1, 5⟩]] 1 1 0 0 170 _ hS hk.size (by decide) (by decide) (by decide)).mono ?_
  rintro e wx0 ⟨rfl, hSx, hkx⟩
  replace hk := hk.new hkx (fun i hi => hi)
  clear hS hkx
  have hS := hSx
  clear hSx
  go_wp2_with fail
  refine (Send_sep (BQ.ok _ _) w.heap.size b [[], [], [⟨0, 1, 5⟩]] [[], [], [⟨0, 1, 5⟩]] 1 3 0 0 1 _ hS hk.size (by decide) (by decide) (by decide)).mono ?_
  rintro e wx1 ⟨rfl, hSx, hkx⟩
  replace hk := hk.new hkx (fun i hi => hi)
  clear hS hkx
  have hS := hSx
  clear hSx
  go_wp2_with fail
  refine (Send_sep (BQ.ok _ _) w.heap.size b [[], [], [⟨0, 1, 5⟩]] [[], [], [⟨0, 1, 5⟩, ⟨1, 7, 8⟩]] 1 2 7 8 0 _ hS hk.size (by decide) (by decide) (by decide)).mono ?_
  rintro e wx2 ⟨rfl, hSx, hkx⟩
  replace hk := hk.new hkx (fun i hi => hi)
  clear hS hkx
  have hS := hSx
  clear hSx
  go_wp2_with fail
  refine (Take_sep (BQ.ok _ _) w.heap.size b [[], [], [⟨0, 1, 5⟩, ⟨1, 7, 8⟩]] [[], [], [⟨0, 1, 5⟩, ⟨1, 7, 8⟩]] 0 ⟨0, 0, 0⟩ false _ hS hk.size (by decide) (by decide) (by decide)).mono ?_
  rintro e w9 ⟨rfl, hS9, hk9⟩
  replace hk := hk.new hk9 (fun i hi => hi)
  clear hS hk9
  have kA : New w9 (w9.alloc (blkM ⟨0, 0, 0⟩)) := (Kept.refl _ _).alloc _
  replace hS9 := (Sep.ok (BX.ok _ _) (BQ.ok _ _)).kept hS9 kA (fun _ _ h => h)
  replace hk := hk.trans kA
  clear kA
  go_wp2_with fail
  refine (new_no 0 _ (.inl (by decide))).mono ?_
  rintro e w10 ⟨rfl, rfl⟩
  obtain ⟨_, hn⟩ := Sep.one hS9
  obtain ⟨_, hq⟩ := Sep.any hS9
  obtain ⟨x0, x1, x2⟩ := of3 hq.1
  have hbox := Box_any b [[], [], [⟨0, 1, 5⟩, ⟨1, 7, 8⟩]] 2 [⟨0, 1, 5⟩, ⟨1, 7, 8⟩] _ hn (by decide) (by decide) (by decide)
  have Hbox := Lib.hid hbox
  clear hbox hn hq hS9
  go_wp2_with fail
  refine Hbox.out.mono ?_
  rintro e w11 ⟨v, rfl, hown, -, hk11⟩
  obtain ⟨ao, c, hv, -⟩ := Src.of_own hown
  replace hv : v = .slice ao 2 c := hv
  subst hv
  have hlit := Src.lit w11 #[.int .i64 0, .int .i64 1, .int .i64 5, .int .i64 1, .int .i64 7, .int .i64 8] 30 2 3 rfl
  have hsame := same_any _ _ 2 [⟨0, 1, 5⟩, ⟨1, 7, 8⟩] _ ((Src.of_own hown).alloc (.cells #[.int .i64 0, .int .i64 1, .int .i64 5, .int .i64 1, .int .i64 7, .int .i64 8] 30)) hlit (by decide)
  have Hsame := Lib.hid hsame
  clear hsame hlit hown Hbox
  go_wp2_with fail
  refine Hsame.out.mono ?_
  rintro e w12 ⟨rfl, hk12⟩
  go_wp2_with fail
  go_ret
  exact ⟨rfl, ((hk.trans hk11).alloc _).trans hk12⟩
end Go.Proofs.Ytfdnmgebpfopjaa

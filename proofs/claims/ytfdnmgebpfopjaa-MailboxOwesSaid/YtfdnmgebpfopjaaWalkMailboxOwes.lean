/- The walk of the law MailboxOwes. -/
import Derived.Test.YtfdnmgebpfopjaaBoxF
set_option linter.all false
namespace Go.Proofs.Ytfdnmgebpfopjaa
open Go.RowKit

/-- How many each of four is owed, in a slice's block. -/
def O4 (X : List (List Ml)) : Obj := .cells #[.int .i64 (owedE X ((0 : Nat) : Int) : Nat), .int .i64 (owedE X ((1 : Nat) : Int) : Nat), .int .i64 (owedE X ((2 : Nat) : Int) : Nat), .int .i64 (owedE X ((3 : Nat) : Int) : Nat)] 3
theorem O4_at {w : World} {q : Nat} {X : List (List Ml)} (h : w.heap[q]? = some (O4 X)) {i : Nat} (hi : i < 4) : w.cell? ⟨q, i, none⟩ = some (.int .i64 (owedE X (i : Int) : Nat)) := by
  match i, hi with
  | 0, _ => exact cell_blk h 0
  | 1, _ => exact cell_blk h 1
  | 2, _ => exact cell_blk h 2
  | 3, _ => exact cell_blk h 3
theorem O4_put {w : World} {q i t : Nat} {X X' : List (List Ml)} (h : w.heap[q]? = some (O4 X)) (hi : i < 4) (ht : t = owedE X' (i : Int)) (ho : ∀ c : Nat, ¬ c = i → owedE X' (c : Int) = owedE X (c : Int)) : (w.setCell ⟨q, i, none⟩ (.int .i64 (t : Int))).heap[q]? = some (O4 X') := by
  have h1 := heap_setCell_same w q i _ _ (.int .i64 (t : Int)) h
  rw [h1, ht]
  unfold O4
  match i, hi with
  | 0, _ => rw [ho 1 (by decide), ho 2 (by decide), ho 3 (by decide)]; rfl
  | 1, _ => rw [ho 0 (by decide), ho 2 (by decide), ho 3 (by decide)]; rfl
  | 2, _ => rw [ho 0 (by decide), ho 1 (by decide), ho 3 (by decide)]; rfl
  | 3, _ => rw [ho 0 (by decide), ho 1 (by decide), ho 2 (by decide)]; rfl
structure Inf (X : List (List Ml)) : Prop where
  four : X.length = 4
  size : ∀ L ∈ X, L.length ≤ 64
  fr : ∀ (c : Nat) (L : List Ml), X[c]? = some L → ∀ m ∈ L, ∃ i : Nat, m.fr = i ∧ i < 4
theorem Inf.put {X : List (List Ml)} {i j : Nat} {L : List Ml} {k a : Int} (h : Inf X) (hL : X[j]? = some L) (hl : L.length < 64) (hi : i < 4) : Inf (X.set j (L ++ [⟨i, k, a⟩])) := by
  have hj := lt_of_some hL
  refine ⟨by rw [List.length_set]; exact h.four, fun M hM => set_mem h.size (by rw [List.length_append]; simp; omega) hM, ?_⟩
  intro c M hM m hm
  by_cases hc : c = j
  · subst hc
    rw [List.getElem?_set_self hj] at hM
    cases hM
    rcases List.mem_append.1 hm with h2 | h2
    · exact h.fr c L hL m h2
    · rw [List.mem_singleton.1 h2]; exact ⟨i, rfl, hi⟩
  · rw [List.getElem?_set_ne (fun e => hc e.symm)] at hM
    exact h.fr c M hM m hm
theorem Inf.take {X : List (List Ml)} {j : Nat} {x : Ml} {l : List Ml} (h : Inf X) (hL : X[j]? = some (x :: l)) : Inf (X.set j l) := by
  have hj := lt_of_some hL
  refine ⟨by rw [List.length_set]; exact h.four, fun M hM => set_mem h.size (by have := h.size _ (List.mem_of_getElem? hL); simp at this; omega) hM, ?_⟩
  intro c M hM m hm
  by_cases hc : c = j
  · subst hc
    rw [List.getElem?_set_self hj] at hM
    cases hM
    exact h.fr c _ hL m (by simp [hm])
  · rw [List.getElem?_set_ne (fun e => hc e.symm)] at hM
    exact h.fr c M hM m hm
theorem Inf.none : Inf (List.replicate 4 []) := by
  refine ⟨rfl, fun L hL => by rw [List.eq_of_mem_replicate hL]; simp, ?_⟩
  intro c L h m hm
  rw [List.eq_of_mem_replicate (List.mem_of_getElem? h)] at hm
  cases hm
theorem owed_put {X : List (List Ml)} {i j : Nat} {L : List Ml} {k a : Int} (hL : X[j]? = some L) (c : Nat) : owedE (X.set j (L ++ [⟨i, k, a⟩])) (c : Int) = owedE X (c : Int) + (if c = i then 1 else 0) := by
  have h := owed_set (L' := L ++ [⟨(i : Int), k, a⟩]) (c : Int) hL
  have h2 : cntB (L ++ [⟨(i : Int), k, a⟩]) (c : Int) = cntB L (c : Int) + (if c = i then 1 else 0) := by
    unfold cntB
    rw [List.filter_append, List.length_append]
    congr 1
    by_cases hc : c = i
    · subst hc; simp
    · have : ¬ ((i : Int) = (c : Int)) := by omega
      rw [if_neg hc]; simp [this]
  omega
theorem owed_less {X : List (List Ml)} {i j : Nat} {l : List Ml} {k a : Int} (hL : X[j]? = some (⟨i, k, a⟩ :: l)) (c : Nat) : owedE (X.set j l) (c : Int) + (if c = i then 1 else 0) = owedE X (c : Int) := by
  have h := owed_set (L' := l) (c : Int) hL
  have h2 : cntB (⟨(i : Int), k, a⟩ :: l) (c : Int) = cntB l (c : Int) + (if c = i then 1 else 0) := by
    unfold cntB
    rw [List.filter_cons]
    by_cases hc : c = i
    · subst hc; simp
    · have : ¬ ((i : Int) = (c : Int)) := by omega
      rw [if_neg hc]; simp [this]
  omega

set_option maxRecDepth 100000 in
set_option maxHeartbeats 16000000 in
theorem walkMailboxOwes (w : World) (v : Value) (rows : List (List Value)) (hs : Src w v rows.length 5 rows.flatten) (hr : ∀ x ∈ rows, FlatOk [.int .i64, .int .i64, .int .i64, .int .i64, .int .i64] x) (hm : rows.length ≤ maxLen) :
    Calls Try.prog 7 #[v] w fun e w' => e = .returned (.bool true) ∧ Below w.heap.size w w' := by
  obtain ⟨L, hfl, hll⟩ := mos_of_rows hr
  rw [hfl] at hs
  obtain ⟨len, hlen⟩ : ∃ len, len = rows.length := ⟨_, rfl⟩
  rw [← hlen] at hs hm hll
  clear hr hfl hlen
  have Hs := Lib.hid hs
  obtain ⟨-, ao, c, rfl, hcells⟩ := Src.mos hs
  have Hll := Lib.hid hll
  have hlenm : len ≤ 9223372036854775807 := by have : maxLen = 9223372036854775807 := rfl; omega
  have hnew : Calls Try.prog 8 #[.int .i64 4] w _ := new_any 4 w (by decide) (by decide)
  have Hnew := Lib.hid hnew
  clear hs hll hcells hm hnew
  go_enter Try.func7, Try.ntmps7
  go_wp2_with fail
  refine Hnew.out.mono ?_
  rintro e w1 ⟨b, rfl, -, hB0, hk⟩
  clear Hnew
  have kA : New w1 (w1.alloc (.cells #[.int .i64 0, .int .i64 0, .int .i64 0, .int .i64 0] 3)) := (Kept.refl _ _).alloc _
  have hS0 : Sep (BX b (List.replicate 4 [])) (BQ w1.heap.size (O4 (List.replicate 4 []))) (fun k => w.heap.size ≤ k) (w1.alloc (.cells #[.int .i64 0, .int .i64 0, .int .i64 0, .int .i64 0] 3)) := (Sep.fresh (N := BQ w1.heap.size (O4 (List.replicate 4 []))) (BX.ok _ _) (show BX b (List.replicate 4 []) (fun k => w.heap.size ≤ k) w1 from hB0) ⟨heap_alloc_new _ _, Nat.le_refl _⟩ kA (fun k h => Nat.le_trans hk.size h)).swap
  replace hk := hk.trans kA
  obtain ⟨qo, hqo⟩ : ∃ qo, qo = w1.heap.size := ⟨_, rfl⟩
  rw [← hqo] at hS0
  have Hqo := Lib.hid hqo
  clear hB0 kA hqo
  go_wp2_with fail
  rw [← Hqo.out]
  go_loopw [6] (fun i wr => ∃ (k : Nat) (X : List (List Ml)), k ≤ 60 ∧ k ≤ len ∧ i = .int .i64 k ∧ Hid (Inf X) ∧ New w wr ∧ Sep (BX b X) (BQ qo (O4 X)) (fun k => w.heap.size ≤ k) wr) (fun i _ => 60 - (intOf i).toNat)
  case atStart => exact ⟨0, List.replicate 4 [], by omega, by omega, rfl, Inf.none, hk, hS0⟩
  case round =>
    clear hS0 hk Hqo
    obtain ⟨k, X, hk6, hk, rfl, HI, hkr, hS⟩ := hrel
    have hX4 : X.length ≤ 8 := by rw [HI.out.four]; decide
    have Hsz := Lib.hid HI.out.size
    by_cases h1 : k < len ∧ k < 60
    · obtain ⟨h1, h2⟩ := h1
      have h2' : (k : Int) < 60 := by omega
      obtain ⟨z, hz⟩ : ∃ z, L[k]? = some z := ⟨_, List.getElem?_eq_getElem (by have := Hll.out; omega)⟩
      obtain ⟨ao', c', he, hcl⟩ := (Src.mos (Hs.out.same hkr)).2
      cases he
      obtain ⟨B, Of, rfl, c0, c1, c2, c3, c4⟩ := hcl k z hz
      have kA : New wr (wr.alloc (.cells #[.int .i64 z.kind, .int .i64 z.fr, .int .i64 z.to, .int .i64 z.wh, .int .i64 z.ab] 37)) := (Kept.refl _ _).alloc _
      have hSA : Sep (BQ wr.heap.size (blkQ z)) (Sep (BX b X) (BQ qo (O4 X))) (fun k => w.heap.size ≤ k) (wr.alloc (.cells #[.int .i64 z.kind, .int .i64 z.fr, .int .i64 z.to, .int .i64 z.wh, .int .i64 z.ab] 37)) := Sep.fresh (N := BQ wr.heap.size (blkQ z)) (Sep.ok (BX.ok _ _) (BQ.ok _ _)) hS ⟨heap_alloc_new _ _, Nat.le_refl _⟩ kA (fun k h => Nat.le_trans hkr.size h)
      replace hSA := hSA.turn
      have hkrA := hkr.trans kA
      obtain ⟨e0, e1, e2, e3, e4⟩ := op5 (heap_alloc_new wr (blkQ z))
      obtain ⟨W1, hW1⟩ : ∃ W, W = wr.alloc (.cells #[.int .i64 z.kind, .int .i64 z.fr, .int .i64 z.to, .int .i64 z.wh, .int .i64 z.ab] 37) := ⟨_, rfl⟩
      rw [← hW1] at hSA hkrA
      have HW1 := Lib.hid hW1
      obtain ⟨qz, hqz⟩ : ∃ qz, qz = wr.heap.size := ⟨_, rfl⟩
      rw [← hqz] at hSA
      have Hqz := Lib.hid hqz
      clear hcl hz hS kA hW1 hqz
      by_cases hkd : z.kind = 2
      · rw [hkd] at e0
        obtain ⟨⟨⟨m, is⟩, X'⟩, htE⟩ : ∃ r, takeE X z.to = r := ⟨_, rfl⟩
        have hcall := Take_sep (Sep.ok (BQ.ok qz (blkQ z)) (BQ.ok qo (O4 X))) w.heap.size b X X' z.to m is W1 hSA hkrA.size hX4 Hsz.out htE
        have Hcall := Lib.hid hcall
        have Hca := Lib.hid (takeE_cases htE)
        clear hcall hSA htE
        go_wp2_with fail
        have hW2 := HW1.out
        rw [hkd] at hW2
        try rw [← hW2]
        clear hW2
        refine Hcall.out.mono ?_
        rintro e w3 ⟨rfl, hS3, hk3⟩
        have hkr3 := hkrA.new hk3 (fun i hi => hi)
        have hS4 := hS3.inr (Q' := BQ qo (O4 X)) (fun _ h => let ⟨_, _, _, g2, _, g4⟩ := h; (BQ.ok _ _).mono g2 g4)
        have kB : New w3 (w3.alloc (blkM m)) := (Kept.refl _ _).alloc _
        have hS5 := (Sep.ok (BX.ok _ _) (BQ.ok _ _)).kept hS4 kB (fun _ _ h => h)
        have hkr5 := hkr3.trans kB
        obtain ⟨t0, t1, t2⟩ := of3 (heap_alloc_new w3 (blkM m))
        clear hS3 hk3 Hcall hS4 hkr3 kB e0 e1 e2 e3 e4 HW1 Hqz
        rcases Hca.out with ⟨rfl, rfl, hXX⟩ | ⟨rfl, j, l, hzj, hLj, hXX⟩
        · have hI' := HI.out
          rw [← hXX] at hI' hS5
          have HI' := Lib.hid hI'
          clear hXX hI' Hca HI Hsz hX4
          go_wp2_with fail
          go_loopw [10] (fun p wr => ∃ c : Nat, c ≤ 4 ∧ p = .int .i64 c ∧ New w wr ∧ Sep (BX b X') (BQ qo (O4 X')) (fun k => w.heap.size ≤ k) wr) (fun p _ => 4 - (intOf p).toNat)
          case atStart => exact ⟨0, by omega, rfl, hkr5, hS5⟩
          case round =>
            clear hkr5 hS5
            obtain ⟨c, hc, rfl, hkr, hS⟩ := hrel
            have hX8 : X'.length ≤ 8 := by rw [HI'.out.four]; decide
            have Hsz' := Lib.hid HI'.out.size
            by_cases h5 : c < 4
            · have h5' : (c : Int) < 4 := by omega
              obtain ⟨q, hq⟩ : ∃ q, q = owedE X' (c : Int) := ⟨_, rfl⟩
              obtain ⟨_, hn⟩ := Sep.one hS
              obtain ⟨_, hq0⟩ := Sep.any hS
              have hd1 : New wr wr.drew := (Kept.refl _ _).drew
              have y0 := O4_at hq0.1 h5
              rw [← hq] at y0
              have y1 : wr.drew.cell? ⟨qo, c, none⟩ = some (.int .i64 (q : Int)) := y0
              have ho := owed_any b X' (c : Int) q wr.drew (Bs.same hn hd1) hX8 Hsz'.out hq
              have Ho := Lib.hid ho
              have HS := Lib.hid hS
              clear hq hn hq0 ho hS
              go_wp2_with fail
              go_region_held3 (fun W' => W'.cell? ⟨qo, c, none⟩ = some (.int .i64 (q : Int))) (first | with_reducible exact y1 | with_reducible exact y2)
                (first | (go_at_call 11; refine Ho.out.mono ?_; rintro e w7 ⟨rfl, hk7⟩; have hk8 := hd1.trans hk7; have y2 := cell_kept hk8 y0 (fun h => h)))
              have hS7 := (Sep.ok (BX.ok _ _) (BQ.ok _ _)).kept HS.out hk8 (fun _ _ h => h)
              have hkr7 := hkr.trans hk8
              clear hk8 hk7 y0 y1 y2 Ho HS
              go_wp2_with fail
              go_roundw
              case rel => exact ⟨c + 1, by omega, by go_num, hkr7, hS7⟩
              case measure => simp [intOf]; omega
            · obtain rfl : c = 4 := by omega
              go_wp2_with fail
              go_roundw
              case rel => exact ⟨k + 1, X', by omega, by omega, by go_num, HI'.out, hkr, hS⟩
              case measure => simp [intOf]; omega
        · have hI' := HI.out.take hLj
          obtain ⟨i, hfi, hi4⟩ := HI.out.fr j _ hLj m (by simp)
          obtain ⟨mf, mk, ma⟩ := m
          simp only at hfi
          subst hfi
          have hol := owed_less hLj
          have hbd := owedE_le (i : Int) 64 X Hsz.out
          rw [HI.out.four] at hbd
          obtain ⟨a, ha⟩ : ∃ a, a = owedE X (i : Int) := ⟨_, rfl⟩
          have hol1 := hol i
          rw [if_pos rfl, ← ha, ← hXX] at hol1
          rw [← ha] at hbd
          have hne : ∀ c : Nat, ¬ c = i → owedE X' (c : Int) = owedE X (c : Int) := fun c hc => by
            have h9 := hol c
            rw [if_neg hc, ← hXX] at h9
            exact h9
          rw [← hXX] at hI'
          have HI' := Lib.hid hI'
          have hwa : IntKind.i64.wrap ((a : Int) - 1) = ((a - 1 : Nat) : Int) := by rw [IntKind.wrap_i64]; omega
          have ha1 : a - 1 = owedE X' (i : Int) := by omega
          obtain ⟨_, hq0⟩ := Sep.any hS5
          have hq5 : _ = some (O4 X) := hq0.1
          have y0 := O4_at hq5 hi4
          rw [← ha] at y0
          have yf := free_blk hq5 i
          have Hput := Lib.hid (O4_put (t := a - 1) hq5 hi4 ha1 hne)
          have hi4' : (i : Int) < 4 := by omega
          have hi3 : ¬ (3 : Int) < (i : Int) := by omega
          have hi0 : ¬ (i : Int) < 0 := by omega
          have HS5 := Lib.hid hS5
          have kP : Kept (fun k => k = qo) (w3.alloc (blkM ⟨i, mk, ma⟩)) ((w3.alloc (blkM ⟨i, mk, ma⟩)).setCell ⟨qo, i, none⟩ (.int .i64 ((a - 1 : Nat) : Int))) := (Kept.refl (fun k => k = qo) _).setCell (.inr rfl) _
          have hqoo := lt_of_heap hq5
          clear hI' hol ha hol1 hne ha1 hq0 hq5 hXX Hca HI Hsz hX4 hLj hbd hS5
          go_wp2_with fail
          have hS6 : Sep (BX b X') (BQ qo (O4 X')) (fun k => w.heap.size ≤ k) ((w3.alloc (blkM ⟨i, mk, ma⟩)).setCell ⟨qo, i, none⟩ (.int .i64 ((a - 1 : Nat) : Int))) := by
            obtain ⟨O1, O2, g1, g2, g3, g4⟩ := HS5.out.swap
            exact (Sep.step (P' := BQ qo (O4 X')) (O := fun k => w.heap.size ≤ k) (O1 := O1) (BX.ok _ _) g2 g3 g4 ⟨Hput.out, .inl g1.2⟩ (kP.mono (fun k _ e => by rw [e]; exact g1.2)) (fun k h => Nat.le_trans hkr5.size h)).1.swap
          have hkr6 : New w ((w3.alloc (blkM ⟨i, mk, ma⟩)).setCell ⟨qo, i, none⟩ (.int .i64 ((a - 1 : Nat) : Int))) := hkr5.new kP (fun k e => by
            obtain ⟨O1, O2, g1, g2, g3, g4⟩ := HS5.out.swap
            rw [e]
            exact (g3 _ g1.2).1)
          go_loopw [10] (fun p wr => ∃ c : Nat, c ≤ 4 ∧ p = .int .i64 c ∧ New w wr ∧ Sep (BX b X') (BQ qo (O4 X')) (fun k => w.heap.size ≤ k) wr) (fun p _ => 4 - (intOf p).toNat)
          case atStart => exact ⟨0, by omega, rfl, hkr6, hS6⟩
          case round =>
            clear hkr6 hS6
            obtain ⟨c, hc, rfl, hkr, hS⟩ := hrel
            have hX8 : X'.length ≤ 8 := by rw [HI'.out.four]; decide
            have Hsz' := Lib.hid HI'.out.size
            by_cases h5 : c < 4
            · have h5' : (c : Int) < 4 := by omega
              obtain ⟨q, hq⟩ : ∃ q, q = owedE X' (c : Int) := ⟨_, rfl⟩
              obtain ⟨_, hn⟩ := Sep.one hS
              obtain ⟨_, hq0⟩ := Sep.any hS
              have hd1 : New wr wr.drew := (Kept.refl _ _).drew
              have y0 := O4_at hq0.1 h5
              rw [← hq] at y0
              have y1 : wr.drew.cell? ⟨qo, c, none⟩ = some (.int .i64 (q : Int)) := y0
              have ho := owed_any b X' (c : Int) q wr.drew (Bs.same hn hd1) hX8 Hsz'.out hq
              have Ho := Lib.hid ho
              have HS := Lib.hid hS
              clear hq hn hq0 ho hS
              go_wp2_with fail
              go_region_held3 (fun W' => W'.cell? ⟨qo, c, none⟩ = some (.int .i64 (q : Int))) (first | with_reducible exact y1 | with_reducible exact y2)
                (first | (go_at_call 11; refine Ho.out.mono ?_; rintro e w7 ⟨rfl, hk7⟩; have hk8 := hd1.trans hk7; have y2 := cell_kept hk8 y0 (fun h => h)))
              have hS7 := (Sep.ok (BX.ok _ _) (BQ.ok _ _)).kept HS.out hk8 (fun _ _ h => h)
              have hkr7 := hkr.trans hk8
              clear hk8 hk7 y0 y1 y2 Ho HS
              go_wp2_with fail
              go_roundw
              case rel => exact ⟨c + 1, by omega, by go_num, hkr7, hS7⟩
              case measure => simp [intOf]; omega
            · obtain rfl : c = 4 := by omega
              go_wp2_with fail
              go_roundw
              case rel => exact ⟨k + 1, X', by omega, by omega, by go_num, HI'.out, hkr, hS⟩
              case measure => simp [intOf]; omega
      · have hkb : (z.kind == 2) = false := by simpa using hkd
        obtain ⟨⟨er, X'⟩, hsE⟩ : ∃ r, sendE X z.fr z.to z.wh z.ab = r := ⟨_, rfl⟩
        have hcall := Send_sep (Sep.ok (BQ.ok qz (blkQ z)) (BQ.ok qo (O4 X))) w.heap.size b X X' z.fr z.to z.wh z.ab er W1 hSA hkrA.size hX4 Hsz.out hsE
        have Hcall := Lib.hid hcall
        have Hca := Lib.hid (sendE_cases hsE)
        clear hcall hSA hsE
        go_wp2_with fail
        have hW2 := HW1.out
        try rw [← hW2]
        try rw [← Hqz.out]
        clear hW2
        refine Hcall.out.mono ?_
        rintro e w3 ⟨rfl, hS3, hk3⟩
        have hkr3 := hkrA.new hk3 (fun i hi => hi)
        have hS4 := hS3.inr (Q' := BQ qo (O4 X)) (fun _ h => let ⟨_, _, _, g2, _, g4⟩ := h; (BQ.ok _ _).mono g2 g4)
        obtain ⟨_, hz0⟩ := Sep.any hS3
        obtain ⟨_, hz0⟩ := Sep.one hz0
        have hz1 : w3.heap[qz]? = some (blkQ z) := hz0.1
        clear e0 e1 e2 e3 e4
        obtain ⟨e0, e1, e2, e3, e4⟩ := op5 hz1
        clear hS3 hk3 Hcall HW1 Hqz hz0 hz1
        rcases Hca.out with ⟨h9, hXX⟩ | ⟨rfl, i, j, hfi, htj, hi4, hj, hij, M, hLj, hM64, hXX⟩
        · have hI' := HI.out
          rw [← hXX] at hI' hS4
          have HI' := Lib.hid hI'
          have her : (er == 0) = false := by rcases h9 with rfl | rfl | rfl <;> decide
          clear hXX hI' Hca HI Hsz hX4 h9
          go_wp2_with fail
          go_loopw [10] (fun p wr => ∃ c : Nat, c ≤ 4 ∧ p = .int .i64 c ∧ New w wr ∧ Sep (BX b X') (BQ qo (O4 X')) (fun k => w.heap.size ≤ k) wr) (fun p _ => 4 - (intOf p).toNat)
          case atStart => exact ⟨0, by omega, rfl, hkr3, hS4⟩
          case round =>
            clear hkr3 hS4
            obtain ⟨c, hc, rfl, hkr, hS⟩ := hrel
            have hX8 : X'.length ≤ 8 := by rw [HI'.out.four]; decide
            have Hsz' := Lib.hid HI'.out.size
            by_cases h5 : c < 4
            · have h5' : (c : Int) < 4 := by omega
              obtain ⟨q, hq⟩ : ∃ q, q = owedE X' (c : Int) := ⟨_, rfl⟩
              obtain ⟨_, hn⟩ := Sep.one hS
              obtain ⟨_, hq0⟩ := Sep.any hS
              have hd1 : New wr wr.drew := (Kept.refl _ _).drew
              have y0 := O4_at hq0.1 h5
              rw [← hq] at y0
              have y1 : wr.drew.cell? ⟨qo, c, none⟩ = some (.int .i64 (q : Int)) := y0
              have ho := owed_any b X' (c : Int) q wr.drew (Bs.same hn hd1) hX8 Hsz'.out hq
              have Ho := Lib.hid ho
              have HS := Lib.hid hS
              clear hq hn hq0 ho hS
              go_wp2_with fail
              go_region_held3 (fun W' => W'.cell? ⟨qo, c, none⟩ = some (.int .i64 (q : Int))) (first | with_reducible exact y1 | with_reducible exact y2)
                (first | (go_at_call 11; refine Ho.out.mono ?_; rintro e w7 ⟨rfl, hk7⟩; have hk8 := hd1.trans hk7; have y2 := cell_kept hk8 y0 (fun h => h)))
              have hS7 := (Sep.ok (BX.ok _ _) (BQ.ok _ _)).kept HS.out hk8 (fun _ _ h => h)
              have hkr7 := hkr.trans hk8
              clear hk8 hk7 y0 y1 y2 Ho HS
              go_wp2_with fail
              go_roundw
              case rel => exact ⟨c + 1, by omega, by go_num, hkr7, hS7⟩
              case measure => simp [intOf]; omega
            · obtain rfl : c = 4 := by omega
              go_wp2_with fail
              go_roundw
              case rel => exact ⟨k + 1, X', by omega, by omega, by go_num, HI'.out, hkr, hS⟩
              case measure => simp [intOf]; omega
        · rw [HI.out.four] at hi4
          have hI' := HI.out.put (i := i) (k := z.wh) (a := z.ab) hLj hM64 hi4
          rw [hfi] at hXX e1
          have hol := owed_put (i := i) (k := z.wh) (a := z.ab) hLj
          have hbd := owedE_le (i : Int) 64 X Hsz.out
          rw [HI.out.four] at hbd
          obtain ⟨a, ha⟩ : ∃ a, a = owedE X (i : Int) := ⟨_, rfl⟩
          have hol1 := hol i
          rw [if_pos rfl, ← ha, ← hXX] at hol1
          rw [← ha] at hbd
          have hne : ∀ c : Nat, ¬ c = i → owedE X' (c : Int) = owedE X (c : Int) := fun c hc => by
            have h9 := hol c
            rw [if_neg hc, ← hXX] at h9
            exact h9
          rw [← hXX] at hI'
          have HI' := Lib.hid hI'
          have hwa : IntKind.i64.wrap ((a : Int) + 1) = ((a + 1 : Nat) : Int) := by rw [IntKind.wrap_i64]; omega
          have ha1 : a + 1 = owedE X' (i : Int) := by omega
          obtain ⟨_, hq0⟩ := Sep.any hS4
          have hq5 : w3.heap[qo]? = some (O4 X) := hq0.1
          have y0 := O4_at hq5 hi4
          rw [← ha] at y0
          have yf := free_blk hq5 i
          have Hput := Lib.hid (O4_put (t := a + 1) hq5 hi4 ha1 hne)
          have hi4' : (i : Int) < 4 := by omega
          have hi3 : ¬ (3 : Int) < (i : Int) := by omega
          have hi0 : ¬ (i : Int) < 0 := by omega
          have HS5 := Lib.hid hS4
          have kP : Kept (fun k => k = qo) w3 (w3.setCell ⟨qo, i, none⟩ (.int .i64 ((a + 1 : Nat) : Int))) := (Kept.refl (fun k => k = qo) _).setCell (.inr rfl) _
          have hqoo := lt_of_heap hq5
          clear hI' hol ha hol1 hne ha1 hq0 hq5 hXX Hca HI Hsz hX4 hLj hbd hS4 hfi htj hj hij hM64
          go_wp2_with fail
          have hS6 : Sep (BX b X') (BQ qo (O4 X')) (fun k => w.heap.size ≤ k) (w3.setCell ⟨qo, i, none⟩ (.int .i64 ((a + 1 : Nat) : Int))) := by
            obtain ⟨O1, O2, g1, g2, g3, g4⟩ := HS5.out.swap
            exact (Sep.step (P' := BQ qo (O4 X')) (O := fun k => w.heap.size ≤ k) (O1 := O1) (BX.ok _ _) g2 g3 g4 ⟨Hput.out, .inl g1.2⟩ (kP.mono (fun k _ e => by rw [e]; exact g1.2)) (fun k h => Nat.le_trans hkr3.size h)).1.swap
          have hkr6 : New w (w3.setCell ⟨qo, i, none⟩ (.int .i64 ((a + 1 : Nat) : Int))) := hkr3.new kP (fun k e => by
            obtain ⟨O1, O2, g1, g2, g3, g4⟩ := HS5.out.swap
            rw [e]
            exact (g3 _ g1.2).1)
          go_loopw [10] (fun p wr => ∃ c : Nat, c ≤ 4 ∧ p = .int .i64 c ∧ New w wr ∧ Sep (BX b X') (BQ qo (O4 X')) (fun k => w.heap.size ≤ k) wr) (fun p _ => 4 - (intOf p).toNat)
          case atStart => exact ⟨0, by omega, rfl, hkr6, hS6⟩
          case round =>
            clear hkr6 hS6
            obtain ⟨c, hc, rfl, hkr, hS⟩ := hrel
            have hX8 : X'.length ≤ 8 := by rw [HI'.out.four]; decide
            have Hsz' := Lib.hid HI'.out.size
            by_cases h5 : c < 4
            · have h5' : (c : Int) < 4 := by omega
              obtain ⟨q, hq⟩ : ∃ q, q = owedE X' (c : Int) := ⟨_, rfl⟩
              obtain ⟨_, hn⟩ := Sep.one hS
              obtain ⟨_, hq0⟩ := Sep.any hS
              have hd1 : New wr wr.drew := (Kept.refl _ _).drew
              have y0 := O4_at hq0.1 h5
              rw [← hq] at y0
              have y1 : wr.drew.cell? ⟨qo, c, none⟩ = some (.int .i64 (q : Int)) := y0
              have ho := owed_any b X' (c : Int) q wr.drew (Bs.same hn hd1) hX8 Hsz'.out hq
              have Ho := Lib.hid ho
              have HS := Lib.hid hS
              clear hq hn hq0 ho hS
              go_wp2_with fail
              go_region_held3 (fun W' => W'.cell? ⟨qo, c, none⟩ = some (.int .i64 (q : Int))) (first | with_reducible exact y1 | with_reducible exact y2)
                (first | (go_at_call 11; refine Ho.out.mono ?_; rintro e w7 ⟨rfl, hk7⟩; have hk8 := hd1.trans hk7; have y2 := cell_kept hk8 y0 (fun h => h)))
              have hS7 := (Sep.ok (BX.ok _ _) (BQ.ok _ _)).kept HS.out hk8 (fun _ _ h => h)
              have hkr7 := hkr.trans hk8
              clear hk8 hk7 y0 y1 y2 Ho HS
              go_wp2_with fail
              go_roundw
              case rel => exact ⟨c + 1, by omega, by go_num, hkr7, hS7⟩
              case measure => simp [intOf]; omega
            · obtain rfl : c = 4 := by omega
              go_wp2_with fail
              go_roundw
              case rel => exact ⟨k + 1, X', by omega, by omega, by go_num, HI'.out, hkr, hS⟩
              case measure => simp [intOf]; omega
    · by_cases h3 : k < len
      · have h2' : ¬ ((k : Int) < 60) := by omega
        go_wp2_with fail
        refine (fixed_any _).mono ?_
        rintro e w11 ⟨rfl, hk11⟩
        go_wp2_with fail
        go_ret
        exact ⟨rfl, none_below (hkr.trans hk11)⟩
      · have h3' : ¬ ((k : Int) < len) := by omega
        go_wp2_with fail
        refine (fixed_any _).mono ?_
        rintro e w11 ⟨rfl, hk11⟩
        go_wp2_with fail
        go_ret
        exact ⟨rfl, none_below (hkr.trans hk11)⟩
end Go.Proofs.Ytfdnmgebpfopjaa

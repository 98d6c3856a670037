/- The walk of the law EndpointOrder. -/
import Derived.Test.YtanongcaokldmaaEndL
import Derived.Deep.DeepCutAuto
set_option linter.all false
namespace Go.Proofs.Ytanongcaokldmaa
open Go.RowKit

theorem PQ.made (w : World) : PQ (.slice (some ⟨w.heap.size, 0, none⟩) 0 0) [] (fun k => w.heap.size ≤ k) (w.alloc (.cells #[] 30)) := by
  have h : (w.alloc (.cells #[] 30)).ownsRow w.heap.size 30 10 (.slice (some ⟨w.heap.size, 0, none⟩) 0 0) 0 [] := World.ownsRow_made w #[] 0 (Nat.le_refl _) (by unfold maxLen; omega) rfl
  exact ⟨own_mono h (Nat.zero_le _), fun k hk => own_block h hk⟩
/-- One more call behind a slice that lies beside other things. -/
theorem Sep.pushP {Q : Thing} (hQ : Q.Ok) {n0 m : Nat} {v v' : Value} {L : List Opr} {z : Opr} {w w1 w' : World} (hS : Sep (PQ v L) Q (fun k => n0 ≤ k) w) (hn : n0 ≤ w.heap.size) (k1 : New w w1) (hm : m = L.length + 1) (hown : w'.ownsRow 0 30 10 v' m (L.flatMap encP ++ encP z)) (hgr : w1.grownBy w' v.ownBlock) (hid : ∀ k, v'.ownBlock = some k → v.ownBlock = some k ∨ w1.heap.size ≤ k) :
    Sep (PQ v' (L ++ [z])) Q (fun k => n0 ≤ k) w' ∧ Kept (fun k => n0 ≤ k) w w' := by
  obtain ⟨O1, O2, ⟨h1, hb⟩, h2, h3, h4⟩ := hS
  have hkg : Kept O1 w1 w' := (Kept.of_grown hgr).mono (fun i _ h => hb i h)
  subst hm
  have hl : (L ++ [z]).length = L.length + 1 := by simp
  have he : (L ++ [z]).flatMap encP = L.flatMap encP ++ encP z := by simp
  obtain ⟨hS1, hk⟩ := Sep.step (P' := PQ v' (L ++ [z])) (O := fun k => n0 ≤ k) hQ (hQ.kept h2 k1 (fun _ _ h => h)) h3 h4 ⟨by rw [hl, he]; exact hown, fun k hk => (hid k hk).imp (fun h => hb k h) id⟩ hkg (fun k h => Nat.le_trans hn (Nat.le_trans k1.size h))
  exact ⟨hS1, (k1.mono (fun _ _ h => h.elim)).trans hk⟩
/-- Each call's caller once. -/
def OnceP (L : List Opr) : Prop := (L.map (fun z => z.x.who)).Nodup
theorem OnceP.snoc {L : List Opr} {z : Opr} (h : OnceP L) (hz : inP L z.x.who = false) : OnceP (L ++ [z]) := by
  unfold OnceP at h ⊢
  rw [List.map_append, List.nodup_append]
  refine ⟨h, by simp, ?_⟩
  intro a ha c hc
  simp only [List.map_cons, List.map_nil, List.mem_singleton] at hc
  subst hc
  rintro rfl
  obtain ⟨y, hy, hyx⟩ := List.mem_map.1 ha
  have : inP L z.x.who = true := by
    unfold inP
    rw [List.any_eq_true]
    exact ⟨y, hy, by simp [hyx]⟩
  rw [this] at hz; cases hz
theorem lineO_new {L : List Opr} {z : Opr} (h : inP L z.x.who = false) : lineO L z = L ++ [z] := by unfold lineO; rw [if_neg (by rw [h]; decide)]
theorem lineO_old {L : List Opr} {z : Opr} (h : inP L z.x.who = true) : lineO L z = L := by unfold lineO; rw [if_pos h]
theorem dropP_at {L : List Opr} {i : Nat} {x : Opr} (h : L[i]? = some x) : L.drop i = x :: L.drop (i + 1) := by
  obtain ⟨h1, h2⟩ := List.getElem?_eq_some_iff.1 h
  rw [List.drop_eq_getElem_cons h1, h2]
/-- How many come at or behind a number. -/
def ahead (L : List Opr) (who : Int) : Nat := (L.filter (fun z => decide (who ≤ z.x.who))).length
theorem ahead_le (L : List Opr) (who : Int) : ahead L who ≤ L.length := List.length_filter_le _ _
theorem ahead_less : ∀ {L : List Opr} {who : Int}, inP L who = true → ahead L (who + 1) < ahead L who
  | [], who, h => by simp [inP] at h
  | z :: L, who, h => by
    have hmono : ∀ L : List Opr, ahead L (who + 1) ≤ ahead L who := by
      intro L
      unfold ahead
      induction L with
      | nil => simp
      | cons a L ih =>
        rw [List.filter_cons, List.filter_cons]
        by_cases h1 : who + 1 ≤ a.x.who
        · rw [if_pos (by simpa using h1), if_pos (by simp; omega)]
          simpa using ih
        · rw [if_neg (by simpa using h1)]
          split
          · simp; omega
          · exact ih
    unfold ahead at hmono ⊢
    rw [List.filter_cons, List.filter_cons]
    by_cases h2 : z.x.who = who
    · rw [if_neg (by simp; omega), if_pos (by simp; omega)]
      have := hmono L
      simp only [List.length_cons]
      omega
    · have h3 : inP L who = true := by
        unfold inP at h ⊢
        rw [List.any_cons] at h
        simpa [h2] using h
      have h4 := ahead_less h3
      unfold ahead at h4
      by_cases h1 : who + 1 ≤ z.x.who
      · rw [if_pos (by simpa using h1), if_pos (by simp; omega)]
        simp only [List.length_cons]
        omega
      · rw [if_neg (by simpa using h1)]
        split
        · simp only [List.length_cons]; omega
        · exact h4

set_option maxRecDepth 100000 in
set_option maxHeartbeats 16000000 in
theorem walkEndpointOrder (w : World) (v : Value) (rows : List (List Value)) (hs : Src w v rows.length 10 rows.flatten) (hr : ∀ x ∈ rows, FlatOk [.int .i64, .int .i64, .int .i64, .int .u64, .int .u64, .int .u64, .int .u64, .int .u64, .bool, .bool] x) (hm : rows.length ≤ maxLen) :
    Calls Try.prog 4 #[v] w fun e w' => e = .returned (.bool true) ∧ Below w.heap.size w w' := by
  obtain ⟨L, hfl, hll, -⟩ := ops_of_rows hr
  rw [hfl] at hs
  obtain ⟨len, hlen⟩ : ∃ len, len = rows.length := ⟨_, rfl⟩
  rw [← hlen] at hs hm hll
  clear hr hfl hlen
  have Hs := Lib.hid hs
  obtain ⟨-, ao, c, rfl, hcells⟩ := Src.ops hs
  have Hll := Lib.hid hll
  have hlenm : len ≤ 9223372036854775807 := by have : maxLen = 9223372036854775807 := rfl; omega
  clear hs hll hcells hm
  go_enter Try.func4, Try.ntmps4
  go_wp2_with fail
  refine (new_any w).mono ?_
  rintro e w1 ⟨rfl, hN, hk1⟩
  obtain ⟨b, hb⟩ : ∃ b, b = w.heap.size := ⟨_, rfl⟩
  rw [← hb] at hN ⊢
  have Hb := Lib.hid hb
  clear hb
  have kA : New w1 (w1.alloc (.cells #[] 30)) := (Kept.refl _ _).alloc _
  have hS1 := Sep.fresh (O := fun k => w.heap.size ≤ k) (N := PQ (.slice (some ⟨w1.heap.size, 0, none⟩) 0 0) []) (EP.ok b false []) (show EP b false [] (fun k => w.heap.size ≤ k) w1 from hN.mono (fun k hk => by have := Hb.out; omega)) (PQ.made w1) kA (fun k hk => Nat.le_trans hk1.size hk)
  have hk2 := hk1.trans kA
  replace hS1 := hS1.swap
  clear hN hk1 kA
  go_wp2_with fail
  go_loopw [4, 5] (fun v4 i wr => ∃ (k : Nat) (In : List Opr) (aw : Option Addr) (cw : Nat), k ≤ 30 ∧ k ≤ len ∧ v4 = .slice aw In.length cw ∧ i = .int .i64 k ∧ In.length ≤ k ∧ Hid (OnceP In) ∧ New w wr ∧ Sep (EP b (decide (0 < In.length)) (In.map Opr.x)) (PQ (.slice aw In.length cw) In) (fun k => w.heap.size ≤ k) wr) (fun _ i _ => 30 - (intOf i).toNat)
  case atStart => exact ⟨0, [], _, _, by omega, by omega, rfl, rfl, by simp, by simp [Hid, OnceP], hk2, hS1⟩
  case round =>
    clear hS1 hk2
    obtain ⟨k, In, aw, cw, hk6, hk, rfl, rfl, hMk, hon, hkr, hS⟩ := hrel
    obtain ⟨nw, hnw⟩ : ∃ nw, nw = In.length := ⟨_, rfl⟩
    have hL9 : In.length ≤ 1000 := by omega
    rw [← hnw]
    have hnw30 : nw ≤ 30 := by omega
    have hE := fun (z : Opr) (er : Int) (he : er = if inP In z.x.who then 110 else 0) => sendE_in In z er he
    have HE := Lib.hid hE
    have hS0 : Sep (EP b (decide (0 < In.length)) (In.map Opr.x)) (PQ (.slice aw nw cw) In) (fun k => w.heap.size ≤ k) wr := by rw [hnw]; exact hS
    have Hnw := Lib.hid hnw
    clear hnw hS hE
    by_cases h1 : k < len ∧ k < 30
    · obtain ⟨h1, h2⟩ := h1
      have h2' : (k : Int) < 30 := by omega
      obtain ⟨z, hz⟩ : ∃ z, L[k]? = some z := ⟨_, List.getElem?_eq_getElem (by have := Hll.out; omega)⟩
      obtain ⟨ao', c', he, hcl⟩ := (Src.ops Hs.out).2
      cases he
      obtain ⟨B, Of, rfl, c0, c1, c2, c3, c4, c5, c6, c7, c8, c9⟩ := hcl k z hz
      have hsk0 : ∀ W', New w W' → W'.cell? ⟨B, Of + k * 10, none⟩ = some (.int .i64 z.kind) ∧ W'.cell? ⟨B, Of + k * 10 + 1, none⟩ = some (.int .i64 z.x.who) ∧ W'.cell? ⟨B, Of + k * 10 + 2, none⟩ = some (.int .i64 z.x.la) ∧ W'.cell? ⟨B, Of + k * 10 + 3, none⟩ = some (.int .u64 z.x.w0) ∧ W'.cell? ⟨B, Of + k * 10 + 4, none⟩ = some (.int .u64 z.x.w1) ∧ W'.cell? ⟨B, Of + k * 10 + 5, none⟩ = some (.int .u64 z.x.w2) ∧ W'.cell? ⟨B, Of + k * 10 + 6, none⟩ = some (.int .u64 z.x.w3) ∧ W'.cell? ⟨B, Of + k * 10 + 7, none⟩ = some (.int .u64 z.x.bg) ∧ W'.cell? ⟨B, Of + k * 10 + 8, none⟩ = some (.bool z.x.ca) ∧ W'.cell? ⟨B, Of + k * 10 + 9, none⟩ = some (.bool z.wa) := fun W' hk => ⟨cell_kept hk c0 (fun h => h), cell_kept hk c1 (fun h => h), cell_kept hk c2 (fun h => h), cell_kept hk c3 (fun h => h), cell_kept hk c4 (fun h => h), cell_kept hk c5 (fun h => h), cell_kept hk c6 (fun h => h), cell_kept hk c7 (fun h => h), cell_kept hk c8 (fun h => h), cell_kept hk c9 (fun h => h)⟩
      have hsk : ∀ W', New w W' → W'.cell? ⟨B, Of + k * 10 + 1, none⟩ = some (.int .i64 z.x.who) ∧ W'.cell? ⟨B, Of + k * 10 + 2, none⟩ = some (.int .i64 z.x.la) ∧ W'.cell? ⟨B, Of + k * 10 + 3, none⟩ = some (.int .u64 z.x.w0) ∧ W'.cell? ⟨B, Of + k * 10 + 4, none⟩ = some (.int .u64 z.x.w1) ∧ W'.cell? ⟨B, Of + k * 10 + 5, none⟩ = some (.int .u64 z.x.w2) ∧ W'.cell? ⟨B, Of + k * 10 + 6, none⟩ = some (.int .u64 z.x.w3) ∧ W'.cell? ⟨B, Of + k * 10 + 7, none⟩ = some (.int .u64 z.x.bg) ∧ W'.cell? ⟨B, Of + k * 10 + 8, none⟩ = some (.bool z.x.ca) := fun W' hk => ⟨cell_kept hk c1 (fun h => h), cell_kept hk c2 (fun h => h), cell_kept hk c3 (fun h => h), cell_kept hk c4 (fun h => h), cell_kept hk c5 (fun h => h), cell_kept hk c6 (fun h => h), cell_kept hk c7 (fun h => h), cell_kept hk c8 (fun h => h)⟩
      have Hsk := Lib.hid hsk
      have Hsk0 := Lib.hid hsk0
      obtain ⟨er, her⟩ : ∃ er : Int, er = if inP In z.x.who then 110 else 0 := ⟨_, rfl⟩
      have hcall := fun (W' : World) (hk : New wr W') => send_sep3 (PQ.ok (.slice aw nw cw) In) w.heap.size b _ _ true false (In.map Opr.x) ((lineO In z).map Opr.x) z.x on0 0 0 er wr hS0 hkr.size (by rw [List.length_map]; exact hL9) (HE.out z er her) W' hk
      have Hcall := Lib.hid hcall
      have Her := Lib.hid her
      have hlM := lineO_length In z
      clear hcl hz c0 c1 c2 c3 c4 c5 c6 c7 c8 c9 hS0 hsk hsk0 hcall her
      have hd1 : New wr wr.drew := (Kept.refl _ _).drew
      have hdB : New wr (wr.alloc (.cells #[.bool false, .int .i64 0, .int .i64 0, .int .i64 0, .int .u64 0, .int .u64 0, .int .u64 0, .int .u64 0, .int .u64 0, .bool false] 35)).drew := ((Kept.refl _ _).alloc _).drew
      have hbz : (wr.alloc (.cells #[.bool false, .int .i64 0, .int .i64 0, .int .i64 0, .int .u64 0, .int .u64 0, .int .u64 0, .int .u64 0, .int .u64 0, .bool false] 35)).drew.heap[wr.heap.size]? = some (blkT false 0 0 on0) := heap_alloc_new wr _
      have hkrd := hkr.trans hd1
      have hkrB := hkr.trans hdB
      go_upto_region 8 with fail
      go_cut [7] (fun s9 wx => s9 = .int .i64 er ∧ New w wx ∧ Hid (Sep (EP b (decide (0 < (lineO In z).length)) ((lineO In z).map Opr.x)) (PQ (.slice aw nw cw) In) (fun k => w.heap.size ≤ k) wx))
      case first =>
        go_region_held3 (fun W' => W'.cell? ⟨B, Of + k * 10 + 1, none⟩ = some (.int .i64 z.x.who) ∧ W'.cell? ⟨B, Of + k * 10 + 2, none⟩ = some (.int .i64 z.x.la) ∧ W'.cell? ⟨B, Of + k * 10 + 3, none⟩ = some (.int .u64 z.x.w0) ∧ W'.cell? ⟨B, Of + k * 10 + 4, none⟩ = some (.int .u64 z.x.w1) ∧ W'.cell? ⟨B, Of + k * 10 + 5, none⟩ = some (.int .u64 z.x.w2) ∧ W'.cell? ⟨B, Of + k * 10 + 6, none⟩ = some (.int .u64 z.x.w3) ∧ W'.cell? ⟨B, Of + k * 10 + 7, none⟩ = some (.int .u64 z.x.bg) ∧ W'.cell? ⟨B, Of + k * 10 + 8, none⟩ = some (.bool z.x.ca)) ((refine Hsk.out _ ?_; (first | with_reducible exact hkrd | with_reducible exact hkrB | with_reducible exact hkA | with_reducible exact hkA1 | with_reducible exact hkB | with_reducible exact hkB1)))
          (first
            | (go_at_call 12; with_reducible refine (Hcall.out _ hd1).mono ?_; rintro e w4 ⟨he, hS4, hk4⟩; simp only [metV, on0] at he; subst he; have hkA := hkrd.new hk4 (fun i hi => hi.1); have hkA1 : New w (w4.alloc (.cells #[.bool false, .int .i64 0, .int .i64 0, .int .i64 0, .int .u64 0, .int .u64 0, .int .u64 0, .int .u64 0, .int .u64 0, .bool false] 35)) := hkA.alloc _)
            | (go_at_call 12; with_reducible refine (Hcall.out _ hdB).mono ?_; rintro e w4 ⟨he, hS4, hk4⟩; simp only [metV, on0] at he; subst he; have hkB := hkrB.new hk4 (fun i hi => hi.1); obtain ⟨z0, y0, z1, y1, z2, y2, z3, y3, z4, y4, z5, y5, z6, y6, z7, y7, z8, y8, z9, y9⟩ := of10 (hk4.heap hbz (fun h => absurd h.2 (Nat.lt_irrefl _))); have hkB1 : New w ((((((((((w4.setCell ⟨wr.heap.size, 0, none⟩ (.bool false)).setCell ⟨wr.heap.size, 1, none⟩ (.int .i64 0)).setCell ⟨wr.heap.size, 2, none⟩ (.int .i64 0)).setCell ⟨wr.heap.size, 3, none⟩ (.int .i64 0)).setCell ⟨wr.heap.size, 4, none⟩ (.int .u64 0)).setCell ⟨wr.heap.size, 5, none⟩ (.int .u64 0)).setCell ⟨wr.heap.size, 6, none⟩ (.int .u64 0)).setCell ⟨wr.heap.size, 7, none⟩ (.int .u64 0)).setCell ⟨wr.heap.size, 8, none⟩ (.int .u64 0)).setCell ⟨wr.heap.size, 9, none⟩ (.bool false)) := hkB.trans' (ten_kept w4 wr.heap.size _ _ _ _ _ _ _ _ _ _) (fun i hi e => absurd hi (by rw [e]; have := hkr.size; omega))))
        all_goals go_wp2_with fail
        all_goals go_meet
        · exact ⟨rfl, hkA1, (Sep.ok (EP.ok _ _ _) (PQ.ok _ _)).mono ((Sep.ok (EP.ok _ _ _) (PQ.ok _ _)).kept hS4 ((Kept.refl (fun _ => False) w4).alloc _) (fun _ _ h => h)) (fun _ h => h.1)⟩
        · exact ⟨rfl, hkB1, (Sep.ok (EP.ok _ _ _) (PQ.ok _ _)).mono ((Sep.ok (EP.ok _ _ _) (PQ.ok _ _)).kept hS4 (ten_kept w4 wr.heap.size _ _ _ _ _ _ _ _ _ _) (fun i h e => by have h2 := h.2; have h3 : ((wr.alloc (.cells #[.bool false, .int .i64 0, .int .i64 0, .int .i64 0, .int .u64 0, .int .u64 0, .int .u64 0, .int .u64 0, .int .u64 0, .bool false] 35)).drew).heap.size = wr.heap.size + 1 := Array.size_push ..; rw [h3] at h2; omega)) (fun _ h => h.1)⟩
      case rest =>
        obtain ⟨rfl, hkc, HS⟩ := hcut
        obtain ⟨e0, e1, e2, e3, e4, e5, e6, e7, e8, e9⟩ := Hsk0.out wc hkc
        cases hm : inP In z.x.who with
        | true =>
          have her : er = 110 := by rw [Her.out, if_pos hm]
          rw [lineO_old hm] at HS
          subst her
          clear hm e0 e1 e2 e3 e4 e5 e6 e7 e8 e9
          go_wp2_with fail
          go_roundw
          case rel => exact ⟨k + 1, In, aw, cw, by omega, by omega, by rw [← Hnw.out], by go_num, by omega, hon, hkc, by have h9 := HS.out; rw [Hnw.out] at h9; exact h9⟩
          case measure => simp [intOf]; omega
        | false =>
          have her : er = 0 := by rw [Her.out, hm]; rfl
          have hon' := Lib.hid (OnceP.snoc hon.out hm)
          rw [lineO_new hm] at HS hlM
          subst her
          have kL : New wc (wc.alloc (blkP z)) := (Kept.refl _ _).alloc _
          have hSL := (Sep.ok (EP.ok _ _ _) (PQ.ok _ _)).kept HS.out kL (fun _ _ h => h)
          obtain ⟨_, q1⟩ := Sep.any hSL
          have o6 := q1.1
          rw [← Hnw.out] at o6
          have O6 := Lib.hid o6
          have Hlit := Lib.hid (Src.lit wc #[.int .i64 z.kind, .int .i64 z.x.who, .int .i64 z.x.la, .int .u64 z.x.w0, .int .u64 z.x.w1, .int .u64 z.x.w2, .int .u64 z.x.w3, .int .u64 z.x.bg, .bool z.x.ca, .bool z.wa] 30 1 10 rfl)
          obtain ⟨i30, hi, hz0, hz1, hz2⟩ := info_parts info30
          have hnwr : w.heap.size ≤ wc.heap.size := hkc.size
          have Hkc := Lib.hid hkc
          clear hm q1 o6 hSL Hsk Hsk0
          go_wp2_with (at_builtin; refine wpList_append_src2 rfl _ _ 22 rfl 0 30 i30 (.agg (encP ⟨0, on0, false⟩).toArray) 10 80 Try.underlying22 hi hz0 hz1 hz2 rfl (by decide) (.slice aw nw cw) nw (In.flatMap encP) rfl O6.out _ 1 _ rfl Hlit.out (encP_one z) (by unfold maxLen; omega) (by omega) (by simp) ?_; intro v' w5 hown' hgr hid; obtain ⟨ao5, c5, hv5, _⟩ := Src.of_own hown'; rw [hv5])
          obtain ⟨hS5, hk5⟩ := Sep.pushP (EP.ok _ _ _) HS.out.swap hnwr kL (by rw [← Hnw.out]) hown' hgr hid
          have hkr5 := Hkc.out.new hk5 (fun i hi => hi)
          rw [hv5] at hS5
          have l1 : (In ++ [z]).length = nw + 1 := by rw [List.length_append, ← Hnw.out]; rfl
          have L1 := Lib.hid l1
          clear l1
          go_roundw
          case rel => exact ⟨k + 1, In ++ [z], ao5, c5, by omega, by omega, by rw [L1.out], by go_num, by omega, hon', hkr5, by rw [L1.out]; rw [L1.out] at hS5; exact hS5.swap⟩
          case measure => simp [intOf]; omega
    · by_cases h3 : k < len
      · have h2' : ¬ ((k : Int) < 30) := by omega
        obtain ⟨sd, hsd⟩ : ∃ sd, sd = decide (0 < In.length) := ⟨_, rfl⟩
        rw [← hsd] at hS0
        have hsdP : 0 < nw → sd = true := fun h => by
          rw [hsd]
          have := Hnw.out
          simp only [decide_eq_true_eq]
          omega
        have HsdP := Lib.hid hsdP
        have hcap : nw ≤ cw := by
          obtain ⟨_, q1⟩ := Sep.any hS0
          have h9 := q1.1
          rw [← Hnw.out] at h9
          exact own_cap h9 rfl
        clear hsd hsdP HE
        have hS1 : Sep (EP b sd ((In.drop 0).map Opr.x)) (PQ (.slice aw nw cw) In) (fun k => w.heap.size ≤ k) wr := hS0
        clear hS0
        go_wp2_with fail
        go_loopw [8] (fun i wr => ∃ j : Nat, j ≤ nw ∧ i = .int .i64 j ∧ New w wr ∧ Sep (EP b sd ((In.drop j).map Opr.x)) (PQ (.slice aw nw cw) In) (fun k => w.heap.size ≤ k) wr) (fun i _ => nw - (intOf i).toNat)
        case atStart => exact ⟨0, by omega, rfl, hkr, hS1⟩
        case round =>
          clear hS1 hkr
          obtain ⟨j, hj, rfl, hkr, hS⟩ := hrel
          by_cases h5 : j < nw
          · obtain ⟨z, hz⟩ : ∃ z, In[j]? = some z := ⟨_, List.getElem?_eq_getElem (by have := Hnw.out; omega)⟩
            obtain ⟨_, q1⟩ := Sep.any hS
            obtain ⟨g, rfl, -⟩ := PQ.at q1 Hnw.out hz
            have hjc : (j : Int) < cw := by omega
            have hjc2 : ¬ (cw = j) := by omega
            have hjn : (j : Int) < nw := by omega
            obtain ⟨W, hW⟩ : ∃ W, W = wr := ⟨_, rfl⟩
            have hsrc : Src W (.slice (some ⟨g, j * 10, none⟩) (nw - j) (cw - j)) (nw - j) 10 ((In.drop j).flatMap encP) := by
              have h9 := Src.of_own q1.1
              rw [← Hnw.out] at h9
              have h8 := Src.tailP h9 (m := j) (by omega)
              rw [hW]
              simp only [Option.map_some, addr_add, Nat.zero_add] at h8
              exact h8
            rw [← hW] at hkr hS ⊢
            have Hsrc := Lib.hid hsrc
            have HS := Lib.hid hS
            have Hz := Lib.hid hz
            obtain ⟨D, hD⟩ : ∃ D, D = In.drop j := ⟨_, rfl⟩
            have HD := Lib.hid hD
            have hDl : D.length ≤ 30 := by rw [hD, List.length_drop]; have := Hnw.out; omega
            obtain ⟨nj, hnj⟩ : ∃ nj, nj = nw - j := ⟨_, rfl⟩
            clear hsrc hS hz hD q1 hW
            go_wp2_with fail
            go_loopw [9] (fun v9 wx => ∃ who : Int, v9 = .int .i64 who ∧ 1099511627776 ≤ who ∧ who + (ahead D who : Int) ≤ 1099511627776 + 30 ∧ New W wx) (fun v9 _ => ahead D (intOf v9))
            case atStart => exact ⟨1099511627776, rfl, by omega, by have := ahead_le D 1099511627776; omega, Kept.refl _ _⟩
            case round =>
              obtain ⟨who, rfl, hw1, hw2, hkx⟩ := hrel
              obtain ⟨r, hr⟩ : ∃ r, r = inP D who := ⟨_, rfl⟩
              have hin := among_any (.slice (some ⟨g, j * 10, none⟩) (nw - j) (cw - j)) (nw - j) D who r wr (by rw [HD.out]; exact Hsrc.out.same hkx) (by omega) hr
              have Hin := Lib.hid hin
              have Hr := Lib.hid hr
              clear hin hr
              go_wp2_with fail
              refine Hin.out.mono ?_
              rintro e w3 ⟨rfl, hk3⟩
              have hkx3 := hkx.trans hk3
              clear hkx hk3 Hin
              cases r with
              | true =>
                have hless := ahead_less (L := D) (who := who) Hr.out.symm
                go_wp2_with fail
                go_roundw
                case rel => exact ⟨who + 1, by go_num, by omega, by omega, hkx3⟩
                case measure => simp [intOf, hless]
              | false =>
                have hsd : sd = true := HsdP.out (by omega)
                subst hsd
                have hdr : In.drop j = z :: In.drop (j + 1) := dropP_at Hz.out
                have hrE : recvE true ((In.drop j).map Opr.x) ⟨who, 0, 0, 0, 0, 0, 0, false⟩ false = ((true, z.x.who, who, z.x, 0), true, (In.drop (j + 1)).map Opr.x) := by
                  have h9 := any_X (In.drop j) who
                  rw [← HD.out, ← Hr.out, HD.out] at h9
                  unfold recvE
                  rw [if_neg (by rw [h9]; decide), if_pos ⟨rfl, by rw [hdr]; simp⟩, hdr]
                  rfl
                have hcall := recv_sep2 (PQ.ok (.slice (some ⟨g, 0, none⟩) nw cw) In) w.heap.size b true true false true _ _ ⟨who, 0, 0, 0, 0, 0, 0, false⟩ z.x z.x.who who 0 W HS.out hkr.size (by rw [List.length_map, ← HD.out]; omega) hrE w3 hkx3
                have Hcall := Lib.hid hcall
                clear hrE hcall hdr HS
                go_wp2_with fail
                refine Hcall.out.mono ?_
                rintro e w7 ⟨he, hS7, hk7⟩
                simp only [metV] at he
                subst he
                have hkr7 := (hkr.trans hkx3).new hk7 (fun i hi => hi.1)
                have kT : New w7 (w7.alloc (blkT true z.x.who who z.x)) := (Kept.refl _ _).alloc _
                have hS8 := (Sep.ok (EP.ok _ _ _) (PQ.ok _ _)).kept hS7 kT (fun _ _ h => h)
                have hkr8 := hkr7.trans kT
                obtain ⟨_, q1⟩ := Sep.any hS8
                obtain ⟨g', hg', d0, d1, d2, d3, d4, d5, d6, d7, d8, d9⟩ := PQ.at q1 Hnw.out Hz.out
                cases hg'
                obtain ⟨t0, -, t1, -, t2, -, t3, -, t4, -, t5, -, t6, -, t7, -, t8, -, t9, -⟩ := of10 (heap_alloc_new w7 (blkT true z.x.who who z.x))
                have HS8 := Lib.hid hS8
                clear hk7 Hcall hS7 hkr7 q1 hS8 kT hkr hkx3 Hr
                go_wp2_with fail
                go_quiet (fail)
                go_wp2_with fail
                go_roundw
                case rel => exact ⟨j + 1, by omega, by go_num, hkr8.trans ((Kept.refl _ _).drewN _), (Sep.ok (EP.ok _ _ _) (PQ.ok _ _)).kept HS8.out ((Kept.refl (fun _ => False) _).drewN _) (fun _ _ h => h)⟩
                case measure => simp [intOf]; omega
          · have hnil : In.drop j = [] := by
              rw [List.drop_eq_nil_iff]
              have := Hnw.out
              omega
            rw [hnil] at hS
            obtain ⟨_, q1⟩ := Sep.one hS
            have hcall := waits_any b sd false [] wr q1 (by decide) (by simp)
            have Hcall := Lib.hid hcall
            clear hcall hnil hS q1
            go_wp2_with fail
            refine Hcall.out.mono ?_
            rintro e w7 ⟨v7, rfl, hown, hk7⟩
            obtain ⟨ao7, c7, hv7, -⟩ := Src.of_own hown
            replace hv7 : v7 = .slice ao7 0 c7 := hv7
            subst hv7
            clear hown Hcall
            go_wp2_with fail
            refine (fixed_any _).mono ?_
            rintro e w11 ⟨rfl, hk11⟩
            go_wp2_with fail
            go_ret
            exact ⟨rfl, none_below ((hkr.trans hk7).trans hk11)⟩
      · have h3' : ¬ ((k : Int) < len) := by omega
        obtain ⟨sd, hsd⟩ : ∃ sd, sd = decide (0 < In.length) := ⟨_, rfl⟩
        rw [← hsd] at hS0
        have hsdP : 0 < nw → sd = true := fun h => by
          rw [hsd]
          have := Hnw.out
          simp only [decide_eq_true_eq]
          omega
        have HsdP := Lib.hid hsdP
        have hcap : nw ≤ cw := by
          obtain ⟨_, q1⟩ := Sep.any hS0
          have h9 := q1.1
          rw [← Hnw.out] at h9
          exact own_cap h9 rfl
        clear hsd hsdP HE
        have hS1 : Sep (EP b sd ((In.drop 0).map Opr.x)) (PQ (.slice aw nw cw) In) (fun k => w.heap.size ≤ k) wr := hS0
        clear hS0
        go_wp2_with fail
        go_loopw [8] (fun i wr => ∃ j : Nat, j ≤ nw ∧ i = .int .i64 j ∧ New w wr ∧ Sep (EP b sd ((In.drop j).map Opr.x)) (PQ (.slice aw nw cw) In) (fun k => w.heap.size ≤ k) wr) (fun i _ => nw - (intOf i).toNat)
        case atStart => exact ⟨0, by omega, rfl, hkr, hS1⟩
        case round =>
          clear hS1 hkr
          obtain ⟨j, hj, rfl, hkr, hS⟩ := hrel
          by_cases h5 : j < nw
          · obtain ⟨z, hz⟩ : ∃ z, In[j]? = some z := ⟨_, List.getElem?_eq_getElem (by have := Hnw.out; omega)⟩
            obtain ⟨_, q1⟩ := Sep.any hS
            obtain ⟨g, rfl, -⟩ := PQ.at q1 Hnw.out hz
            have hjc : (j : Int) < cw := by omega
            have hjc2 : ¬ (cw = j) := by omega
            have hjn : (j : Int) < nw := by omega
            obtain ⟨W, hW⟩ : ∃ W, W = wr := ⟨_, rfl⟩
            have hsrc : Src W (.slice (some ⟨g, j * 10, none⟩) (nw - j) (cw - j)) (nw - j) 10 ((In.drop j).flatMap encP) := by
              have h9 := Src.of_own q1.1
              rw [← Hnw.out] at h9
              have h8 := Src.tailP h9 (m := j) (by omega)
              rw [hW]
              simp only [Option.map_some, addr_add, Nat.zero_add] at h8
              exact h8
            rw [← hW] at hkr hS ⊢
            have Hsrc := Lib.hid hsrc
            have HS := Lib.hid hS
            have Hz := Lib.hid hz
            obtain ⟨D, hD⟩ : ∃ D, D = In.drop j := ⟨_, rfl⟩
            have HD := Lib.hid hD
            have hDl : D.length ≤ 30 := by rw [hD, List.length_drop]; have := Hnw.out; omega
            obtain ⟨nj, hnj⟩ : ∃ nj, nj = nw - j := ⟨_, rfl⟩
            clear hsrc hS hz hD q1 hW
            go_wp2_with fail
            go_loopw [9] (fun v9 wx => ∃ who : Int, v9 = .int .i64 who ∧ 1099511627776 ≤ who ∧ who + (ahead D who : Int) ≤ 1099511627776 + 30 ∧ New W wx) (fun v9 _ => ahead D (intOf v9))
            case atStart => exact ⟨1099511627776, rfl, by omega, by have := ahead_le D 1099511627776; omega, Kept.refl _ _⟩
            case round =>
              obtain ⟨who, rfl, hw1, hw2, hkx⟩ := hrel
              obtain ⟨r, hr⟩ : ∃ r, r = inP D who := ⟨_, rfl⟩
              have hin := among_any (.slice (some ⟨g, j * 10, none⟩) (nw - j) (cw - j)) (nw - j) D who r wr (by rw [HD.out]; exact Hsrc.out.same hkx) (by omega) hr
              have Hin := Lib.hid hin
              have Hr := Lib.hid hr
              clear hin hr
              go_wp2_with fail
              refine Hin.out.mono ?_
              rintro e w3 ⟨rfl, hk3⟩
              have hkx3 := hkx.trans hk3
              clear hkx hk3 Hin
              cases r with
              | true =>
                have hless := ahead_less (L := D) (who := who) Hr.out.symm
                go_wp2_with fail
                go_roundw
                case rel => exact ⟨who + 1, by go_num, by omega, by omega, hkx3⟩
                case measure => simp [intOf, hless]
              | false =>
                have hsd : sd = true := HsdP.out (by omega)
                subst hsd
                have hdr : In.drop j = z :: In.drop (j + 1) := dropP_at Hz.out
                have hrE : recvE true ((In.drop j).map Opr.x) ⟨who, 0, 0, 0, 0, 0, 0, false⟩ false = ((true, z.x.who, who, z.x, 0), true, (In.drop (j + 1)).map Opr.x) := by
                  have h9 := any_X (In.drop j) who
                  rw [← HD.out, ← Hr.out, HD.out] at h9
                  unfold recvE
                  rw [if_neg (by rw [h9]; decide), if_pos ⟨rfl, by rw [hdr]; simp⟩, hdr]
                  rfl
                have hcall := recv_sep2 (PQ.ok (.slice (some ⟨g, 0, none⟩) nw cw) In) w.heap.size b true true false true _ _ ⟨who, 0, 0, 0, 0, 0, 0, false⟩ z.x z.x.who who 0 W HS.out hkr.size (by rw [List.length_map, ← HD.out]; omega) hrE w3 hkx3
                have Hcall := Lib.hid hcall
                clear hrE hcall hdr HS
                go_wp2_with fail
                refine Hcall.out.mono ?_
                rintro e w7 ⟨he, hS7, hk7⟩
                simp only [metV] at he
                subst he
                have hkr7 := (hkr.trans hkx3).new hk7 (fun i hi => hi.1)
                have kT : New w7 (w7.alloc (blkT true z.x.who who z.x)) := (Kept.refl _ _).alloc _
                have hS8 := (Sep.ok (EP.ok _ _ _) (PQ.ok _ _)).kept hS7 kT (fun _ _ h => h)
                have hkr8 := hkr7.trans kT
                obtain ⟨_, q1⟩ := Sep.any hS8
                obtain ⟨g', hg', d0, d1, d2, d3, d4, d5, d6, d7, d8, d9⟩ := PQ.at q1 Hnw.out Hz.out
                cases hg'
                obtain ⟨t0, -, t1, -, t2, -, t3, -, t4, -, t5, -, t6, -, t7, -, t8, -, t9, -⟩ := of10 (heap_alloc_new w7 (blkT true z.x.who who z.x))
                have HS8 := Lib.hid hS8
                clear hk7 Hcall hS7 hkr7 q1 hS8 kT hkr hkx3 Hr
                go_wp2_with fail
                go_quiet (fail)
                go_wp2_with fail
                go_roundw
                case rel => exact ⟨j + 1, by omega, by go_num, hkr8.trans ((Kept.refl _ _).drewN _), (Sep.ok (EP.ok _ _ _) (PQ.ok _ _)).kept HS8.out ((Kept.refl (fun _ => False) _).drewN _) (fun _ _ h => h)⟩
                case measure => simp [intOf]; omega
          · have hnil : In.drop j = [] := by
              rw [List.drop_eq_nil_iff]
              have := Hnw.out
              omega
            rw [hnil] at hS
            obtain ⟨_, q1⟩ := Sep.one hS
            have hcall := waits_any b sd false [] wr q1 (by decide) (by simp)
            have Hcall := Lib.hid hcall
            clear hcall hnil hS q1
            go_wp2_with fail
            refine Hcall.out.mono ?_
            rintro e w7 ⟨v7, rfl, hown, hk7⟩
            obtain ⟨ao7, c7, hv7, -⟩ := Src.of_own hown
            replace hv7 : v7 = .slice ao7 0 c7 := hv7
            subst hv7
            clear hown Hcall
            go_wp2_with fail
            refine (fixed_any _).mono ?_
            rintro e w11 ⟨rfl, hk11⟩
            go_wp2_with fail
            go_ret
            exact ⟨rfl, none_below ((hkr.trans hk7).trans hk11)⟩
end Go.Proofs.Ytanongcaokldmaa

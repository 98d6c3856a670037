/- The walk of the law EndpointDoes. -/
import Derived.Test.YtanongcaokldmaaEndY
import Derived.Deep.DeepCutAuto
import Derived.Deep.CutBlock
set_option linter.all false
namespace Go.Proofs.Ytanongcaokldmaa
open Go.RowKit

set_option maxRecDepth 100000 in
set_option maxHeartbeats 16000000 in
theorem walkEndpointDoes (w : World) (v : Value) (rows : List (List Value)) (hs : Src w v rows.length 10 rows.flatten) (hr : ∀ x ∈ rows, FlatOk [.int .i64, .int .i64, .int .i64, .int .u64, .int .u64, .int .u64, .int .u64, .int .u64, .bool, .bool] x) (hm : rows.length ≤ maxLen) :
    Calls Try.prog 8 #[v] w fun e w' => e = .returned (.bool true) ∧ Below w.heap.size w w' := by
  obtain ⟨L, hfl, hll, -⟩ := ops_of_rows hr
  rw [hfl] at hs
  obtain ⟨len, hlen⟩ : ∃ len, len = rows.length := ⟨_, rfl⟩
  rw [← hlen] at hs hm hll
  clear hr hfl hlen
  have Hs := Lib.hid hs
  obtain ⟨-, ao, c, rfl, hcells⟩ := Src.ops hs
  have Hll := Lib.hid hll
  have hlenm : len ≤ 9223372036854775807 := by have : maxLen = 9223372036854775807 := rfl; omega
  clear hs hll hcells hm
  go_enter Try.func8, Try.ntmps8
  go_wp2_with fail
  refine (new_any w).mono ?_
  rintro e w1 ⟨rfl, hN, hk1⟩
  obtain ⟨b, hb⟩ : ∃ b, b = w.heap.size := ⟨_, rfl⟩
  rw [← hb] at hN ⊢
  have hN1 : EP b false [] (fun k => w.heap.size ≤ k) w1 := hN.mono (fun k hk => by omega)
  have kA : New w1 (w1.alloc (.cells #[.slice none 0 0, .slice none 0 0] 51)) := (Kept.refl _ _).alloc _
  have hR1 : RX w1.heap.size false [] (fun k => w1.heap.size ≤ k) (w1.alloc (.cells #[.slice none 0 0, .slice none 0 0] 51)) := ⟨.slice none 0 0, .slice none 0 0, heap_alloc_new _ _, ⟨rfl, .inl ⟨rfl, rfl⟩⟩, ⟨rfl, .inl ⟨rfl, rfl⟩⟩, Nat.le_refl _, fun k hk => (by cases hk), fun k hk => (by cases hk)⟩
  have hS0 : Sep (EP b false []) (RX w1.heap.size false []) (fun k => w.heap.size ≤ k) (w1.alloc (.cells #[.slice none 0 0, .slice none 0 0] 51)) := (Sep.fresh (N := RX w1.heap.size false []) (EP.ok _ _ _) hN1 hR1 kA (fun k h => Nat.le_trans hk1.size h)).swap
  have hk0 := hk1.trans kA
  obtain ⟨q, hq⟩ : ∃ q, q = w1.heap.size := ⟨_, rfl⟩
  rw [← hq] at hS0
  have Hq := Lib.hid hq
  clear hb hN hN1 hk1 kA hR1 hq
  go_wp2_with fail
  try rw [← Hq.out]
  go_loopw [3, 5] (fun p i wr => ∃ (k b : Nat) (sd : Bool) (M : List On), k ≤ 80 ∧ k ≤ len ∧ p = .pointer (some ⟨b, 0, none⟩) ∧ i = .int .i64 k ∧ M.length ≤ k ∧ New w wr ∧ Sep (EP b sd M) (RX q sd M) (fun k => w.heap.size ≤ k) wr) (fun _ i _ => 80 - (intOf i).toNat)
  case atStart => exact ⟨0, b, false, [], by omega, by omega, rfl, rfl, by simp, hk0, hS0⟩
  case round =>
    clear hS0 hk0 Hq
    obtain ⟨k, b, sd, M, hk6, hk, rfl, rfl, hMk, hkr, hS⟩ := hrel
    by_cases h1 : k < len ∧ k < 80
    · obtain ⟨h1, h2⟩ := h1
      have h2' : (k : Int) < 80 := by omega
      obtain ⟨z, hz⟩ : ∃ z, L[k]? = some z := ⟨_, List.getElem?_eq_getElem (by have := Hll.out; omega)⟩
      obtain ⟨ao', c', he, hcl⟩ := (Src.ops (Hs.out.same hkr)).2
      cases he
      obtain ⟨B, Of, rfl, c0, c1, c2, c3, c4, c5, c6, c7, c8, c9⟩ := hcl k z hz
      obtain ⟨W, hW⟩ : ∃ W, W = ((wr.alloc (.cells #[.int .i64 z.kind, .int .i64 z.x.who, .int .i64 z.x.la, .int .u64 z.x.w0, .int .u64 z.x.w1, .int .u64 z.x.w2, .int .u64 z.x.w3, .int .u64 z.x.bg, .bool z.x.ca, .bool z.wa] 30)).alloc (.cells #[.bool false, .int .i64 0, .int .i64 0, .int .i64 0, .int .u64 0, .int .u64 0, .int .u64 0, .int .u64 0, .int .u64 0, .bool false] 35)).alloc (.cells #[.bool false, .int .i64 0, .int .i64 0, .int .i64 0, .int .u64 0, .int .u64 0, .int .u64 0, .int .u64 0, .int .u64 0, .bool false] 35) := ⟨_, rfl⟩
      have s1 : (wr.alloc (.cells #[.int .i64 z.kind, .int .i64 z.x.who, .int .i64 z.x.la, .int .u64 z.x.w0, .int .u64 z.x.w1, .int .u64 z.x.w2, .int .u64 z.x.w3, .int .u64 z.x.bg, .bool z.x.ca, .bool z.wa] 30)).heap.size = wr.heap.size + 1 := Array.size_push ..
      have s2 : ((wr.alloc (.cells #[.int .i64 z.kind, .int .i64 z.x.who, .int .i64 z.x.la, .int .u64 z.x.w0, .int .u64 z.x.w1, .int .u64 z.x.w2, .int .u64 z.x.w3, .int .u64 z.x.bg, .bool z.x.ca, .bool z.wa] 30)).alloc (.cells #[.bool false, .int .i64 0, .int .i64 0, .int .i64 0, .int .u64 0, .int .u64 0, .int .u64 0, .int .u64 0, .int .u64 0, .bool false] 35)).heap.size = wr.heap.size + 2 := by rw [show ((wr.alloc (.cells #[.int .i64 z.kind, .int .i64 z.x.who, .int .i64 z.x.la, .int .u64 z.x.w0, .int .u64 z.x.w1, .int .u64 z.x.w2, .int .u64 z.x.w3, .int .u64 z.x.bg, .bool z.x.ca, .bool z.wa] 30)).alloc (.cells #[.bool false, .int .i64 0, .int .i64 0, .int .i64 0, .int .u64 0, .int .u64 0, .int .u64 0, .int .u64 0, .int .u64 0, .bool false] 35)).heap.size = (wr.alloc (.cells #[.int .i64 z.kind, .int .i64 z.x.who, .int .i64 z.x.la, .int .u64 z.x.w0, .int .u64 z.x.w1, .int .u64 z.x.w2, .int .u64 z.x.w3, .int .u64 z.x.bg, .bool z.x.ca, .bool z.wa] 30)).heap.size + 1 from Array.size_push .., s1]
      have hWs : W.heap.size = wr.heap.size + 3 := by rw [hW, show (((wr.alloc (.cells #[.int .i64 z.kind, .int .i64 z.x.who, .int .i64 z.x.la, .int .u64 z.x.w0, .int .u64 z.x.w1, .int .u64 z.x.w2, .int .u64 z.x.w3, .int .u64 z.x.bg, .bool z.x.ca, .bool z.wa] 30)).alloc (.cells #[.bool false, .int .i64 0, .int .i64 0, .int .i64 0, .int .u64 0, .int .u64 0, .int .u64 0, .int .u64 0, .int .u64 0, .bool false] 35)).alloc (.cells #[.bool false, .int .i64 0, .int .i64 0, .int .i64 0, .int .u64 0, .int .u64 0, .int .u64 0, .int .u64 0, .int .u64 0, .bool false] 35)).heap.size = ((wr.alloc (.cells #[.int .i64 z.kind, .int .i64 z.x.who, .int .i64 z.x.la, .int .u64 z.x.w0, .int .u64 z.x.w1, .int .u64 z.x.w2, .int .u64 z.x.w3, .int .u64 z.x.bg, .bool z.x.ca, .bool z.wa] 30)).alloc (.cells #[.bool false, .int .i64 0, .int .i64 0, .int .i64 0, .int .u64 0, .int .u64 0, .int .u64 0, .int .u64 0, .int .u64 0, .bool false] 35)).heap.size + 1 from Array.size_push .., s2]
      have kW : New wr W := by rw [hW]; exact (((Kept.refl _ _).alloc _).alloc _).alloc _
      have hZ0 : W.heap[wr.heap.size]? = some (blkP z) := by rw [hW]; exact ((Kept.refl (fun _ => False) (wr.alloc (.cells #[.int .i64 z.kind, .int .i64 z.x.who, .int .i64 z.x.la, .int .u64 z.x.w0, .int .u64 z.x.w1, .int .u64 z.x.w2, .int .u64 z.x.w3, .int .u64 z.x.bg, .bool z.x.ca, .bool z.wa] 30))).alloc (.cells #[.bool false, .int .i64 0, .int .i64 0, .int .i64 0, .int .u64 0, .int .u64 0, .int .u64 0, .int .u64 0, .int .u64 0, .bool false] 35) |>.alloc (.cells #[.bool false, .int .i64 0, .int .i64 0, .int .i64 0, .int .u64 0, .int .u64 0, .int .u64 0, .int .u64 0, .int .u64 0, .bool false] 35)).heap (heap_alloc_new _ _) (fun h => h)
      have hA0 : W.heap[wr.heap.size + 1]? = some (blkT false 0 0 on0) := by rw [hW, ← s1]; exact ((Kept.refl (fun _ => False) ((wr.alloc (.cells #[.int .i64 z.kind, .int .i64 z.x.who, .int .i64 z.x.la, .int .u64 z.x.w0, .int .u64 z.x.w1, .int .u64 z.x.w2, .int .u64 z.x.w3, .int .u64 z.x.bg, .bool z.x.ca, .bool z.wa] 30)).alloc (.cells #[.bool false, .int .i64 0, .int .i64 0, .int .i64 0, .int .u64 0, .int .u64 0, .int .u64 0, .int .u64 0, .int .u64 0, .bool false] 35))).alloc (.cells #[.bool false, .int .i64 0, .int .i64 0, .int .i64 0, .int .u64 0, .int .u64 0, .int .u64 0, .int .u64 0, .int .u64 0, .bool false] 35)).heap (heap_alloc_new _ _) (fun h => h)
      have hB0 : W.heap[wr.heap.size + 1 + 1]? = some (blkT false 0 0 on0) := by rw [hW, ← s2]; exact heap_alloc_new _ _
      obtain ⟨O, hO⟩ : ∃ O : Nat → Prop, O = fun k => w.heap.size ≤ k ∧ (k < wr.heap.size ∨ wr.heap.size + 3 ≤ k) := ⟨_, rfl⟩
      have hSW : Sep (EP b sd M) (RX q sd M) O W := by
        have h9 := (Sep.ok (EP.ok b sd M) (RF.ok _ _ _)).kept ((Sep.ok (EP.ok b sd M) (RF.ok _ _ _)).sized hS) kW (fun _ _ h => h)
        exact (Sep.ok (EP.ok b sd M) (RF.ok _ _ _)).mono h9 (fun k h => by rw [hO]; exact ⟨h.1, .inl h.2⟩)
      have hON : ∀ W' : World, W.heap.size ≤ W'.heap.size → ∀ k, W'.heap.size ≤ k → O k := fun W' h9 k hk => by rw [hO]; have := hkr.size; exact ⟨by omega, .inr (by omega)⟩
      have hOw : ∀ k, O k → w.heap.size ≤ k := fun k hk => by rw [hO] at hk; exact hk.1
      obtain ⟨qz, hqz⟩ : ∃ qz, qz = wr.heap.size := ⟨_, rfl⟩
      obtain ⟨qa, hqa⟩ : ∃ qa, qa = wr.heap.size + 1 := ⟨_, rfl⟩
      obtain ⟨qb, hqb⟩ : ∃ qb, qb = wr.heap.size + 1 + 1 := ⟨_, rfl⟩
      have hOz : ∀ k, O k → ¬ k = qz ∧ ¬ k = qa ∧ ¬ k = qb := fun k hk => by rw [hO] at hk; omega
      have hwq : w.heap.size ≤ qa ∧ w.heap.size ≤ qb := by have := hkr.size; omega
      have hne1 : ¬ qa = qb := by omega
      have hne2 : ¬ qa = qz := by omega
      have hne3 : ¬ qb = qz := by omega
      rw [← hqz] at hZ0
      rw [← hqa] at hA0
      rw [← hqb] at hB0
      have Hqz := Lib.hid hqz
      have Hqa := Lib.hid hqa
      have Hqb := Lib.hid hqb
      have Hwq := Lib.hid hwq
      have hkW := hkr.trans kW
      have HW := Lib.hid hW
      have HWs := Lib.hid hWs
      have HZ0 := Lib.hid hZ0
      have HA0 := Lib.hid hA0
      have HB0 := Lib.hid hB0
      have HON := Lib.hid hON
      have HOw := Lib.hid hOw
      have HOz := Lib.hid hOz
      have HSW := Lib.hid hSW
      have hML : M.length ≤ 900 := by omega
      clear hcl hz hS kW hW s1 s2 hWs hZ0 hA0 hB0 hO hSW hON hOw hOz hqz hqa hqb hwq
      go_upto_region 9 with fail
      rw [← HW.out, ← Hqb.out, ← Hqa.out, ← Hqz.out]
      obtain ⟨e0, e1, e2, e3, e4, e5, e6, e7, e8, e9⟩ := op10 HZ0.out
      clear HW Hqz Hqa Hqb c0 c1 c2 c3 c4 c5 c6 c7 c8 c9
      go_upto_block 2 with fail
      go_cut [3, 9, 10, 37, 41, 42, 43] (fun v3 v9 v10 _ _ _ _ wx => ∃ (b' : Nat) (sd' : Bool) (M' : List On) (m1 : Bool) (m2 m3 : Int) (m4 : On) (er : Int), v3 = .pointer (some ⟨b', 0, none⟩) ∧ v9 = .int .i64 er ∧ v10 = .int .i64 er ∧ M'.length ≤ k + 1 ∧ New w wx ∧ Hid (Sep (EP b' sd' M') (RX q sd' M') (fun k => w.heap.size ≤ k) wx) ∧ Hid (wx.heap[qa]? = some (blkT m1 m2 m3 m4)) ∧ Hid (wx.heap[qb]? = some (blkT m1 m2 m3 m4)))
      case first =>
        by_cases hk0 : z.kind = 0
        · rw [hk0] at e0
          obtain ⟨⟨⟨m1, m2, m3, m4, er⟩, sd', M'⟩, hsE⟩ : ∃ r, sendE sd M z.x z.wa = r := ⟨_, rfl⟩
          have hM' := sendE_length hsE
          have hrE := ref_send hsE
          have HsE := Lib.hid hsE
          have HrE := Lib.hid hrE
          have hcall := send_zo (RF.ok q (refS sd M) (refR sd M)) b sd sd' z.wa m1 M M' z.x m4 m2 m3 er W HSW.out (HON.out W (Nat.le_refl _)) (by omega) hsE
          have Hcall := Lib.hid hcall
          clear hcall hsE hrE HSW
          go_wp2_with fail
          refine Hcall.out.mono ?_
          rintro e w3 ⟨he, hS3, hk3⟩
          simp only [metV] at he
          subst he
          have hkw3 := hkW.new hk3 HOw.out
          have hsz3 := hk3.size
          have hA3 := hk3.heap HA0.out (fun h => (HOz.out _ h).2.1 rfl)
          have hB3 := hk3.heap HB0.out (fun h => (HOz.out _ h).2.2 rfl)
          have hZ3 := hk3.heap HZ0.out (fun h => (HOz.out _ h).1 rfl)
          obtain ⟨t0, u0, t1, u1, t2, u2, t3, u3, t4, u4, t5, u5, t6, u6, t7, u7, t8, u8, t9, u9⟩ := of10 hA3
          obtain ⟨W3, hW3⟩ : ∃ W, W = (((((((((w3.setCell ⟨qa, 0, none⟩ (.bool m1)).setCell ⟨qa, 1, none⟩ (.int .i64 m2)).setCell ⟨qa, 2, none⟩ (.int .i64 m3)).setCell ⟨qa, 3, none⟩ (.int .i64 m4.la)).setCell ⟨qa, 4, none⟩ (.int .u64 m4.w0)).setCell ⟨qa, 5, none⟩ (.int .u64 m4.w1)).setCell ⟨qa, 6, none⟩ (.int .u64 m4.w2)).setCell ⟨qa, 7, none⟩ (.int .u64 m4.w3)).setCell ⟨qa, 8, none⟩ (.int .u64 m4.bg)).setCell ⟨qa, 9, none⟩ (.bool m4.ca) := ⟨_, rfl⟩
          have kW3 : Kept (fun k => k = qa) w3 W3 := by rw [hW3]; exact ten_kept w3 qa _ _ _ _ _ _ _ _ _ _
          have hA4 : W3.heap[qa]? = some (blkT m1 m2 m3 m4) := by rw [hW3]; exact ten_heap hA3 m1 m2 m3 m4
          have hB4 := kW3.heap hB3 (fun e => hne1 e.symm)
          have hZ4 := kW3.heap hZ3 (fun e => hne2 e.symm)
          have hS4 := (Sep.ok (EP.ok b sd' M') (RF.ok q (refS sd M) (refR sd M))).kept hS3 kW3 (fun i h e => (HOz.out i h).2.1 e)
          have hkw4 := hkw3.new kW3 (fun i e => by rw [e]; exact Hwq.out.1)
          have hsz4 := Nat.le_trans hsz3 kW3.size
          clear e0 e1 e2 e3 e4 e5 e6 e7 e8 e9
          obtain ⟨e0, e1, e2, e3, e4, e5, e6, e7, e8, e9⟩ := op10 hZ4
          have HW3 := Lib.hid hW3
          have hcall := rsend_zo (EP.ok b sd' M') q (refS sd M) (refS sd' M') (refR sd M) (refR sd' M') z.x m4 z.wa m1 m2 m3 er W3 hS4.swap (HON.out W3 hsz4) (by have := refS_len sd M; omega) (by have := refR_len sd M; omega) HrE.out
          have Hcall2 := Lib.hid hcall
          clear hcall hS3 hS4 hA3 hB3 hZ3 hW3 hk3 kW3 Hcall hkw3
          go_upto_region 12 with fail
          rw [← HW3.out]
          clear HW3 t0 t1 t2 t3 t4 t5 t6 t7 t8 t9 u0 u1 u2 u3 u4 u5 u6 u7 u8 u9
          go_wp2_with fail
          refine Hcall2.out.mono ?_
          rintro e w5 ⟨he, hS5, hk5⟩
          simp only [metV] at he
          subst he
          have hkw5 := hkw4.new hk5 HOw.out
          have hA5 := hk5.heap hA4 (fun h => (HOz.out _ h).2.1 rfl)
          have hB5 := hk5.heap hB4 (fun h => (HOz.out _ h).2.2 rfl)
          obtain ⟨t0, u0, t1, u1, t2, u2, t3, u3, t4, u4, t5, u5, t6, u6, t7, u7, t8, u8, t9, u9⟩ := of10 hB5
          obtain ⟨W5, hW5⟩ : ∃ W, W = (((((((((w5.setCell ⟨qb, 0, none⟩ (.bool m1)).setCell ⟨qb, 1, none⟩ (.int .i64 m2)).setCell ⟨qb, 2, none⟩ (.int .i64 m3)).setCell ⟨qb, 3, none⟩ (.int .i64 m4.la)).setCell ⟨qb, 4, none⟩ (.int .u64 m4.w0)).setCell ⟨qb, 5, none⟩ (.int .u64 m4.w1)).setCell ⟨qb, 6, none⟩ (.int .u64 m4.w2)).setCell ⟨qb, 7, none⟩ (.int .u64 m4.w3)).setCell ⟨qb, 8, none⟩ (.int .u64 m4.bg)).setCell ⟨qb, 9, none⟩ (.bool m4.ca) := ⟨_, rfl⟩
          have kW5 : Kept (fun k => k = qb) w5 W5 := by rw [hW5]; exact ten_kept w5 qb _ _ _ _ _ _ _ _ _ _
          have hB6 : W5.heap[qb]? = some (blkT m1 m2 m3 m4) := by rw [hW5]; exact ten_heap hB5 m1 m2 m3 m4
          have hA6 := kW5.heap hA5 (fun e => hne1 e)
          have hS6 := (Sep.ok (RF.ok q (refS sd' M') (refR sd' M')) (EP.ok b sd' M')).kept hS5 kW5 (fun i h e => (HOz.out i h).2.2 e)
          have hkw6 := hkw5.new kW5 (fun i e => by rw [e]; exact Hwq.out.2)
          have HW5 := Lib.hid hW5
          have HS6 := Lib.hid ((Sep.ok (RF.ok q (refS sd' M') (refR sd' M')) (EP.ok b sd' M')).mono hS6 HOw.out).swap
          have HA6 := Lib.hid hA6
          have HB6 := Lib.hid hB6
          clear hS5 hS6 hA4 hB4 hA5 hB5 hZ4 hk5 kW5 hkw4 hkw5 hW5 hA6 hB6 Hcall2 e0 e1 e2 e3 e4 e5 e6 e7 e8 e9
          go_wp2_with fail
          rw [← HW5.out]
          go_meet
          exact ⟨b, sd', M', m1, m2, m3, m4, er, rfl, rfl, rfl, by omega, hkw6, HS6.out, HA6.out, HB6.out⟩
        · have hkb0 : (z.kind == 0) = false := by simpa using hk0
          by_cases hk1 : z.kind = 1
          · rw [hk1] at e0
            obtain ⟨⟨⟨m1, m2, m3, m4, er⟩, sd', M'⟩, hsE⟩ : ∃ r, recvE sd M z.x z.wa = r := ⟨_, rfl⟩
            have hM' := recvE_length hsE
            have hrE := ref_recv hsE
            have HsE := Lib.hid hsE
            have HrE := Lib.hid hrE
            have hcall := recv_zo (RF.ok q (refS sd M) (refR sd M)) b sd sd' z.wa m1 M M' z.x m4 m2 m3 er W HSW.out (HON.out W (Nat.le_refl _)) (by omega) hsE
            have Hcall := Lib.hid hcall
            clear hcall hsE hrE HSW
            go_wp2_with fail
            refine Hcall.out.mono ?_
            rintro e w3 ⟨he, hS3, hk3⟩
            simp only [metV] at he
            subst he
            have hkw3 := hkW.new hk3 HOw.out
            have hsz3 := hk3.size
            have hA3 := hk3.heap HA0.out (fun h => (HOz.out _ h).2.1 rfl)
            have hB3 := hk3.heap HB0.out (fun h => (HOz.out _ h).2.2 rfl)
            have hZ3 := hk3.heap HZ0.out (fun h => (HOz.out _ h).1 rfl)
            obtain ⟨t0, u0, t1, u1, t2, u2, t3, u3, t4, u4, t5, u5, t6, u6, t7, u7, t8, u8, t9, u9⟩ := of10 hA3
            obtain ⟨W3, hW3⟩ : ∃ W, W = (((((((((w3.setCell ⟨qa, 0, none⟩ (.bool m1)).setCell ⟨qa, 1, none⟩ (.int .i64 m2)).setCell ⟨qa, 2, none⟩ (.int .i64 m3)).setCell ⟨qa, 3, none⟩ (.int .i64 m4.la)).setCell ⟨qa, 4, none⟩ (.int .u64 m4.w0)).setCell ⟨qa, 5, none⟩ (.int .u64 m4.w1)).setCell ⟨qa, 6, none⟩ (.int .u64 m4.w2)).setCell ⟨qa, 7, none⟩ (.int .u64 m4.w3)).setCell ⟨qa, 8, none⟩ (.int .u64 m4.bg)).setCell ⟨qa, 9, none⟩ (.bool m4.ca) := ⟨_, rfl⟩
            have kW3 : Kept (fun k => k = qa) w3 W3 := by rw [hW3]; exact ten_kept w3 qa _ _ _ _ _ _ _ _ _ _
            have hA4 : W3.heap[qa]? = some (blkT m1 m2 m3 m4) := by rw [hW3]; exact ten_heap hA3 m1 m2 m3 m4
            have hB4 := kW3.heap hB3 (fun e => hne1 e.symm)
            have hZ4 := kW3.heap hZ3 (fun e => hne2 e.symm)
            have hS4 := (Sep.ok (EP.ok b sd' M') (RF.ok q (refS sd M) (refR sd M))).kept hS3 kW3 (fun i h e => (HOz.out i h).2.1 e)
            have hkw4 := hkw3.new kW3 (fun i e => by rw [e]; exact Hwq.out.1)
            have hsz4 := Nat.le_trans hsz3 kW3.size
            clear e0 e1 e2 e3 e4 e5 e6 e7 e8 e9
            obtain ⟨e0, e1, e2, e3, e4, e5, e6, e7, e8, e9⟩ := op10 hZ4
            have HW3 := Lib.hid hW3
            have hcall := rrecv_zo (EP.ok b sd' M') q (refS sd M) (refS sd' M') (refR sd M) (refR sd' M') z.x.who m4 z.wa m1 m2 m3 er W3 hS4.swap (HON.out W3 hsz4) (by have := refS_len sd M; omega) (by have := refR_len sd M; omega) HrE.out
            have Hcall2 := Lib.hid hcall
            clear hcall hS3 hS4 hA3 hB3 hZ3 hW3 hk3 kW3 Hcall hkw3
            go_upto_region 15 with fail
            rw [← HW3.out]
            clear HW3 t0 t1 t2 t3 t4 t5 t6 t7 t8 t9 u0 u1 u2 u3 u4 u5 u6 u7 u8 u9
            go_wp2_with fail
            refine Hcall2.out.mono ?_
            rintro e w5 ⟨he, hS5, hk5⟩
            simp only [metV] at he
            subst he
            have hkw5 := hkw4.new hk5 HOw.out
            have hA5 := hk5.heap hA4 (fun h => (HOz.out _ h).2.1 rfl)
            have hB5 := hk5.heap hB4 (fun h => (HOz.out _ h).2.2 rfl)
            obtain ⟨t0, u0, t1, u1, t2, u2, t3, u3, t4, u4, t5, u5, t6, u6, t7, u7, t8, u8, t9, u9⟩ := of10 hB5
            obtain ⟨W5, hW5⟩ : ∃ W, W = (((((((((w5.setCell ⟨qb, 0, none⟩ (.bool m1)).setCell ⟨qb, 1, none⟩ (.int .i64 m2)).setCell ⟨qb, 2, none⟩ (.int .i64 m3)).setCell ⟨qb, 3, none⟩ (.int .i64 m4.la)).setCell ⟨qb, 4, none⟩ (.int .u64 m4.w0)).setCell ⟨qb, 5, none⟩ (.int .u64 m4.w1)).setCell ⟨qb, 6, none⟩ (.int .u64 m4.w2)).setCell ⟨qb, 7, none⟩ (.int .u64 m4.w3)).setCell ⟨qb, 8, none⟩ (.int .u64 m4.bg)).setCell ⟨qb, 9, none⟩ (.bool m4.ca) := ⟨_, rfl⟩
            have kW5 : Kept (fun k => k = qb) w5 W5 := by rw [hW5]; exact ten_kept w5 qb _ _ _ _ _ _ _ _ _ _
            have hB6 : W5.heap[qb]? = some (blkT m1 m2 m3 m4) := by rw [hW5]; exact ten_heap hB5 m1 m2 m3 m4
            have hA6 := kW5.heap hA5 (fun e => hne1 e)
            have hS6 := (Sep.ok (RF.ok q (refS sd' M') (refR sd' M')) (EP.ok b sd' M')).kept hS5 kW5 (fun i h e => (HOz.out i h).2.2 e)
            have hkw6 := hkw5.new kW5 (fun i e => by rw [e]; exact Hwq.out.2)
            have HW5 := Lib.hid hW5
            have HS6 := Lib.hid ((Sep.ok (RF.ok q (refS sd' M') (refR sd' M')) (EP.ok b sd' M')).mono hS6 HOw.out).swap
            have HA6 := Lib.hid hA6
            have HB6 := Lib.hid hB6
            clear hS5 hS6 hA4 hB4 hA5 hB5 hZ4 hk5 kW5 hkw4 hkw5 hW5 hA6 hB6 Hcall2 e0 e1 e2 e3 e4 e5 e6 e7 e8 e9
            go_wp2_with fail
            rw [← HW5.out]
            go_meet
            exact ⟨b, sd', M', m1, m2, m3, m4, er, rfl, rfl, rfl, by omega, hkw6, HS6.out, HA6.out, HB6.out⟩
          · have hkb1 : (z.kind == 1) = false := by simpa using hk1
            by_cases hk2 : z.kind = 2
            · rw [hk2] at e0
              obtain ⟨M', hM⟩ : ∃ M', M.filter (fun x => !(x.who == z.x.who)) = M' := ⟨_, rfl⟩
              obtain ⟨r, hr⟩ : ∃ r, r = decide (M'.length < M.length) := ⟨_, rfl⟩
              have hMl : M'.length ≤ M.length := by rw [← hM]; exact List.length_filter_le _ _
              have hrc := ref_cancel sd M M' z.x.who hM
              rw [← hr] at hrc
              have Hrc := Lib.hid hrc
              have hcall := cancel_zo (RF.ok q (refS sd M) (refR sd M)) b sd M M' z.x.who r W HSW.out (HON.out W (Nat.le_refl _)) (by omega) hM hr
              have Hcall := Lib.hid hcall
              clear hcall hrc hM hr HSW
              go_wp2_with fail
              refine Hcall.out.mono ?_
              rintro e w3 ⟨rfl, hS3, hk3⟩
              have hkw3 := hkW.new hk3 HOw.out
              have hA3 := hk3.heap HA0.out (fun h => (HOz.out _ h).2.1 rfl)
              have hB3 := hk3.heap HB0.out (fun h => (HOz.out _ h).2.2 rfl)
              have hZ3 := hk3.heap HZ0.out (fun h => (HOz.out _ h).1 rfl)
              clear e0 e1 e2 e3 e4 e5 e6 e7 e8 e9
              obtain ⟨e0, e1, e2, e3, e4, e5, e6, e7, e8, e9⟩ := op10 hZ3
              have hcall := rcancel_zo (EP.ok b sd M') q (refS sd M) (refS sd M') (refR sd M) (refR sd M') z.x.who r w3 hS3.swap (HON.out w3 hk3.size) (by have := refS_len sd M; omega) (by have := refR_len sd M; omega) Hrc.out
              have Hcall2 := Lib.hid hcall
              clear hcall hS3 hZ3 Hcall hk3
              go_wp2_with fail
              refine Hcall2.out.mono ?_
              rintro e w5 ⟨rfl, hS5, hk5⟩
              have hkw5 := hkw3.new hk5 HOw.out
              have HA5 := Lib.hid (hk5.heap hA3 (fun h => (HOz.out _ h).2.1 rfl))
              have HB5 := Lib.hid (hk5.heap hB3 (fun h => (HOz.out _ h).2.2 rfl))
              have HS5 := Lib.hid ((Sep.ok (RF.ok q (refS sd M') (refR sd M')) (EP.ok b sd M')).mono hS5 HOw.out).swap
              clear hS5 hA3 hB3 hk5 hkw3 Hcall2 e0 e1 e2 e3 e4 e5 e6 e7 e8 e9
              go_wp2_with fail
              go_meet
              exact ⟨b, sd, M', false, 0, 0, on0, 0, rfl, rfl, rfl, by omega, hkw5, HS5.out, HA5.out, HB5.out⟩
            · have hkb2 : (z.kind == 2) = false := by simpa using hk2
              by_cases hk3 : z.kind = 3
              · rw [hk3] at e0
                obtain ⟨⟨F, M'⟩, hbE⟩ : ∃ r, badgeE sd M z.x.bg = r := ⟨_, rfl⟩
                obtain ⟨hMl, hFl⟩ := badgeE_length hbE
                obtain ⟨rb1, rb2, rb3⟩ := ref_badge hbE
                have Hrb1 := Lib.hid rb1
                have Hrb2 := Lib.hid rb2
                have Hrb3 := Lib.hid rb3
                have hcall := badge_zo (RF.ok q (refS sd M) (refR sd M)) b sd M M' F z.x.bg W HSW.out (HON.out W (Nat.le_refl _)) hML hbE
                have Hcall := Lib.hid hcall
                clear hcall hbE rb1 rb2 rb3 HSW
                go_wp2_with fail
                refine Hcall.out.mono ?_
                rintro e w3 ⟨v3, rfl, hS3, hk3⟩
                have hkw3 := hkW.new hk3 HOw.out
                have hA3 := hk3.heap HA0.out (fun h => (HOz.out _ h).2.1 rfl)
                have hB3 := hk3.heap HB0.out (fun h => (HOz.out _ h).2.2 rfl)
                have hZ3 := hk3.heap HZ0.out (fun h => (HOz.out _ h).1 rfl)
                clear e0 e1 e2 e3 e4 e5 e6 e7 e8 e9
                obtain ⟨e0, e1, e2, e3, e4, e5, e6, e7, e8, e9⟩ := op10 hZ3
                have hS3' : Sep (RF q (refS sd M) (refR sd M)) (Sep (LQ v3 F) (EP b sd M')) O w3 := (hS3.inr (fun _ h => h.swap)).turn
                have hcall := rbadge_zo (Sep.ok (LQ.ok v3 F) (EP.ok b sd M')) q (refS sd M) (refS sd M') (refR sd M) F z.x.bg w3 hS3' (HON.out w3 hk3.size) (by have := refS_len sd M; omega) (by have := refR_len sd M; omega) Hrb1.out Hrb2.out
                have Hcall2 := Lib.hid hcall
                clear hcall hS3 hS3' hZ3 Hcall hk3
                go_wp2_with fail
                refine Hcall2.out.mono ?_
                rintro e w5 ⟨v5, rfl, hown5, hS5, hk5⟩
                rw [Hrb3.out] at hS5
                obtain ⟨_, hl0⟩ := Sep.any hS5
                obtain ⟨_, hl0⟩ := Sep.one hl0
                have hnums := nums_any v3 v5 F.length F w5 (Src.of_own hl0.1) (Src.of_own hown5) (by omega)
                have Hnums := Lib.hid hnums
                have hkw5 := hkw3.new hk5 HOw.out
                have hA5 := hk5.heap hA3 (fun h => (HOz.out _ h).2.1 rfl)
                have hB5 := hk5.heap hB3 (fun h => (HOz.out _ h).2.2 rfl)
                have hS5b : Sep (EP b sd M') (RX q sd M') O w5 := (hS5.inr (fun _ h => Sep.snd (EP.ok b sd M') h)).swap
                have HA5 := Lib.hid hA5
                have HB5 := Lib.hid hB5
                have HS5 := Lib.hid hS5b
                clear hnums hl0 hown5 hS5 hS5b hA3 hB3 hA5 hB5 hk5 hkw3 Hcall2 e0 e1 e2 e3 e4 e5 e6 e7 e8 e9
                go_wp2_with fail
                refine Hnums.out.mono ?_
                rintro e w6 ⟨rfl, q6, rfl⟩
                have k6 : New w5 (w5.drewN q6) := (Kept.refl _ _).drewN _
                have hkw6 := hkw5.trans k6
                have HA6 := Lib.hid (k6.heap HA5.out (fun h => h))
                have HB6 := Lib.hid (k6.heap HB5.out (fun h => h))
                have HS6 := Lib.hid ((Sep.ok (EP.ok b sd M') (RF.ok _ _ _)).mono ((Sep.ok (EP.ok b sd M') (RF.ok _ _ _)).kept HS5.out k6 (fun _ _ h => h)) HOw.out)
                go_wp2_with fail
                go_meet
                exact ⟨b, sd, M', false, 0, 0, on0, 0, rfl, rfl, rfl, by omega, hkw6, HS6.out, HA6.out, HB6.out⟩
              · have hkb3 : (z.kind == 3) = false := by simpa using hk3
                by_cases hk4 : z.kind = 4
                · rw [hk4] at e0
                  obtain ⟨_, hn0⟩ := Sep.one HSW.out
                  have hcall := copy_any b sd M W hn0 (by omega)
                  have Hcall := Lib.hid hcall
                  clear hcall hn0
                  go_wp2_with fail
                  refine Hcall.out.mono ?_
                  rintro e w3 ⟨b', rfl, -, hE3, hk3⟩
                  have hkw3 := hkW.trans hk3
                  have hA3 := hk3.heap HA0.out (fun h => h)
                  have hB3 := hk3.heap HB0.out (fun h => h)
                  have hZ3 := hk3.heap HZ0.out (fun h => h)
                  have hS3 : Sep (EP b sd M) (Sep (EP b' sd M) (RX q sd M)) O w3 := (Sep.fresh (N := EP b' sd M) (Sep.ok (EP.ok b sd M) (RF.ok _ _ _)) HSW.out hE3 hk3 (HON.out W (Nat.le_refl _))).turn
                  obtain ⟨⟨⟨m1, m2, m3, m4, er⟩, sd1, M1⟩, hrE⟩ : ∃ r, recvE sd M ⟨777, 0, 0, 0, 0, 0, 0, false⟩ true = r := ⟨_, rfl⟩
                  have hM1 := recvE_length hrE
                  have hcall := recv_zo (Sep.ok (EP.ok b' sd M) (RF.ok q (refS sd M) (refR sd M))) b sd sd1 true m1 M M1 ⟨777, 0, 0, 0, 0, 0, 0, false⟩ m4 m2 m3 er w3 hS3 (HON.out w3 hk3.size) (by omega) hrE
                  have Hcall2 := Lib.hid hcall
                  have hs3 := hk3.size
                  clear hcall hE3 hS3 hrE Hcall hk3 HSW
                  go_wp2_with fail
                  refine Hcall2.out.mono ?_
                  rintro e w4 ⟨rfl, hS4, hk4⟩
                  have hkw4 := hkw3.new hk4 HOw.out
                  have hA4 := hk4.heap hA3 (fun h => (HOz.out _ h).2.1 rfl)
                  have hB4 := hk4.heap hB3 (fun h => (HOz.out _ h).2.2 rfl)
                  have hZ4 := hk4.heap hZ3 (fun h => (HOz.out _ h).1 rfl)
                  clear e0 e1 e2 e3 e4 e5 e6 e7 e8 e9
                  obtain ⟨e0, e1, e2, e3, e4, e5, e6, e7, e8, e9⟩ := op10 hZ4
                  obtain ⟨M2, hM2⟩ : ∃ M2, M1.filter (fun x => !(x.who == z.x.who)) = M2 := ⟨_, rfl⟩
                  obtain ⟨r2, hr2⟩ : ∃ r2, r2 = decide (M2.length < M1.length) := ⟨_, rfl⟩
                  have hcall := cancel_zo (Sep.ok (EP.ok b' sd M) (RF.ok q (refS sd M) (refR sd M))) b sd1 M1 M2 z.x.who r2 w4 hS4 (HON.out w4 (Nat.le_trans hs3 hk4.size)) (by omega) hM2 hr2
                  have Hcall3 := Lib.hid hcall
                  clear hcall hS4 hk4 hA3 hB3 hZ3 hZ4 hkw3 hM2 hr2 Hcall2
                  go_wp2_with fail
                  refine Hcall3.out.mono ?_
                  rintro e w5 ⟨rfl, hS5, hk5⟩
                  have hkw5 := hkw4.new hk5 HOw.out
                  have HA5 := Lib.hid (hk5.heap hA4 (fun h => (HOz.out _ h).2.1 rfl))
                  have HB5 := Lib.hid (hk5.heap hB4 (fun h => (HOz.out _ h).2.2 rfl))
                  have HS5 := Lib.hid ((Sep.ok (EP.ok b' sd M) (RF.ok q (refS sd M) (refR sd M))).mono (Sep.snd (Sep.ok (EP.ok b' sd M) (RF.ok q (refS sd M) (refR sd M))) hS5) HOw.out)
                  clear hS5 hk5 hA4 hB4 hkw4 Hcall3 e0 e1 e2 e3 e4 e5 e6 e7 e8 e9
                  go_wp2_with fail
                  go_meet
                  exact ⟨b', sd, M, false, 0, 0, on0, 0, rfl, rfl, rfl, by omega, hkw5, HS5.out, HA5.out, HB5.out⟩
                · have hkb4 : (z.kind == 4) = false := by simpa using hk4
                  have HS5 := Lib.hid ((Sep.ok (EP.ok b sd M) (RF.ok _ _ _)).mono HSW.out HOw.out)
                  go_wp2_with fail
                  go_meet
                  exact ⟨b, sd, M, false, 0, 0, on0, 0, rfl, rfl, rfl, by omega, hkW, HS5.out, HA0.out, HB0.out⟩
      case rest =>
        obtain ⟨b', sd', M', m1, m2, m3, m4, er, rfl, rfl, rfl, hM', hkw, HS, HA, HB⟩ := hcut
        clear e0 e1 e2 e3 e4 e5 e6 e7 e8 e9 HZ0 HA0 HB0 HON HSW hkW HOw HOz hkr
        obtain ⟨O1, O2, g1, g2, -, -⟩ := HS.out
        obtain ⟨r', hr'⟩ : ∃ r', r' = (sd' && decide (0 < M'.length)) := ⟨_, rfl⟩
        obtain ⟨F, hF⟩ : ∃ F, F = M'.map (fun x => x.who) := ⟨_, rfl⟩
        obtain ⟨f1, f2⟩ := ref_waits sd' M'
        obtain ⟨mm, hmm⟩ : ∃ mm, mm = M'.length := ⟨_, rfl⟩
        have hFl : F.length = mm := by rw [hF, List.length_map, hmm]
        have hcall := waits_any b' sd' r' M' wc g1 (by omega) hr'
        rw [← hF, ← hmm] at hcall
        have hcall2 : ∀ W', New wc W' → Calls Try.prog 24 #[.pointer (some ⟨q, 0, none⟩)] W' fun e w' => ∃ v, e = .returned (.tuple #[v, .bool r']) ∧ w'.ownsRow W'.heap.size 3 1 v F.length (vI F) ∧ New W' w' := fun W' hk => rwaits_any q (refS sd' M') (refR sd' M') F r' W' ((RF.ok q (refS sd' M') (refR sd' M')).kept g2 hk (fun _ _ h => h)) (by have := refS_len sd' M'; omega) (by have := refR_len sd' M'; omega) (by rw [hF]; exact f1) (by rw [hr']; exact f2)
        rw [hFl] at hcall2
        have Hcall := Lib.hid hcall
        have Hcall2 := Lib.hid hcall2
        have HFl := Lib.hid hFl
        have hm0 : mm ≤ 900 := by omega
        have hm1 : mm ≤ k + 1 := by omega
        have Hmm := Lib.hid hmm
        clear hcall hcall2 g1 g2 hr' hF f1 f2 hFl hmm hM'
        go_wp2_with fail
        refine Hcall.out.mono ?_
        rintro e w5 ⟨v5, rfl, hown5, hk5⟩
        obtain ⟨ao5, c5, hv5, -⟩ := Src.of_own hown5
        subst hv5
        have hC5 : Sep (CP ao5 mm) (Sep (EP b' sd' M') (RX q sd' M')) (fun k => w.heap.size ≤ k) w5 := Sep.fresh (Sep.ok (EP.ok _ _ _) (RF.ok _ _ _)) HS.out (CP.of_own hown5) hk5 (fun k hk => Nat.le_trans hkw.size hk)
        have hs5 := Src.of_own hown5
        have hkw5 := hkw.trans hk5
        have hA5 := hk5.heap HA.out (fun h => h)
        have hB5 := hk5.heap HB.out (fun h => h)
        have HC5 := Lib.hid hC5
        have Hs5 := Lib.hid hs5
        have Hk5 := Lib.hid hk5
        clear hC5 hs5 hown5 hkw hk5 HS HA HB
        go_wp2_with fail
        refine (Hcall2.out _ Hk5.out).mono ?_
        rintro e w6 ⟨v6, rfl, hown6, hk6⟩
        have hkw6 := hkw5.trans hk6
        have hA6 := hk6.heap hA5 (fun h => h)
        have hB6 := hk6.heap hB5 (fun h => h)
        have hC6 := (Sep.ok (CP.ok ao5 mm) (Sep.ok (EP.ok b' sd' M') (RF.ok _ _ _))).kept HC5.out hk6 (fun _ _ h => h)
        have HC6 := Lib.hid hC6
        have hnums := nums_any (.slice ao5 mm c5) v6 mm F w6 (Hs5.out.same hk6) (Src.of_own hown6) (by omega)
        have Hnums := Lib.hid hnums
        obtain ⟨t0, u0, t1, u1, t2, u2, t3, u3, t4, u4, t5, u5, t6, u6, t7, u7, t8, u8, t9, u9⟩ := of10 hA6
        obtain ⟨t10, u10, t11, u11, t12, u12, t13, u13, t14, u14, t15, u15, t16, u16, t17, u17, t18, u18, t19, u19⟩ := of10 hB6
        clear hnums hC6 hown6 hk6 hkw5 hA5 hB5 hA6 hB6 Hcall Hcall2 Hk5 HC5 Hs5 u0 u1 u2 u3 u4 u5 u6 u7 u8 u9 u10 u11 u12 u13 u14 u15 u16 u17 u18 u19
        go_wp2_with fail
        refine Hnums.out.mono ?_
        rintro e w7 ⟨rfl, qd, rfl⟩
        have hC8 : Sep (CP ao5 mm) (Sep (EP b' sd' M') (RX q sd' M')) (fun k => w.heap.size ≤ k) (w6.drewN qd) :=
          (Sep.ok (CP.ok _ _) (Sep.ok (EP.ok _ _ _) (RF.ok _ _ _))).kept HC6.out ((Kept.refl (fun _ => False) w6).drewN qd) (fun _ _ h => h)
        have hk8 := hkw6.drewN qd
        clear t0 t1 t2 t3 t4 t5 t6 t7 t8 t9 t10 t11 t12 t13 t14 t15 t16 t17 t18 t19 HC6 Hnums hkw6
        go_wp2_with fail
        go_loopw [18] (fun s wi => ∃ r : Nat, r ≤ mm ∧ s = .int .i64 r ∧ Sep (CP ao5 mm) (Sep (EP b' sd' M') (RX q sd' M')) (fun k => w.heap.size ≤ k) wi ∧ New w wi) (fun s _ => mm - (intOf s).toNat)
        case atStart => exact ⟨0, by omega, rfl, hC8, hk8⟩
        case round =>
          clear hC8 hk8
          obtain ⟨r, hrm, rfl, hCr, hkr⟩ := hrel
          by_cases hrl : r < mm
          · obtain ⟨O5, O6, p1, p2, p3, p4⟩ := hCr
            obtain ⟨g9, cs, rfl, hgc, hcs, hOg⟩ := p1 (by omega)
            have P2 := Lib.hid p2
            have P3 := Lib.hid p3
            have P4 := Lib.hid p4
            obtain ⟨u, hu⟩ : ∃ u, cs[r]? = some u := ⟨_, Array.getElem?_eq_getElem (by omega)⟩
            have hcu : wr.cell? ⟨g9, r, none⟩ = some u := by rw [cell_blk hgc r]; exact hu
            have hfu := free_blk hgc r
            have hgc9 := heap_setCell_same wr g9 r cs 3 (.int .i64 99) hgc
            have hks : Kept O5 wr (wr.setCell ⟨g9, r, none⟩ (.int .i64 99)) := (Kept.refl O5 wr).setCell (.inr hOg) _
            have hst := Sep.step (P' := CP (some ⟨g9, 0, none⟩) mm) (Sep.ok (EP.ok b' sd' M') (RF.ok q (refS sd' M') (refR sd' M'))) P2.out P3.out P4.out (fun _ => ⟨g9, _, rfl, hgc9, by simpa using hcs, .inl hOg⟩) hks (fun k hk => Nat.le_trans hkr.size hk)
            have hk9 := hkr.new hst.2 (fun i hi => hi)
            have Hst := Lib.hid hst.1
            clear p1 p2 p3 p4 hst hks hgc9 hgc hu P2 P3 P4 hkr
            go_wp2_with fail
            go_roundw
            case rel => exact ⟨r + 1, by omega, by go_num, Hst.out, hk9⟩
            case measure => simp [intOf]; omega
          · go_wp2_with fail
            go_roundw
            case rel => exact ⟨k + 1, b', sd', M', by omega, by omega, rfl, by go_num, by have := Hmm.out; omega, hkr, Sep.snd (Sep.ok (EP.ok b' sd' M') (RF.ok q (refS sd' M') (refR sd' M'))) hCr⟩
            case measure => simp [intOf]; omega
    · by_cases h3 : k < len
      · have h2' : ¬ ((k : Int) < 80) := by omega
        go_wp2_with fail
        refine (fixed_any _).mono ?_
        rintro e w11 ⟨rfl, hk11⟩
        go_wp2_with fail
        go_ret
        exact ⟨rfl, none_below (hkr.trans hk11)⟩
      · have h3' : ¬ ((k : Int) < len) := by omega
        go_wp2_with fail
        refine (fixed_any _).mono ?_
        rintro e w11 ⟨rfl, hk11⟩
        go_wp2_with fail
        go_ret
        exact ⟨rfl, none_below (hkr.trans hk11)⟩
end Go.Proofs.Ytanongcaokldmaa

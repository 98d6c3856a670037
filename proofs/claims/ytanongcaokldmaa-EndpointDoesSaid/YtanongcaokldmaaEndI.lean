/- Package endpoint: rows of calls as things; is one among some; those that wait to send. -/
import Derived.Test.YtanongcaokldmaaEndH
set_option linter.all false
namespace Go.Proofs.Ytanongcaokldmaa
open Go.RowKit

abbrev blkP (z : Opr) : Obj := .cells #[.int .i64 z.kind, .int .i64 z.x.who, .int .i64 z.x.la, .int .u64 z.x.w0, .int .u64 z.x.w1, .int .u64 z.x.w2, .int .u64 z.x.w3, .int .u64 z.x.bg, .bool z.x.ca, .bool z.wa] 30
theorem info30 : (Try.prog.info? 30).map (fun i => (i.zero, i.size, i.bytes)) = some (some (.agg (encP ⟨0, on0, false⟩).toArray), 10, 80) := by kernel_rfl
theorem own_op {w : World} {base g n c : Nat} {L : List Opr} (h : w.ownsRow base 30 10 (.slice (some ⟨g, 0, none⟩) n c) n (L.flatMap encP)) {k : Nat} {z : Opr} (hx : L[k]? = some z) :
    w.cell? ⟨g, k * 10, none⟩ = some (.int .i64 z.kind) ∧ w.cell? ⟨g, k * 10 + 1, none⟩ = some (.int .i64 z.x.who) ∧ w.cell? ⟨g, k * 10 + 2, none⟩ = some (.int .i64 z.x.la) ∧ w.cell? ⟨g, k * 10 + 3, none⟩ = some (.int .u64 z.x.w0) ∧ w.cell? ⟨g, k * 10 + 4, none⟩ = some (.int .u64 z.x.w1) ∧ w.cell? ⟨g, k * 10 + 5, none⟩ = some (.int .u64 z.x.w2) ∧ w.cell? ⟨g, k * 10 + 6, none⟩ = some (.int .u64 z.x.w3) ∧ w.cell? ⟨g, k * 10 + 7, none⟩ = some (.int .u64 z.x.bg) ∧ w.cell? ⟨g, k * 10 + 8, none⟩ = some (.bool z.x.ca) ∧ w.cell? ⟨g, k * 10 + 9, none⟩ = some (.bool z.wa) := by
  have key : ∀ i v, i < 10 → (encP z)[i]? = some v → w.cell? ⟨g, k * 10 + i, none⟩ = some v := by
    intro i v hi hv
    have h1 := enc_get encP_len hx hi
    rw [hv] at h1
    have h2 := h.cells (g := g) rfl _ _ h1
    rw [addr_add, Nat.zero_add] at h2
    exact h2
  exact ⟨by simpa using key 0 _ (by omega) rfl, key 1 _ (by omega) rfl, key 2 _ (by omega) rfl, key 3 _ (by omega) rfl, key 4 _ (by omega) rfl, key 5 _ (by omega) rfl, key 6 _ (by omega) rfl, key 7 _ (by omega) rfl, key 8 _ (by omega) rfl, key 9 _ (by omega) rfl⟩
def PQ (v : Value) (L : List Opr) : Thing := fun O w => w.ownsRow 0 30 10 v L.length (L.flatMap encP) ∧ ∀ k, v.ownBlock = some k → O k
theorem PQ.ok (v : Value) (L : List Opr) : (PQ v L).Ok :=
  ⟨fun h k hF => ⟨own_kept h.1 k (fun i hi => hF i (h.2 i hi)), h.2⟩, fun h => ⟨h.1, fun k hk => ⟨h.2 k hk, own_size h.1 hk⟩⟩, fun h hO => ⟨h.1, fun k hk => hO k (h.2 k hk)⟩⟩
/-- One of its calls. -/
theorem PQ.at {ao : Option Addr} {n c : Nat} {L : List Opr} {O : Nat → Prop} {w : World} (h : PQ (.slice ao n c) L O w) (hn : n = L.length) {k : Nat} {z : Opr} (hy : L[k]? = some z) : ∃ g, ao = some ⟨g, 0, none⟩ ∧ w.cell? ⟨g, k * 10, none⟩ = some (.int .i64 z.kind) ∧ w.cell? ⟨g, k * 10 + 1, none⟩ = some (.int .i64 z.x.who) ∧ w.cell? ⟨g, k * 10 + 2, none⟩ = some (.int .i64 z.x.la) ∧ w.cell? ⟨g, k * 10 + 3, none⟩ = some (.int .u64 z.x.w0) ∧ w.cell? ⟨g, k * 10 + 4, none⟩ = some (.int .u64 z.x.w1) ∧ w.cell? ⟨g, k * 10 + 5, none⟩ = some (.int .u64 z.x.w2) ∧ w.cell? ⟨g, k * 10 + 6, none⟩ = some (.int .u64 z.x.w3) ∧ w.cell? ⟨g, k * 10 + 7, none⟩ = some (.int .u64 z.x.bg) ∧ w.cell? ⟨g, k * 10 + 8, none⟩ = some (.bool z.x.ca) ∧ w.cell? ⟨g, k * 10 + 9, none⟩ = some (.bool z.wa) := by
  have h1 := h.1
  rw [← hn] at h1
  obtain ⟨g, cap, hv, -, -, -⟩ := Row.of_ownS h1 (by have := lt_of_some hy; omega)
  simp only [Value.slice.injEq] at hv
  obtain ⟨rfl, -, rfl⟩ := hv
  exact ⟨g, rfl, own_op h1 hy⟩
theorem Src.tailP {w : World} {ao : Option Addr} {n cap m : Nat} {F : List Opr} (h : Src w (.slice ao n cap) n 10 (F.flatMap encP)) (hm : m ≤ n) : Src w (.slice (ao.map (fun x => x.add (m * 10))) (n - m) (cap - m)) (n - m) 10 ((F.drop m).flatMap encP) := by
  obtain ⟨ao', c', he, hc, hl, h3⟩ := h
  simp only [Value.slice.injEq, true_and] at he
  obtain ⟨rfl, rfl⟩ := he
  rw [oprs_len] at hl
  have hF : F.flatMap encP = (F.take m).flatMap encP ++ (F.drop m).flatMap encP := by rw [← List.flatMap_append, List.take_append_drop]
  have hT : ((F.take m).flatMap encP).length = m * 10 := by rw [oprs_len, List.length_take]; congr 1; omega
  refine ⟨_, _, rfl, fun h => ?_, by rw [oprs_len, List.length_drop]; congr 1; omega, fun j u hj => ?_⟩
  · have : ao = none := by simpa using h
    rw [hc this]; omega
  · obtain ⟨ad, e, h4⟩ := h3 (m * 10 + j) u (by rw [hF, List.getElem?_append_right (by omega), hT, Nat.add_sub_cancel_left]; exact hj)
    subst e
    exact ⟨_, rfl, by rw [Deep.add_add]; exact h4⟩

def inP (L : List Opr) (who : Int) : Bool := L.any (fun z => z.x.who == who)
theorem inP_take {L : List Opr} {who : Int} {k : Nat} {z : Opr} (h : inP (L.take k) who = false) (hz : L[k]? = some z) (hw : (z.x.who == who) = false) : inP (L.take (k + 1)) who = false := by
  unfold inP at h ⊢
  rw [List.take_add_one, hz, List.any_append, h]
  simpa using hw
theorem inP_hit {L : List Opr} {who : Int} {k : Nat} {z : Opr} (hz : L[k]? = some z) (hw : (z.x.who == who) = true) : inP L who = true := by
  unfold inP
  rw [List.any_eq_true]
  exact ⟨z, List.mem_of_getElem? hz, hw⟩

set_option maxRecDepth 100000 in
set_option maxHeartbeats 1000000 in
theorem among_any (v : Value) (n : Nat) (L : List Opr) (who : Int) (r : Bool) (w : World) (ha : Src w v n 10 (L.flatMap encP)) (hn : n ≤ 1000000) (hr : r = inP L who) :
    Calls Try.prog 16 #[v, .int .i64 who] w fun e w' => e = .returned (.bool r) ∧ New w w' := by
  obtain ⟨hl, ao, ca, rfl, hca⟩ := Src.ops ha
  have Hl := Lib.hid hl
  have Ha := Lib.hid hca
  have Hr := Lib.hid hr
  clear hl hca ha hr
  go_enter Try.func16, Try.ntmps16
  go_wp2
  go_loopw [5] (fun i wr => ∃ k : Nat, k ≤ n ∧ i = .int .i64 k ∧ inP (L.take k) who = false ∧ New w wr) (fun i _ => n - (intOf i).toNat)
  case atStart => exact ⟨0, Nat.zero_le _, rfl, rfl, Kept.refl _ _⟩
  case round =>
    obtain ⟨k, hk, rfl, hno, hkr⟩ := hrel
    have Hno := Lib.hid hno
    clear hno
    by_cases hlt : k < n
    · obtain ⟨z, hz⟩ : ∃ z, L[k]? = some z := ⟨_, List.getElem?_eq_getElem (by have := Hl.out; omega)⟩
      obtain ⟨B, Of, rfl, -, c1, -⟩ := Ha.out k z hz
      have c1' := cell_kept hkr c1 (fun h => h)
      have Hz := Lib.hid hz
      clear hz c1
      cases hw : (z.x.who == who) with
      | true =>
        have Hw := Lib.hid hw
        have hwe : z.x.who = who := by simpa using hw
        clear hw
        go_wp2_with fail
        go_ret
        refine ⟨?_, hkr⟩
        rw [Hr.out, inP_hit Hz.out Hw.out]; rfl
      | false =>
        have Hw := Lib.hid hw
        have hwe : ¬ z.x.who = who := by simpa using hw
        clear hw
        go_wp2_with fail
        go_roundw
        case rel => exact ⟨k + 1, by omega, by go_num, inP_take Hno.out Hz.out Hw.out, hkr⟩
        case measure => simp [intOf]; omega
    · go_wp2_with fail
      go_ret
      refine ⟨?_, hkr⟩
      have := Hno.out
      rw [List.take_of_length_le (by have := Hl.out; omega)] at this
      rw [Hr.out, this]; rfl

/-- Those that wait to send. -/
def lineO (L : List Opr) (z : Opr) : List Opr := if inP L z.x.who then L else L ++ [z]
theorem any_X (L : List Opr) (x : Int) : (L.map Opr.x).any (fun y => y.who == x) = inP L x := by
  unfold inP; rw [List.any_map]; rfl
theorem lineO_length (L : List Opr) (z : Opr) : (lineO L z).length ≤ L.length + 1 := by
  unfold lineO; split <;> simp
theorem sendE_in (L : List Opr) (z : Opr) (er : Int) (he : er = if inP L z.x.who then 110 else 0) : sendE (decide (0 < L.length)) (L.map Opr.x) z.x true = ((false, 0, 0, on0, er), decide (0 < (lineO L z).length), (lineO L z).map Opr.x) := by
  unfold sendE lineO
  rw [any_X]
  by_cases h : inP L z.x.who = true
  · rw [if_pos h, if_pos h, he, if_pos h]
  · rw [if_neg h, if_neg h, he, if_neg h]
    have h1 : ¬ (decide (0 < L.length) = false ∧ L.map Opr.x ≠ []) := by
      rintro ⟨h2, h3⟩
      apply h3
      simp only [decide_eq_false_iff_not, Nat.not_lt, Nat.le_zero, List.length_eq_zero_iff] at h2
      rw [h2]; rfl
    rw [if_neg h1]
    simp
/-- One more waits to send. -/
theorem send_in {O : Nat → Prop} (b : Nat) (L : List Opr) (z : Opr) (er : Int) (w : World) (h : Ep O w b (decide (0 < L.length)) (L.map Opr.x)) (hL : L.length ≤ 1000) (he : er = if inP L z.x.who then 110 else 0) :
    Calls Try.prog 12 #[.pointer (some ⟨b, 0, none⟩), .int .i64 z.x.who, msgV z.x, .bool true] w fun e w' => e = .returned (.tuple #[metV false 0 0 on0, .int .i64 er]) ∧ Ep (fun k => O k ∨ w.heap.size ≤ k) w' b (decide (0 < (lineO L z).length)) ((lineO L z).map Opr.x) ∧ Kept O w w' :=
  send_st b _ _ true false _ _ z.x on0 0 0 er w h (by simpa using hL) (sendE_in L z er he)
theorem send_sep {Q : Thing} (hQ : Q.Ok) {O : Nat → Prop} (b : Nat) (L : List Opr) (z : Opr) (er : Int) (w : World) (h : Sep (EP b (decide (0 < L.length)) (L.map Opr.x)) Q O w) (hO : ∀ k, w.heap.size ≤ k → O k) (hL : L.length ≤ 1000) (he : er = if inP L z.x.who then 110 else 0) :
    Calls Try.prog 12 #[.pointer (some ⟨b, 0, none⟩), .int .i64 z.x.who, msgV z.x, .bool true] w fun e w' => e = .returned (.tuple #[metV false 0 0 on0, .int .i64 er]) ∧ Sep (EP b (decide (0 < (lineO L z).length)) ((lineO L z).map Opr.x)) Q O w' ∧ Kept O w w' := by
  obtain ⟨O1, O2, h1, h2, h3, h4⟩ := h
  refine (send_in b L z er w h1 hL he).mono ?_
  rintro e w1 ⟨rfl, hA, hk⟩
  obtain ⟨hS, hk'⟩ := Sep.step (P' := EP b (decide (0 < (lineO L z).length)) ((lineO L z).map Opr.x)) hQ h2 h3 h4 hA hk hO
  exact ⟨rfl, hS, hk'⟩
end Go.Proofs.Ytanongcaokldmaa

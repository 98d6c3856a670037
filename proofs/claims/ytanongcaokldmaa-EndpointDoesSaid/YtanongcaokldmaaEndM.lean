/- Package endpoint: calls told of what they touch; which way a call went. -/
import Derived.Test.YtanongcaokldmaaEndK
set_option linter.all false
namespace Go.Proofs.Ytanongcaokldmaa
open Go.RowKit

theorem send_in2 (n0 : Nat) (b : Nat) (sd sd' wa m1 : Bool) (M M' : List On) (x m4 : On) (m2 m3 er : Int) (wr : World) (h : Ep (fun k => n0 ≤ k) wr b sd M) (hM : M.length ≤ 1000) (he : sendE sd M x wa = ((m1, m2, m3, m4, er), sd', M')) (W : World) (hk : New wr W) :
    Calls Try.prog 12 #[.pointer (some ⟨b, 0, none⟩), .int .i64 x.who, msgV x, .bool wa] W fun e w' => e = .returned (.tuple #[metV m1 m2 m3 m4, .int .i64 er]) ∧ Ep (fun k => (n0 ≤ k ∧ k < wr.heap.size) ∨ W.heap.size ≤ k) w' b sd' M' ∧ Kept (fun k => n0 ≤ k ∧ k < wr.heap.size) W w' := by
  have g1 : Ep (fun k => n0 ≤ k ∧ k < wr.heap.size) wr b sd M := Ep.sized h
  exact send_st b sd sd' wa m1 M M' x m4 m2 m3 er W (g1.same hk) hM he
theorem recv_in2 (n0 : Nat) (b : Nat) (sd sd' wa m1 : Bool) (M M' : List On) (x m4 : On) (m2 m3 er : Int) (wr : World) (h : Ep (fun k => n0 ≤ k) wr b sd M) (hM : M.length ≤ 1000) (he : recvE sd M x wa = ((m1, m2, m3, m4, er), sd', M')) (W : World) (hk : New wr W) :
    Calls Try.prog 13 #[.pointer (some ⟨b, 0, none⟩), .int .i64 x.who, .bool wa] W fun e w' => e = .returned (.tuple #[metV m1 m2 m3 m4, .int .i64 er]) ∧ Ep (fun k => (n0 ≤ k ∧ k < wr.heap.size) ∨ W.heap.size ≤ k) w' b sd' M' ∧ Kept (fun k => n0 ≤ k ∧ k < wr.heap.size) W w' := by
  have g1 : Ep (fun k => n0 ≤ k ∧ k < wr.heap.size) wr b sd M := Ep.sized h
  exact recv_st b sd sd' wa m1 M M' x m4 m2 m3 er W (g1.same hk) hM he
theorem sendE_cases {sd wa sd' m1 : Bool} {M M' : List On} {x m4 : On} {m2 m3 er : Int} (h : sendE sd M x wa = ((m1, m2, m3, m4, er), sd', M')) :
    (er = 110 ∧ m1 = false ∧ M' = M ∧ 0 < M.length) ∨ (er = 0 ∧ m1 = true ∧ m2 = x.who ∧ m4 = x ∧ sd = false ∧ ∃ a l, M = a :: l ∧ m3 = a.who ∧ M' = l) ∨ (er = 0 ∧ m1 = false ∧ ((wa = true ∧ M' = M ++ [x]) ∨ (wa = false ∧ M' = M)) ∧ (M = [] ∨ sd = true ∧ 0 < M.length)) := by
  unfold sendE at h
  split at h
  · rename_i h2
    simp only [Prod.mk.injEq] at h
    obtain ⟨⟨rfl, -, -, -, rfl⟩, -, rfl⟩ := h
    refine .inl ⟨rfl, rfl, rfl, ?_⟩
    cases M with
    | nil => simp at h2
    | cons a l => simp
  · split at h
    · rename_i h2
      simp only [Prod.mk.injEq] at h
      obtain ⟨⟨rfl, rfl, rfl, rfl, rfl⟩, rfl, rfl⟩ := h
      refine .inr (.inl ⟨rfl, rfl, rfl, rfl, h2.1, ?_⟩)
      cases M with
      | nil => exact (h2.2 rfl).elim
      | cons a l => exact ⟨a, l, rfl, rfl, rfl⟩
    · rename_i h2
      have hc : M = [] ∨ sd = true ∧ 0 < M.length := by
        cases M with
        | nil => exact .inl rfl
        | cons a l =>
          cases sd with
          | true => exact .inr ⟨rfl, by simp⟩
          | false => exact (h2 ⟨rfl, by simp⟩).elim
      split at h
      · rename_i h3
        simp only [Prod.mk.injEq] at h
        obtain ⟨⟨rfl, -, -, -, rfl⟩, -, rfl⟩ := h
        exact .inr (.inr ⟨rfl, rfl, .inl ⟨h3, rfl⟩, hc⟩)
      · rename_i h3
        simp only [Prod.mk.injEq] at h
        obtain ⟨⟨rfl, -, -, -, rfl⟩, -, rfl⟩ := h
        exact .inr (.inr ⟨rfl, rfl, .inr ⟨by simpa using h3, rfl⟩, hc⟩)
theorem recvE_cases {sd wa sd' m1 : Bool} {M M' : List On} {x m4 : On} {m2 m3 er : Int} (h : recvE sd M x wa = ((m1, m2, m3, m4, er), sd', M')) :
    (er = 110 ∧ m1 = false ∧ M' = M ∧ 0 < M.length) ∨ (er = 0 ∧ m1 = true ∧ m3 = x.who ∧ sd = true ∧ ∃ a l, M = a :: l ∧ m2 = a.who ∧ M' = l) ∨ (er = 0 ∧ m1 = false ∧ ((wa = true ∧ M' = M ++ [RO x.who]) ∨ (wa = false ∧ M' = M)) ∧ (M = [] ∨ sd = false ∧ 0 < M.length)) := by
  unfold recvE at h
  split at h
  · rename_i h2
    simp only [Prod.mk.injEq] at h
    obtain ⟨⟨rfl, -, -, -, rfl⟩, -, rfl⟩ := h
    refine .inl ⟨rfl, rfl, rfl, ?_⟩
    cases M with
    | nil => simp at h2
    | cons a l => simp
  · split at h
    · rename_i h2
      simp only [Prod.mk.injEq] at h
      obtain ⟨⟨rfl, rfl, rfl, rfl, rfl⟩, rfl, rfl⟩ := h
      refine .inr (.inl ⟨rfl, rfl, rfl, h2.1, ?_⟩)
      cases M with
      | nil => exact (h2.2 rfl).elim
      | cons a l => exact ⟨a, l, rfl, rfl, rfl⟩
    · rename_i h2
      have hc : M = [] ∨ sd = false ∧ 0 < M.length := by
        cases M with
        | nil => exact .inl rfl
        | cons a l =>
          cases sd with
          | false => exact .inr ⟨rfl, by simp⟩
          | true => exact (h2 ⟨rfl, by simp⟩).elim
      split at h
      · rename_i h3
        simp only [Prod.mk.injEq] at h
        obtain ⟨⟨rfl, -, -, -, rfl⟩, -, rfl⟩ := h
        exact .inr (.inr ⟨rfl, rfl, .inl ⟨h3, rfl⟩, hc⟩)
      · rename_i h3
        simp only [Prod.mk.injEq] at h
        obtain ⟨⟨rfl, -, -, -, rfl⟩, -, rfl⟩ := h
        exact .inr (.inr ⟨rfl, rfl, .inr ⟨by simpa using h3, rfl⟩, hc⟩)
set_option maxHeartbeats 1000000 in
theorem ten_heap {w : World} {q : Nat} {is : Bool} {f t : Int} {x : On} (h : w.heap[q]? = some (blkT is f t x)) (m1 : Bool) (m2 m3 : Int) (m4 : On) : ((((((((((w.setCell ⟨q, 0, none⟩ (.bool m1)).setCell ⟨q, 1, none⟩ (.int .i64 m2)).setCell ⟨q, 2, none⟩ (.int .i64 m3)).setCell ⟨q, 3, none⟩ (.int .i64 m4.la)).setCell ⟨q, 4, none⟩ (.int .u64 m4.w0)).setCell ⟨q, 5, none⟩ (.int .u64 m4.w1)).setCell ⟨q, 6, none⟩ (.int .u64 m4.w2)).setCell ⟨q, 7, none⟩ (.int .u64 m4.w3)).setCell ⟨q, 8, none⟩ (.int .u64 m4.bg)).setCell ⟨q, 9, none⟩ (.bool m4.ca)).heap[q]? = some (blkT m1 m2 m3 m4) := by
  have h0 : (w.setCell ⟨q, 0, none⟩ (.bool m1)).heap[q]? = some (.cells #[.bool m1, .int .i64 f, .int .i64 t, .int .i64 x.la, .int .u64 x.w0, .int .u64 x.w1, .int .u64 x.w2, .int .u64 x.w3, .int .u64 x.bg, .bool x.ca] 35 (0, 0)) := heap_setCell_same _ _ 0 _ _ _ h
  have h1 : ((w.setCell ⟨q, 0, none⟩ (.bool m1)).setCell ⟨q, 1, none⟩ (.int .i64 m2)).heap[q]? = some (.cells #[.bool m1, .int .i64 m2, .int .i64 t, .int .i64 x.la, .int .u64 x.w0, .int .u64 x.w1, .int .u64 x.w2, .int .u64 x.w3, .int .u64 x.bg, .bool x.ca] 35 (0, 0)) := heap_setCell_same _ _ 1 _ _ _ h0
  have h2 : (((w.setCell ⟨q, 0, none⟩ (.bool m1)).setCell ⟨q, 1, none⟩ (.int .i64 m2)).setCell ⟨q, 2, none⟩ (.int .i64 m3)).heap[q]? = some (.cells #[.bool m1, .int .i64 m2, .int .i64 m3, .int .i64 x.la, .int .u64 x.w0, .int .u64 x.w1, .int .u64 x.w2, .int .u64 x.w3, .int .u64 x.bg, .bool x.ca] 35 (0, 0)) := heap_setCell_same _ _ 2 _ _ _ h1
  have h3 : ((((w.setCell ⟨q, 0, none⟩ (.bool m1)).setCell ⟨q, 1, none⟩ (.int .i64 m2)).setCell ⟨q, 2, none⟩ (.int .i64 m3)).setCell ⟨q, 3, none⟩ (.int .i64 m4.la)).heap[q]? = some (.cells #[.bool m1, .int .i64 m2, .int .i64 m3, .int .i64 m4.la, .int .u64 x.w0, .int .u64 x.w1, .int .u64 x.w2, .int .u64 x.w3, .int .u64 x.bg, .bool x.ca] 35 (0, 0)) := heap_setCell_same _ _ 3 _ _ _ h2
  have h4 : (((((w.setCell ⟨q, 0, none⟩ (.bool m1)).setCell ⟨q, 1, none⟩ (.int .i64 m2)).setCell ⟨q, 2, none⟩ (.int .i64 m3)).setCell ⟨q, 3, none⟩ (.int .i64 m4.la)).setCell ⟨q, 4, none⟩ (.int .u64 m4.w0)).heap[q]? = some (.cells #[.bool m1, .int .i64 m2, .int .i64 m3, .int .i64 m4.la, .int .u64 m4.w0, .int .u64 x.w1, .int .u64 x.w2, .int .u64 x.w3, .int .u64 x.bg, .bool x.ca] 35 (0, 0)) := heap_setCell_same _ _ 4 _ _ _ h3
  have h5 : ((((((w.setCell ⟨q, 0, none⟩ (.bool m1)).setCell ⟨q, 1, none⟩ (.int .i64 m2)).setCell ⟨q, 2, none⟩ (.int .i64 m3)).setCell ⟨q, 3, none⟩ (.int .i64 m4.la)).setCell ⟨q, 4, none⟩ (.int .u64 m4.w0)).setCell ⟨q, 5, none⟩ (.int .u64 m4.w1)).heap[q]? = some (.cells #[.bool m1, .int .i64 m2, .int .i64 m3, .int .i64 m4.la, .int .u64 m4.w0, .int .u64 m4.w1, .int .u64 x.w2, .int .u64 x.w3, .int .u64 x.bg, .bool x.ca] 35 (0, 0)) := heap_setCell_same _ _ 5 _ _ _ h4
  have h6 : (((((((w.setCell ⟨q, 0, none⟩ (.bool m1)).setCell ⟨q, 1, none⟩ (.int .i64 m2)).setCell ⟨q, 2, none⟩ (.int .i64 m3)).setCell ⟨q, 3, none⟩ (.int .i64 m4.la)).setCell ⟨q, 4, none⟩ (.int .u64 m4.w0)).setCell ⟨q, 5, none⟩ (.int .u64 m4.w1)).setCell ⟨q, 6, none⟩ (.int .u64 m4.w2)).heap[q]? = some (.cells #[.bool m1, .int .i64 m2, .int .i64 m3, .int .i64 m4.la, .int .u64 m4.w0, .int .u64 m4.w1, .int .u64 m4.w2, .int .u64 x.w3, .int .u64 x.bg, .bool x.ca] 35 (0, 0)) := heap_setCell_same _ _ 6 _ _ _ h5
  have h7 : ((((((((w.setCell ⟨q, 0, none⟩ (.bool m1)).setCell ⟨q, 1, none⟩ (.int .i64 m2)).setCell ⟨q, 2, none⟩ (.int .i64 m3)).setCell ⟨q, 3, none⟩ (.int .i64 m4.la)).setCell ⟨q, 4, none⟩ (.int .u64 m4.w0)).setCell ⟨q, 5, none⟩ (.int .u64 m4.w1)).setCell ⟨q, 6, none⟩ (.int .u64 m4.w2)).setCell ⟨q, 7, none⟩ (.int .u64 m4.w3)).heap[q]? = some (.cells #[.bool m1, .int .i64 m2, .int .i64 m3, .int .i64 m4.la, .int .u64 m4.w0, .int .u64 m4.w1, .int .u64 m4.w2, .int .u64 m4.w3, .int .u64 x.bg, .bool x.ca] 35 (0, 0)) := heap_setCell_same _ _ 7 _ _ _ h6
  have h8 : (((((((((w.setCell ⟨q, 0, none⟩ (.bool m1)).setCell ⟨q, 1, none⟩ (.int .i64 m2)).setCell ⟨q, 2, none⟩ (.int .i64 m3)).setCell ⟨q, 3, none⟩ (.int .i64 m4.la)).setCell ⟨q, 4, none⟩ (.int .u64 m4.w0)).setCell ⟨q, 5, none⟩ (.int .u64 m4.w1)).setCell ⟨q, 6, none⟩ (.int .u64 m4.w2)).setCell ⟨q, 7, none⟩ (.int .u64 m4.w3)).setCell ⟨q, 8, none⟩ (.int .u64 m4.bg)).heap[q]? = some (.cells #[.bool m1, .int .i64 m2, .int .i64 m3, .int .i64 m4.la, .int .u64 m4.w0, .int .u64 m4.w1, .int .u64 m4.w2, .int .u64 m4.w3, .int .u64 m4.bg, .bool x.ca] 35 (0, 0)) := heap_setCell_same _ _ 8 _ _ _ h7
  have h9 : ((((((((((w.setCell ⟨q, 0, none⟩ (.bool m1)).setCell ⟨q, 1, none⟩ (.int .i64 m2)).setCell ⟨q, 2, none⟩ (.int .i64 m3)).setCell ⟨q, 3, none⟩ (.int .i64 m4.la)).setCell ⟨q, 4, none⟩ (.int .u64 m4.w0)).setCell ⟨q, 5, none⟩ (.int .u64 m4.w1)).setCell ⟨q, 6, none⟩ (.int .u64 m4.w2)).setCell ⟨q, 7, none⟩ (.int .u64 m4.w3)).setCell ⟨q, 8, none⟩ (.int .u64 m4.bg)).setCell ⟨q, 9, none⟩ (.bool m4.ca)).heap[q]? = some (.cells #[.bool m1, .int .i64 m2, .int .i64 m3, .int .i64 m4.la, .int .u64 m4.w0, .int .u64 m4.w1, .int .u64 m4.w2, .int .u64 m4.w3, .int .u64 m4.bg, .bool m4.ca] 35 (0, 0)) := heap_setCell_same _ _ 9 _ _ _ h8
  exact h9
theorem op10 {w : World} {q : Nat} {z : Opr} (h : w.heap[q]? = some (blkP z)) : w.cell? ⟨q, 0, none⟩ = some (.int .i64 z.kind) ∧ w.cell? ⟨q, 1, none⟩ = some (.int .i64 z.x.who) ∧ w.cell? ⟨q, 2, none⟩ = some (.int .i64 z.x.la) ∧ w.cell? ⟨q, 3, none⟩ = some (.int .u64 z.x.w0) ∧ w.cell? ⟨q, 4, none⟩ = some (.int .u64 z.x.w1) ∧ w.cell? ⟨q, 5, none⟩ = some (.int .u64 z.x.w2) ∧ w.cell? ⟨q, 6, none⟩ = some (.int .u64 z.x.w3) ∧ w.cell? ⟨q, 7, none⟩ = some (.int .u64 z.x.bg) ∧ w.cell? ⟨q, 8, none⟩ = some (.bool z.x.ca) ∧ w.cell? ⟨q, 9, none⟩ = some (.bool z.wa) :=
  ⟨cell_blk h 0, cell_blk h 1, cell_blk h 2, cell_blk h 3, cell_blk h 4, cell_blk h 5, cell_blk h 6, cell_blk h 7, cell_blk h 8, cell_blk h 9⟩
end Go.Proofs.Ytanongcaokldmaa

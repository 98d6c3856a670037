/- Package endpoint: lengths of what is left; a call that is read. -/
import Derived.Test.YtanongcaokldmaaEndI
import Derived.Test.YtanongcaokldmaaEndJ
set_option linter.all false
namespace Go.Proofs.Ytanongcaokldmaa
open Go.RowKit

theorem opr_of_flat {cs : List Value} (h : FlatOk [.int .i64, .int .i64, .int .i64, .int .u64, .int .u64, .int .u64, .int .u64, .int .u64, .bool, .bool] cs) : ∃ z : Opr, cs = encP z ∧ (Lit.int .u64 z.x.bg).wf = true := by
  obtain ⟨L, h1, h2, h3⟩ := ops_of_rows (rows := [cs]) (by intro x hx; rw [List.mem_singleton.1 hx]; exact h)
  match L, h2 with
  | [z], _ => exact ⟨z, by simpa using h1, h3 z (by simp)⟩
theorem sendE_length {sd wa sd' : Bool} {L L' : List On} {x : On} {r : Bool × Int × Int × On × Int} (h : sendE sd L x wa = (r, sd', L')) : L'.length ≤ L.length + 1 := by
  unfold sendE at h
  split at h
  · simp only [Prod.mk.injEq] at h; rw [← h.2.2]; omega
  · split at h
    · simp only [Prod.mk.injEq] at h; rw [← h.2.2]; simp; omega
    · split at h
      · simp only [Prod.mk.injEq] at h; rw [← h.2.2]; simp
      · simp only [Prod.mk.injEq] at h; rw [← h.2.2]; omega
theorem recvE_length {sd wa sd' : Bool} {L L' : List On} {x : On} {r : Bool × Int × Int × On × Int} (h : recvE sd L x wa = (r, sd', L')) : L'.length ≤ L.length + 1 := by
  unfold recvE at h
  split at h
  · simp only [Prod.mk.injEq] at h; rw [← h.2.2]; omega
  · split at h
    · simp only [Prod.mk.injEq] at h; rw [← h.2.2]; simp; omega
    · split at h
      · simp only [Prod.mk.injEq] at h; rw [← h.2.2]; simp
      · simp only [Prod.mk.injEq] at h; rw [← h.2.2]; omega
theorem badgeE_length {sd : Bool} {L M : List On} {F : List Int} {s : Int} (h : badgeE sd L s = (F, M)) : M.length ≤ L.length ∧ F.length ≤ L.length := by
  unfold badgeE at h
  split at h
  · simp only [Prod.mk.injEq] at h
    rw [← h.2, ← h.1]
    exact ⟨List.length_filter_le _ _, hasB_length _ _⟩
  · simp only [Prod.mk.injEq] at h
    rw [← h.2, ← h.1]
    exact ⟨Nat.le_refl _, Nat.zero_le _⟩
end Go.Proofs.Ytanongcaokldmaa

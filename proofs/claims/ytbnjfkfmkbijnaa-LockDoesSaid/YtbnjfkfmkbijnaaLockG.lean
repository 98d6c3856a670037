/- Locks that stand apart: Enter and Leave with the blocks that they write told more closely. -/
import Derived.Test.YtbnjfkfmkbijnaaLockF
set_option linter.all false
namespace Go.Proofs.Ytbnjfkfmkbijnaa
open Go.RowKit

/-- What Enter and Leave may write: blocks of O, of the lock's types, no dead node. -/
def Fr (O : Nat → Prop) (w : World) (k : Nat) : Prop := O k ∧ Lt w k ∧ ∀ c fz, w.heap[k]? = some (.cells c 55 fz) → c[2]? = some (.bool true)

section
variable {O O' : Nat → Prop} {w w' : World} {b g n : Nat} {L : List Int}
theorem Lock.apart (h : Lock O w b g n L) (k : Kept (Fr O' w) w w') (hO : ∀ i, O i → O' i → False) : Lock O w' b g n L := by
  obtain ⟨N, h1, h2, h3⟩ := h
  exact ⟨N, h1, h2.kept k (fun i hi hF => hO i (h3 i hi) hF.1) (fun d c fz hF hh => hF.2.2 c fz hh), h3⟩
theorem Lock.sized (h : Lock O w b g n L) : Lock (fun k => O k ∧ k < w.heap.size) w b g n L := let ⟨N, h1, h2, h3⟩ := h; ⟨N, h1, h2, fun k hk => ⟨h3 k hk, h2.own_size hk⟩⟩
theorem Fr.not3 {k : Nat} {c : Array Value} {T : TypeId} (h : w.heap[k]? = some (.cells c T (0, 0))) (h1 : T ≠ 51) (h2 : T ≠ 49) (h3 : T ≠ 55) : ¬ Fr O w k := fun hF => not_lt h h1 h2 h3 hF.2.1
end

theorem enter2 {O : Nat → Prop} (b g n : Nat) (L L' : List Int) (c r : Int) (w : World) (h : Lock O w b g n L) (hr : enterE n L c = (r, L')) :
    Calls Try.prog 12 #[.pointer (some ⟨b, 0, none⟩), .int .i64 c] w fun e w' => e = .returned (.int .i64 r) ∧ Lock (fun k => O k ∨ w.heap.size ≤ k) w' b g n L' ∧ Kept (Fr O w) w w' := by
  obtain ⟨N, rfl, h, hO⟩ := h
  refine (enter_any _ _ _ _ _ _ h).mono ?_
  rintro e w' ⟨N', rfl, h1, h2, h3, h4⟩
  rw [hr] at h1 ⊢
  exact ⟨rfl, ⟨N', h1, h2, fun k hk => (h4 k hk).imp (hO k) (fun h => h)⟩, h3.mono fun k _ hk => ⟨hO k hk, h.own_lt hk, fun c fz hh => h.own_live hk hh⟩⟩
theorem leave2 {O : Nat → Prop} (b g n : Nat) (L L' : List Int) (c r : Int) (w : World) (h : Lock O w b g n L) (hr : leaveE n L c = (r, L')) :
    Calls Try.prog 11 #[.pointer (some ⟨b, 0, none⟩), .int .i64 c] w fun e w' => e = .returned (.int .i64 r) ∧ Lock O w' b g n L' ∧ Kept (Fr O w) w w' := by
  obtain ⟨N, rfl, h, hO⟩ := h
  refine (leave_any _ _ _ _ _ _ h).mono ?_
  rintro e w' ⟨N', rfl, h1, h2, h3, h4⟩
  rw [hr] at h1 ⊢
  exact ⟨rfl, ⟨N', h1, h2, fun k hk => hO k (h4 k hk)⟩, h3.mono fun k _ hk => ⟨hO k hk, h.own_lt hk, fun c fz hh => h.own_live hk hh⟩⟩
end Go.Proofs.Ytbnjfkfmkbijnaa

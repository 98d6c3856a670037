/- Package notify: a slice of numbers that is owned, beside others. -/
import Derived.Test.YtaaoegfdhpploaaNotE
set_option linter.all false
namespace Go.Proofs.Ytaaoegfdhpploaa
open Go.RowKit

def LQ (v : Value) (L : List Int) : Thing := fun O w => w.ownsRow 0 3 1 v L.length (vI L) ∧ ∀ k, v.ownBlock = some k → O k
theorem LQ.ok (v : Value) (L : List Int) : (LQ v L).Ok :=
  ⟨fun h k hF => ⟨own_kept h.1 k (fun i hi => hF i (h.2 i hi)), h.2⟩, fun h => ⟨h.1, fun k hk => ⟨h.2 k hk, own_size h.1 hk⟩⟩, fun h hO => ⟨h.1, fun k hk => hO k (h.2 k hk)⟩⟩
theorem LQ.fresh {v : Value} {L : List Int} {w : World} {base : Nat} (h : w.ownsRow base 3 1 v L.length (vI L)) : LQ v L (fun k => base ≤ k) w := ⟨own_mono h (Nat.zero_le _), fun k hk => own_block h hk⟩
/-- One of its numbers. -/
theorem LQ.at {ao : Option Addr} {n c : Nat} {L : List Int} {O : Nat → Prop} {w : World} (h : LQ (.slice ao n c) L O w) (hn : n = L.length) {j : Nat} {y : Int} (hy : L[j]? = some y) : ∃ g, ao = some ⟨g, 0, none⟩ ∧ w.cell? ⟨g, j, none⟩ = some (.int .i64 y) := by
  have h1 := h.1
  rw [← hn] at h1
  obtain ⟨g, cap, hv, -, -, -⟩ := Row.of_ownS h1 (by have := lt_of_some hy; omega)
  simp only [Value.slice.injEq] at hv
  obtain ⟨rfl, -, rfl⟩ := hv
  exact ⟨g, rfl, own_int h1 hy⟩
/-- Nobody waits anew. -/
theorem wait_out {O : Nat → Prop} (b : Nat) (wd : Int) (L : List Int) (who : Int) (r : Int) (w : World) (h : Nt O w b wd false L) (hL : L.length ≤ 1000) (hr : r = if who ∈ L then 120 else 0) :
    Calls Try.prog 11 #[.pointer (some ⟨b, 0, none⟩), .int .i64 who, .bool false] w fun e w' => e = .returned (.tuple #[.int .u64 0, .bool false, .int .i64 r]) ∧ w = w' := by
  by_cases hw : who ∈ L
  · rw [if_pos hw] at hr
    subst hr
    exact wait_there b wd false L who false w h hL hw
  · rw [if_neg hw] at hr
    subst hr
    exact wait_no b wd L who w h hL hw
theorem filter_drop {F : List Int} {x y : Int} {j : Nat} (h : F[j]? = some y) : (F.drop j).filter (fun z => !(z == x)) = if y = x then (F.drop (j + 1)).filter (fun z => !(z == x)) else y :: (F.drop (j + 1)).filter (fun z => !(z == x)) := by
  obtain ⟨h1, rfl⟩ := List.getElem?_eq_some_iff.1 h
  rw [List.drop_eq_getElem_cons h1, List.filter_cons]
  by_cases h2 : F[j] = x
  · simp [h2]
  · simp [h2]
theorem drop_cons {F : List Int} {y : Int} {j : Nat} (h : F[j]? = some y) : F.drop j = y :: F.drop (j + 1) := by
  obtain ⟨h1, rfl⟩ := List.getElem?_eq_some_iff.1 h
  exact List.drop_eq_getElem_cons h1
end Go.Proofs.Ytaaoegfdhpploaa

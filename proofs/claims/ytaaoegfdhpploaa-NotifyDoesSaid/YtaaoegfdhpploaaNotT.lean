/- Package notify: Signal and Wait told of what was signalled since and of those that wait, for the code and for the reference. -/
import Derived.Test.YtaaoegfdhpploaaNotR
set_option linter.all false
namespace Go.Proofs.Ytaaoegfdhpploaa
open Go.RowKit

def sigE (Bs L : List Int) (bg : Int) : (Int × Int × Bool) × List Int × List Int :=
  match L with | a :: l => ((a, bg, true), Bs, l) | [] => ((0, 0, false), Bs ++ [bg], [])
def waitE (Bs L : List Int) (who : Int) (wa : Bool) : (Int × Bool × Int) × List Int × List Int :=
  if who ∈ L then ((0, false, 120), Bs, L) else if 0 < Bs.length then ((orAll Bs, true, 0), [], L) else if wa = true then ((0, false, 0), [], L ++ [who]) else ((0, false, 0), [], L)

def TN (b : Nat) (Bs L : List Int) : Thing := fun O w => Nt O w b (orAll Bs) (decide (0 < Bs.length)) L
theorem TN.ok (b : Nat) (Bs L : List Int) : (TN b Bs L).Ok := NP.ok b _ _ L

theorem signal_st {O : Nat → Prop} (b : Nat) (Bs L Bs' L' : List Int) (bg r1 r2 : Int) (r3 : Bool) (w : World) (h : TN b Bs L O w) (hL : L.length ≤ 1000) (he : sigE Bs L bg = ((r1, r2, r3), Bs', L')) :
    Calls Try.prog 10 #[.pointer (some ⟨b, 0, none⟩), .int .u64 bg] w fun e w' => e = .returned (.tuple #[.int .i64 r1, .int .u64 r2, .bool r3]) ∧ TN b Bs' L' (fun k => O k ∨ w.heap.size ≤ k) w' ∧ Kept O w w' := by
  cases L with
  | cons a l =>
    simp only [sigE, Prod.mk.injEq] at he
    obtain ⟨⟨rfl, rfl, rfl⟩, rfl, rfl⟩ := he
    refine (signal_who b _ _ a l bg w h (by simp at hL; omega)).mono ?_
    rintro e w1 ⟨rfl, h1, h2⟩
    exact ⟨rfl, Nt.mono h1 (fun _ h => .inl h), h2⟩
  | nil =>
    simp only [sigE, Prod.mk.injEq] at he
    obtain ⟨⟨rfl, rfl, rfl⟩, rfl, rfl⟩ := he
    refine (signal_none b (orAll Bs) _ bg (orAll (Bs ++ [bg])) w h (orAll_snoc Bs bg).symm).mono ?_
    rintro e w1 ⟨rfl, h1, h2⟩
    have h3 : decide (0 < (Bs ++ [bg]).length) = true := by simp
    exact ⟨rfl, by rw [TN, h3]; exact h1.mono (fun _ h => .inl h), h2⟩

theorem rsignal_st {O : Nat → Prop} (b : Nat) (Bs L Bs' L' : List Int) (bg r1 r2 : Int) (r3 : Bool) (w : World) (h : RQ b Bs L O w) (hL : L.length ≤ 1000) (hB : Bs.length ≤ 1000) (he : sigE Bs L bg = ((r1, r2, r3), Bs', L')) :
    Calls Try.prog 17 #[.pointer (some ⟨b, 0, none⟩), .int .u64 bg] w fun e w' => e = .returned (.tuple #[.int .i64 r1, .int .u64 r2, .bool r3]) ∧ RQ b Bs' L' (fun k => O k ∨ w.heap.size ≤ k) w' ∧ Kept O w w' := by
  cases L with
  | cons a l =>
    simp only [sigE, Prod.mk.injEq] at he
    obtain ⟨⟨rfl, rfl, rfl⟩, rfl, rfl⟩ := he
    exact rsignal_who b Bs a l bg w h (by simp at hL; omega)
  | nil =>
    simp only [sigE, Prod.mk.injEq] at he
    obtain ⟨⟨rfl, rfl, rfl⟩, rfl, rfl⟩ := he
    exact rsignal_none b Bs bg w h hB

theorem wait_st {O : Nat → Prop} (b : Nat) (Bs L Bs' L' : List Int) (who r1 r3 : Int) (r2 wa : Bool) (w : World) (h : TN b Bs L O w) (hL : L.length ≤ 1000) (he : waitE Bs L who wa = ((r1, r2, r3), Bs', L')) :
    Calls Try.prog 11 #[.pointer (some ⟨b, 0, none⟩), .int .i64 who, .bool wa] w fun e w' => e = .returned (.tuple #[.int .u64 r1, .bool r2, .int .i64 r3]) ∧ TN b Bs' L' (fun k => O k ∨ w.heap.size ≤ k) w' ∧ Kept O w w' := by
  unfold waitE at he
  by_cases h1 : who ∈ L
  · rw [if_pos h1] at he
    simp only [Prod.mk.injEq] at he
    obtain ⟨⟨rfl, rfl, rfl⟩, rfl, rfl⟩ := he
    refine (wait_there b _ _ L who wa w h hL h1).mono ?_
    rintro e w1 ⟨rfl, rfl⟩
    exact ⟨rfl, Nt.mono h (fun _ h => .inl h), Kept.refl _ _⟩
  · rw [if_neg h1] at he
    by_cases h2 : 0 < Bs.length
    · rw [if_pos h2] at he
      simp only [Prod.mk.injEq] at he
      obtain ⟨⟨rfl, rfl, rfl⟩, rfl, rfl⟩ := he
      have h' : Nt O w b (orAll Bs) true L := by have := h; unfold TN at this; rwa [decide_eq_true h2] at this
      refine (wait_word b _ L who wa w h' hL h1).mono ?_
      rintro e w1 ⟨rfl, h3, h4⟩
      exact ⟨rfl, Nt.mono h3 (fun _ h => .inl h), h4⟩
    · rw [if_neg h2] at he
      have hB0 : Bs = [] := List.eq_nil_of_length_eq_zero (by omega)
      subst hB0
      have h' : Nt O w b 0 false L := h
      cases wa with
      | true =>
        simp only [if_true, Prod.mk.injEq] at he
        obtain ⟨⟨rfl, rfl, rfl⟩, rfl, rfl⟩ := he
        exact wait_line b 0 L who w h' hL h1
      | false =>
        simp only [Bool.false_eq_true, if_false, Prod.mk.injEq] at he
        obtain ⟨⟨rfl, rfl, rfl⟩, rfl, rfl⟩ := he
        refine (wait_no b 0 L who w h' hL h1).mono ?_
        rintro e w1 ⟨rfl, rfl⟩
        exact ⟨rfl, Nt.mono h' (fun _ h => .inl h), Kept.refl _ _⟩

theorem rwait_st {O : Nat → Prop} (b : Nat) (Bs L Bs' L' : List Int) (who r1 r3 : Int) (r2 wa : Bool) (w : World) (h : RQ b Bs L O w) (hL : L.length ≤ 1000) (hB : Bs.length ≤ 1000) (he : waitE Bs L who wa = ((r1, r2, r3), Bs', L')) :
    Calls Try.prog 18 #[.pointer (some ⟨b, 0, none⟩), .int .i64 who, .bool wa] w fun e w' => e = .returned (.tuple #[.int .u64 r1, .bool r2, .int .i64 r3]) ∧ RQ b Bs' L' (fun k => O k ∨ w.heap.size ≤ k) w' ∧ Kept O w w' := by
  unfold waitE at he
  by_cases h1 : who ∈ L
  · rw [if_pos h1] at he
    simp only [Prod.mk.injEq] at he
    obtain ⟨⟨rfl, rfl, rfl⟩, rfl, rfl⟩ := he
    refine (rwait_there b Bs L who wa w h hL hB h1).mono ?_
    rintro e w1 ⟨rfl, rfl⟩
    exact ⟨rfl, Rn.mono h (fun _ h => .inl h), Kept.refl _ _⟩
  · rw [if_neg h1] at he
    by_cases h2 : 0 < Bs.length
    · rw [if_pos h2] at he
      simp only [Prod.mk.injEq] at he
      obtain ⟨⟨rfl, rfl, rfl⟩, rfl, rfl⟩ := he
      refine (rwait_word b Bs L who _ wa rfl h2 w h hL hB h1).mono ?_
      rintro e w1 ⟨rfl, h3, h4⟩
      exact ⟨rfl, Rn.mono h3 (fun _ h => .inl h), h4⟩
    · rw [if_neg h2] at he
      have hB0 : Bs = [] := List.eq_nil_of_length_eq_zero (by omega)
      subst hB0
      cases wa with
      | true =>
        simp only [if_true, Prod.mk.injEq] at he
        obtain ⟨⟨rfl, rfl, rfl⟩, rfl, rfl⟩ := he
        exact rwait_line b [] L who true rfl rfl w h hL hB h1
      | false =>
        simp only [Bool.false_eq_true, if_false, Prod.mk.injEq] at he
        obtain ⟨⟨rfl, rfl, rfl⟩, rfl, rfl⟩ := he
        refine (rwait_no b [] L who false rfl rfl w h hL hB h1).mono ?_
        rintro e w1 ⟨rfl, hk⟩
        exact ⟨rfl, Rn.mono (Rn.same h hk) (fun _ h => .inl h), hk.mono (fun _ _ h => h.elim)⟩

theorem sigE_len {Bs L Bs' L' : List Int} {bg : Int} {r : Int × Int × Bool} (he : sigE Bs L bg = (r, Bs', L')) : Bs'.length ≤ Bs.length + 1 ∧ L'.length ≤ L.length ∧ ((Bs = [] ∨ L = []) → (Bs' = [] ∨ L' = [])) := by
  cases L with
  | cons a l =>
    simp only [sigE, Prod.mk.injEq] at he
    obtain ⟨rfl, rfl, rfl⟩ := he
    exact ⟨by omega, by simp, fun h => .inl (h.resolve_right (by simp))⟩
  | nil =>
    simp only [sigE, Prod.mk.injEq] at he
    obtain ⟨rfl, rfl, rfl⟩ := he
    exact ⟨by simp, by simp, fun _ => .inr rfl⟩
theorem waitE_len {Bs L Bs' L' : List Int} {who : Int} {wa : Bool} {r : Int × Bool × Int} (he : waitE Bs L who wa = (r, Bs', L')) : Bs'.length ≤ Bs.length ∧ L'.length ≤ L.length + 1 ∧ ((Bs = [] ∨ L = []) → (Bs' = [] ∨ L' = [])) := by
  unfold waitE at he
  by_cases h1 : who ∈ L
  · rw [if_pos h1] at he
    simp only [Prod.mk.injEq] at he
    obtain ⟨rfl, rfl, rfl⟩ := he
    exact ⟨by omega, by omega, id⟩
  · rw [if_neg h1] at he
    by_cases h2 : 0 < Bs.length
    · rw [if_pos h2] at he
      simp only [Prod.mk.injEq] at he
      obtain ⟨rfl, rfl, rfl⟩ := he
      exact ⟨by simp, by omega, fun _ => .inl rfl⟩
    · rw [if_neg h2] at he
      cases wa with
      | true =>
        simp only [if_true, Prod.mk.injEq] at he
        obtain ⟨rfl, rfl, rfl⟩ := he
        exact ⟨by simp, by simp, fun _ => .inl rfl⟩
      | false =>
        simp only [Bool.false_eq_true, if_false, Prod.mk.injEq] at he
        obtain ⟨rfl, rfl, rfl⟩ := he
        exact ⟨by simp, by omega, fun _ => .inl rfl⟩

/-- A slice of m numbers whose cells may be written. -/
def CP (ao : Option Addr) (m : Nat) : Thing := fun O w => 0 < m → ∃ g cs, ao = some ⟨g, 0, none⟩ ∧ w.heap[g]? = some (.cells cs 3 (0, 0)) ∧ m ≤ cs.size ∧ O g
theorem CP.ok (ao : Option Addr) (m : Nat) : (CP ao m).Ok :=
  ⟨fun h k hF h0 => let ⟨g, cs, h1, h2, h3, h4⟩ := h h0; ⟨g, cs, h1, k.heap h2 (hF _ h4), h3, h4⟩, fun h h0 => let ⟨g, cs, h1, h2, h3, h4⟩ := h h0; ⟨g, cs, h1, h2, h3, h4, lt_of_heap h2⟩, fun h hO h0 => let ⟨g, cs, h1, h2, h3, h4⟩ := h h0; ⟨g, cs, h1, h2, h3, hO _ h4⟩⟩
theorem CP.of_own {w : World} {base : Nat} {ao : Option Addr} {m c : Nat} {L : List Int} (h : w.ownsRow base 3 1 (.slice ao m c) m (vI L)) : CP ao m (fun k => base ≤ k) w := by
  intro h0
  rcases h.2 with ⟨h1, h2⟩ | ⟨g, cap, cur, h1, h2, h3, h4, h5, h6, h7⟩
  · omega
  · simp only [Value.slice.injEq] at h1
    exact ⟨g, cur, h1.1, h3, by omega, h2⟩
theorem Sep.snd {P Q : Thing} {O : Nat → Prop} {w : World} (hQ : Q.Ok) (h : Sep P Q O w) : Q O w := let ⟨_, _, _, h2, _, h4⟩ := h; hQ.mono h2 h4
end Go.Proofs.Ytaaoegfdhpploaa

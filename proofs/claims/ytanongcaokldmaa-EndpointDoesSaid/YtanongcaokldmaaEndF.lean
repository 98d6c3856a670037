/- Package endpoint: Send and Recv told of what they answer and leave; the calls whose answers the document fixes. -/
import Derived.Test.YtanongcaokldmaaEndE
set_option linter.all false
namespace Go.Proofs.Ytanongcaokldmaa
open Go.RowKit

def sendE (sd : Bool) (L : List On) (x : On) (wa : Bool) : (Bool × Int × Int × On × Int) × Bool × List On :=
  if L.any (fun y => y.who == x.who) then ((false, 0, 0, on0, 110), sd, L)
  else if sd = false ∧ L ≠ [] then ((true, x.who, (L.head?.getD on0).who, x, 0), sd, L.tail)
  else if wa = true then ((false, 0, 0, on0, 0), !false, L ++ [x])
  else ((false, 0, 0, on0, 0), sd, L)
theorem send_st {O : Nat → Prop} (b : Nat) (sd sd' wa m1 : Bool) (L L' : List On) (x m4 : On) (m2 m3 er : Int) (w : World) (h : Ep O w b sd L) (hL : L.length ≤ 1000) (he : sendE sd L x wa = ((m1, m2, m3, m4, er), sd', L')) :
    Calls Try.prog 12 #[.pointer (some ⟨b, 0, none⟩), .int .i64 x.who, msgV x, .bool wa] w fun e w' => e = .returned (.tuple #[metV m1 m2 m3 m4, .int .i64 er]) ∧ Ep (fun k => O k ∨ w.heap.size ≤ k) w' b sd' L' ∧ Kept O w w' := by
  unfold sendE at he
  by_cases ht : L.any (fun y => y.who == x.who) = true
  · rw [if_pos ht] at he
    simp only [Prod.mk.injEq] at he
    obtain ⟨⟨rfl, rfl, rfl, rfl, rfl⟩, rfl, rfl⟩ := he
    refine (send_there b sd wa L x w h hL ht).mono ?_
    rintro e w1 ⟨rfl, h1⟩
    exact ⟨rfl, (h.same h1).mono (fun _ h => .inl h), h1.mono (fun _ _ h => h.elim)⟩
  · rw [if_neg ht] at he
    have ht' : L.any (fun y => y.who == x.who) = false := by simpa using ht
    by_cases hm : sd = false ∧ L ≠ []
    · rw [if_pos hm] at he
      simp only [Prod.mk.injEq] at he
      obtain ⟨⟨rfl, rfl, rfl, rfl, rfl⟩, rfl, rfl⟩ := he
      obtain ⟨rfl, hne⟩ := hm
      cases L with
      | nil => exact (hne rfl).elim
      | cons a l =>
        refine (send_meet b wa a l x w h hL ht').mono ?_
        rintro e w1 ⟨rfl, h1, h2⟩
        exact ⟨rfl, h1.mono (fun _ h => .inl h), h2⟩
    · rw [if_neg hm] at he
      have hn : L = [] ∨ sd ≠ false := by
        by_cases h1 : L = []
        · exact .inl h1
        · exact .inr (fun h2 => hm ⟨h2, h1⟩)
      cases wa with
      | true =>
        simp only [if_true, Prod.mk.injEq] at he
        obtain ⟨⟨rfl, rfl, rfl, rfl, rfl⟩, rfl, rfl⟩ := he
        exact send_line b sd true L x w h hL ht' hn rfl
      | false =>
        simp only [Bool.false_eq_true, if_false, Prod.mk.injEq] at he
        obtain ⟨⟨rfl, rfl, rfl, rfl, rfl⟩, rfl, rfl⟩ := he
        refine (send_no b sd false L x w h hL ht' hn rfl).mono ?_
        rintro e w1 ⟨rfl, h1⟩
        exact ⟨rfl, (h.same h1).mono (fun _ h => .inl h), h1.mono (fun _ _ h => h.elim)⟩

def recvE (sd : Bool) (L : List On) (x : On) (wa : Bool) : (Bool × Int × Int × On × Int) × Bool × List On :=
  if L.any (fun y => y.who == x.who) then ((false, 0, 0, on0, 110), sd, L)
  else if sd = true ∧ L ≠ [] then ((true, (L.head?.getD on0).who, x.who, (L.head?.getD on0), 0), sd, L.tail)
  else if wa = true then ((false, 0, 0, on0, 0), !true, L ++ [⟨x.who, 0, 0, 0, 0, 0, 0, false⟩])
  else ((false, 0, 0, on0, 0), sd, L)
theorem recv_st {O : Nat → Prop} (b : Nat) (sd sd' wa m1 : Bool) (L L' : List On) (x m4 : On) (m2 m3 er : Int) (w : World) (h : Ep O w b sd L) (hL : L.length ≤ 1000) (he : recvE sd L x wa = ((m1, m2, m3, m4, er), sd', L')) :
    Calls Try.prog 13 #[.pointer (some ⟨b, 0, none⟩), .int .i64 x.who, .bool wa] w fun e w' => e = .returned (.tuple #[metV m1 m2 m3 m4, .int .i64 er]) ∧ Ep (fun k => O k ∨ w.heap.size ≤ k) w' b sd' L' ∧ Kept O w w' := by
  unfold recvE at he
  by_cases ht : L.any (fun y => y.who == x.who) = true
  · rw [if_pos ht] at he
    simp only [Prod.mk.injEq] at he
    obtain ⟨⟨rfl, rfl, rfl, rfl, rfl⟩, rfl, rfl⟩ := he
    refine (recv_there b sd wa L x w h hL ht).mono ?_
    rintro e w1 ⟨rfl, h1⟩
    exact ⟨rfl, (h.same h1).mono (fun _ h => .inl h), h1.mono (fun _ _ h => h.elim)⟩
  · rw [if_neg ht] at he
    have ht' : L.any (fun y => y.who == x.who) = false := by simpa using ht
    by_cases hm : sd = true ∧ L ≠ []
    · rw [if_pos hm] at he
      simp only [Prod.mk.injEq] at he
      obtain ⟨⟨rfl, rfl, rfl, rfl, rfl⟩, rfl, rfl⟩ := he
      obtain ⟨rfl, hne⟩ := hm
      cases L with
      | nil => exact (hne rfl).elim
      | cons a l =>
        refine (recv_meet b wa a l x w h hL ht').mono ?_
        rintro e w1 ⟨rfl, h1, h2⟩
        exact ⟨rfl, h1.mono (fun _ h => .inl h), h2⟩
    · rw [if_neg hm] at he
      have hn : L = [] ∨ sd ≠ true := by
        by_cases h1 : L = []
        · exact .inl h1
        · exact .inr (fun h2 => hm ⟨h2, h1⟩)
      cases wa with
      | true =>
        simp only [if_true, Prod.mk.injEq] at he
        obtain ⟨⟨rfl, rfl, rfl, rfl, rfl⟩, rfl, rfl⟩ := he
        exact recv_line b sd true L x w h hL ht' hn rfl
      | false =>
        simp only [Bool.false_eq_true, if_false, Prod.mk.injEq] at he
        obtain ⟨⟨rfl, rfl, rfl, rfl, rfl⟩, rfl, rfl⟩ := he
        refine (recv_no b sd false L x w h hL ht' hn rfl).mono ?_
        rintro e w1 ⟨rfl, h1⟩
        exact ⟨rfl, (h.same h1).mono (fun _ h => .inl h), h1.mono (fun _ _ h => h.elim)⟩
end Go.Proofs.Ytanongcaokldmaa

/- Package endpoint: the program and the reference, side by side. -/
import Derived.Test.YtanongcaokldmaaEndX
import Derived.Test.YtanongcaokldmaaEndL
set_option linter.all false
namespace Go.Proofs.Ytanongcaokldmaa
open Go.RowKit

theorem send_zo {Q : Thing} (hQ : Q.Ok) {O : Nat → Prop} (b : Nat) (sd sd' wa m1 : Bool) (M M' : List On) (x m4 : On) (m2 m3 er : Int) (w : World) (hS : Sep (EP b sd M) Q O w) (hO : ∀ k, w.heap.size ≤ k → O k) (hM : M.length ≤ 1000) (he : sendE sd M x wa = ((m1, m2, m3, m4, er), sd', M')) :
    Calls Try.prog 12 #[.pointer (some ⟨b, 0, none⟩), .int .i64 x.who, msgV x, .bool wa] w fun e w' => e = .returned (.tuple #[metV m1 m2 m3 m4, .int .i64 er]) ∧ Sep (EP b sd' M') Q O w' ∧ Kept O w w' := by
  obtain ⟨O1, O2, h1, h2, h3, h4⟩ := hS
  refine (send_st b sd sd' wa m1 M M' x m4 m2 m3 er w h1 hM he).mono ?_
  rintro e w1 ⟨rfl, hA, hk⟩
  obtain ⟨hS1, hk1⟩ := Sep.step (P' := EP b sd' M') (O := O) hQ h2 h3 h4 hA hk hO
  exact ⟨rfl, hS1, hk1⟩
theorem recv_zo {Q : Thing} (hQ : Q.Ok) {O : Nat → Prop} (b : Nat) (sd sd' wa m1 : Bool) (M M' : List On) (x m4 : On) (m2 m3 er : Int) (w : World) (hS : Sep (EP b sd M) Q O w) (hO : ∀ k, w.heap.size ≤ k → O k) (hM : M.length ≤ 1000) (he : recvE sd M x wa = ((m1, m2, m3, m4, er), sd', M')) :
    Calls Try.prog 13 #[.pointer (some ⟨b, 0, none⟩), .int .i64 x.who, .bool wa] w fun e w' => e = .returned (.tuple #[metV m1 m2 m3 m4, .int .i64 er]) ∧ Sep (EP b sd' M') Q O w' ∧ Kept O w w' := by
  obtain ⟨O1, O2, h1, h2, h3, h4⟩ := hS
  refine (recv_st b sd sd' wa m1 M M' x m4 m2 m3 er w h1 hM he).mono ?_
  rintro e w1 ⟨rfl, hA, hk⟩
  obtain ⟨hS1, hk1⟩ := Sep.step (P' := EP b sd' M') (O := O) hQ h2 h3 h4 hA hk hO
  exact ⟨rfl, hS1, hk1⟩
theorem cancel_zo {Q : Thing} (hQ : Q.Ok) {O : Nat → Prop} (b : Nat) (sd : Bool) (M M' : List On) (who : Int) (r : Bool) (w : World) (hS : Sep (EP b sd M) Q O w) (hO : ∀ k, w.heap.size ≤ k → O k) (hM : M.length ≤ 1000) (hF : M.filter (fun x => !(x.who == who)) = M') (hr : r = decide (M'.length < M.length)) :
    Calls Try.prog 18 #[.pointer (some ⟨b, 0, none⟩), .int .i64 who] w fun e w' => e = .returned (.bool r) ∧ Sep (EP b sd M') Q O w' ∧ Kept O w w' := by
  obtain ⟨O1, O2, h1, h2, h3, h4⟩ := hS
  refine ((cancel_any b sd M M' who r w h1 hM hF hr).mono (fun e w' h => (⟨h.1, Ep.mono h.2.1 (fun _ h => .inl h), h.2.2⟩ : e = .returned (.bool r) ∧ Ep (fun k => O1 k ∨ w.heap.size ≤ k) w' b sd M' ∧ Kept O1 w w'))).mono ?_
  rintro e w1 ⟨rfl, hA, hk⟩
  obtain ⟨hS1, hk1⟩ := Sep.step (P' := EP b sd M') (O := O) hQ h2 h3 h4 hA hk hO
  exact ⟨rfl, hS1, hk1⟩
theorem badge_zo {Q : Thing} (hQ : Q.Ok) {O : Nat → Prop} (b : Nat) (sd : Bool) (M M' : List On) (F : List Int) (s : Int) (w : World) (hS : Sep (EP b sd M) Q O w) (hO : ∀ k, w.heap.size ≤ k → O k) (hM : M.length ≤ 900) (he : badgeE sd M s = (F, M')) :
    Calls Try.prog 17 #[.pointer (some ⟨b, 0, none⟩), .int .u64 s] w fun e w' => ∃ v, e = .returned v ∧ Sep (LQ v F) (Sep (EP b sd M') Q) O w' ∧ Kept O w w' := by
  obtain ⟨O1, O2, h1, h2, h3, h4⟩ := hS
  refine (badge_any b sd M M' F s w h1 hM he).mono ?_
  rintro e w1 ⟨v, rfl, hown, hfr, hA, hk⟩
  have g2 := (hQ.sized h2)
  refine ⟨v, rfl, ⟨fun k => v.ownBlock = some k, fun k => (O1 k ∧ k < w.heap.size) ∨ (O2 k ∧ k < w.heap.size), ⟨hown, fun k hk => hk⟩, ⟨_, _, hA, hQ.kept g2 hk (fun i hi e => (h3 i e).2 hi.1), fun k hk => ⟨.inl hk, fun h => (h3 k hk.1).2 h.1⟩, fun k hk => .inr hk⟩, fun k hk9 => ⟨hO k (hfr k hk9), fun h => by have := hfr k hk9; rcases h with h | h <;> (have := h.2; omega)⟩, fun k hk9 => hk9.elim (fun h => (h3 k h.1).1) (fun h => h4 k h.1)⟩, hk.mono (fun i _ h => (h3 i h).1)⟩
theorem rsend_zo {Q : Thing} (hQ : Q.Ok) {O : Nat → Prop} (q : Nat) (S S' : List On) (R R' : List Int) (x m4 : On) (wa m1 : Bool) (m2 m3 er : Int) (w : World) (hS : Sep (RF q S R) Q O w) (hO : ∀ k, w.heap.size ≤ k → O k) (hSl : S.length ≤ 1000) (hRl : R.length ≤ 1000) (he : refSend S R x wa = ((m1, m2, m3, m4, er), S', R')) :
    Calls Try.prog 19 #[.pointer (some ⟨q, 0, none⟩), .int .i64 x.who, msgV x, .bool wa] w fun e w' => e = .returned (.tuple #[metV m1 m2 m3 m4, .int .i64 er]) ∧ Sep (RF q S' R') Q O w' ∧ Kept O w w' := by
  obtain ⟨O1, O2, h1, h2, h3, h4⟩ := hS
  refine (rsend_any q S S' R R' x m4 wa m1 m2 m3 er w h1 hSl hRl he).mono ?_
  rintro e w1 ⟨rfl, hA, hk⟩
  obtain ⟨hS1, hk1⟩ := Sep.step (P' := RF q S' R') (O := O) hQ h2 h3 h4 hA hk hO
  exact ⟨rfl, hS1, hk1⟩
theorem rrecv_zo {Q : Thing} (hQ : Q.Ok) {O : Nat → Prop} (q : Nat) (S S' : List On) (R R' : List Int) (who : Int) (m4 : On) (wa m1 : Bool) (m2 m3 er : Int) (w : World) (hS : Sep (RF q S R) Q O w) (hO : ∀ k, w.heap.size ≤ k → O k) (hSl : S.length ≤ 1000) (hRl : R.length ≤ 1000) (he : refRecv S R who wa = ((m1, m2, m3, m4, er), S', R')) :
    Calls Try.prog 20 #[.pointer (some ⟨q, 0, none⟩), .int .i64 who, .bool wa] w fun e w' => e = .returned (.tuple #[metV m1 m2 m3 m4, .int .i64 er]) ∧ Sep (RF q S' R') Q O w' ∧ Kept O w w' := by
  obtain ⟨O1, O2, h1, h2, h3, h4⟩ := hS
  refine (rrecv_any q S S' R R' who m4 wa m1 m2 m3 er w h1 hSl hRl he).mono ?_
  rintro e w1 ⟨rfl, hA, hk⟩
  obtain ⟨hS1, hk1⟩ := Sep.step (P' := RF q S' R') (O := O) hQ h2 h3 h4 hA hk hO
  exact ⟨rfl, hS1, hk1⟩
theorem rcancel_zo {Q : Thing} (hQ : Q.Ok) {O : Nat → Prop} (q : Nat) (S S' : List On) (R R' : List Int) (who : Int) (r : Bool) (w : World) (hS : Sep (RF q S R) Q O w) (hO : ∀ k, w.heap.size ≤ k → O k) (hSl : S.length ≤ 1000) (hRl : R.length ≤ 1000) (he : refCancel S R who = (r, S', R')) :
    Calls Try.prog 21 #[.pointer (some ⟨q, 0, none⟩), .int .i64 who] w fun e w' => e = .returned (.bool r) ∧ Sep (RF q S' R') Q O w' ∧ Kept O w w' := by
  obtain ⟨O1, O2, h1, h2, h3, h4⟩ := hS
  refine (rcancel_any q S S' R R' who r w h1 hSl hRl he).mono ?_
  rintro e w1 ⟨rfl, hA, hk⟩
  obtain ⟨hS1, hk1⟩ := Sep.step (P' := RF q S' R') (O := O) hQ h2 h3 h4 hA hk hO
  exact ⟨rfl, hS1, hk1⟩
theorem rbadge_zo {Q : Thing} (hQ : Q.Ok) {O : Nat → Prop} (q : Nat) (S S' : List On) (R F : List Int) (s : Int) (w : World) (hS : Sep (RF q S R) Q O w) (hO : ∀ k, w.heap.size ≤ k → O k) (hSl : S.length ≤ 1000) (hRl : R.length ≤ 1000) (hS' : S.filter (fun y => !(y.bg == s)) = S') (hF : hasB S s = F) :
    Calls Try.prog 22 #[.pointer (some ⟨q, 0, none⟩), .int .u64 s] w fun e w' => ∃ v, e = .returned v ∧ w'.ownsRow 0 3 1 v F.length (vI F) ∧ Sep (RF q S' R) Q O w' ∧ Kept O w w' := by
  obtain ⟨O1, O2, h1, h2, h3, h4⟩ := hS
  refine (rbadge_any q S S' R F s w h1 hSl hRl hS' hF).mono ?_
  rintro e w1 ⟨v, rfl, hown, hA, hk⟩
  obtain ⟨hS1, hk1⟩ := Sep.step (P' := RF q S' R) (O := O) hQ h2 h3 h4 hA hk hO
  exact ⟨v, rfl, hown, hS1, hk1⟩

def refS (sd : Bool) (L : List On) : List On := if sd then L else []
def refR (sd : Bool) (L : List On) : List Int := if sd then [] else L.map (fun x => x.who)
abbrev RX (q : Nat) (sd : Bool) (L : List On) : Thing := RF q (refS sd L) (refR sd L)
theorem refS_len (sd : Bool) (L : List On) : (refS sd L).length ≤ L.length := by unfold refS; split <;> simp
theorem refR_len (sd : Bool) (L : List On) : (refR sd L).length ≤ L.length := by unfold refR; split <;> simp
theorem any_mem (L : List On) (who : Int) : L.any (fun y => y.who == who) = decide (who ∈ L.map (fun x => x.who)) := by
  induction L with
  | nil => rfl
  | cons a L ih =>
    rw [List.any_cons, ih, List.map_cons]
    by_cases h : a.who = who
    · simp [h]
    · have h2 : ¬ who = a.who := fun e => h e.symm
      simp [h, h2]
theorem ref_in (sd : Bool) (L : List On) (who : Int) : inRf (refS sd L) (refR sd L) who = L.any (fun y => y.who == who) := by
  unfold inRf refS refR
  cases sd with
  | true => simp
  | false => simp [any_mem]
theorem ref_send {sd sd' wa m1 : Bool} {L L' : List On} {x m4 : On} {m2 m3 er : Int} (h : sendE sd L x wa = ((m1, m2, m3, m4, er), sd', L')) : refSend (refS sd L) (refR sd L) x wa = ((m1, m2, m3, m4, er), refS sd' L', refR sd' L') := by
  unfold sendE at h
  unfold refSend
  rw [ref_in]
  by_cases ht : L.any (fun y => y.who == x.who) = true
  · rw [if_pos ht] at h ⊢
    simp only [Prod.mk.injEq] at h
    obtain ⟨⟨rfl, rfl, rfl, rfl, rfl⟩, rfl, rfl⟩ := h
    rfl
  · rw [if_neg ht] at h ⊢
    cases sd with
    | true =>
      rw [if_neg (by simp)] at h
      cases wa with
      | true =>
        simp only [if_true, Prod.mk.injEq] at h
        obtain ⟨⟨rfl, rfl, rfl, rfl, rfl⟩, rfl, rfl⟩ := h
        rfl
      | false =>
        simp only [Bool.false_eq_true, if_false, Prod.mk.injEq] at h
        obtain ⟨⟨rfl, rfl, rfl, rfl, rfl⟩, rfl, rfl⟩ := h
        rfl
    | false =>
      cases L with
      | nil =>
        rw [if_neg (by simp)] at h
        cases wa with
        | true =>
          simp only [if_true, Prod.mk.injEq] at h
          obtain ⟨⟨rfl, rfl, rfl, rfl, rfl⟩, rfl, rfl⟩ := h
          rfl
        | false =>
          simp only [Bool.false_eq_true, if_false, Prod.mk.injEq] at h
          obtain ⟨⟨rfl, rfl, rfl, rfl, rfl⟩, rfl, rfl⟩ := h
          rfl
      | cons a l =>
        rw [if_pos ⟨rfl, by simp⟩] at h
        simp only [Prod.mk.injEq] at h
        obtain ⟨⟨rfl, rfl, rfl, rfl, rfl⟩, rfl, rfl⟩ := h
        rfl
theorem ref_recv {sd sd' wa m1 : Bool} {L L' : List On} {x m4 : On} {m2 m3 er : Int} (h : recvE sd L x wa = ((m1, m2, m3, m4, er), sd', L')) : refRecv (refS sd L) (refR sd L) x.who wa = ((m1, m2, m3, m4, er), refS sd' L', refR sd' L') := by
  unfold recvE at h
  unfold refRecv
  rw [ref_in]
  by_cases ht : L.any (fun y => y.who == x.who) = true
  · rw [if_pos ht] at h ⊢
    simp only [Prod.mk.injEq] at h
    obtain ⟨⟨rfl, rfl, rfl, rfl, rfl⟩, rfl, rfl⟩ := h
    rfl
  · rw [if_neg ht] at h ⊢
    cases sd with
    | false =>
      rw [if_neg (by simp)] at h
      cases wa with
      | true =>
        simp only [if_true, Prod.mk.injEq] at h
        obtain ⟨⟨rfl, rfl, rfl, rfl, rfl⟩, rfl, rfl⟩ := h
        simp [refS, refR]
      | false =>
        simp only [Bool.false_eq_true, if_false, Prod.mk.injEq] at h
        obtain ⟨⟨rfl, rfl, rfl, rfl, rfl⟩, rfl, rfl⟩ := h
        rfl
    | true =>
      cases L with
      | nil =>
        rw [if_neg (by simp)] at h
        cases wa with
        | true =>
          simp only [if_true, Prod.mk.injEq] at h
          obtain ⟨⟨rfl, rfl, rfl, rfl, rfl⟩, rfl, rfl⟩ := h
          rfl
        | false =>
          simp only [Bool.false_eq_true, if_false, Prod.mk.injEq] at h
          obtain ⟨⟨rfl, rfl, rfl, rfl, rfl⟩, rfl, rfl⟩ := h
          rfl
      | cons a l =>
        rw [if_pos ⟨rfl, by simp⟩] at h
        simp only [Prod.mk.injEq] at h
        obtain ⟨⟨rfl, rfl, rfl, rfl, rfl⟩, rfl, rfl⟩ := h
        rfl
theorem filter_any : ∀ (L : List On) (who : Int), decide ((L.filter (fun y => !(y.who == who))).length < L.length) = L.any (fun y => y.who == who)
  | [], who => rfl
  | a :: L, who => by
    have ih := filter_any L who
    have hle := List.length_filter_le (fun y : On => !(y.who == who)) L
    rw [List.any_cons, List.filter_cons]
    by_cases h : a.who = who
    · rw [if_neg (by simp [h]), show (a.who == who) = true by simpa using h, Bool.true_or]
      simp only [List.length_cons, decide_eq_true_eq]
      omega
    · rw [if_pos (by simp [h]), show (a.who == who) = false by simpa using h, Bool.false_or, ← ih]
      simp only [List.length_cons, Nat.add_lt_add_iff_right]
theorem filter_who (L : List On) (who : Int) : (L.map (fun x => x.who)).filter (fun y => !(y == who)) = (L.filter (fun y => !(y.who == who))).map (fun x => x.who) := by
  rw [List.filter_map]; rfl
theorem ref_cancel (sd : Bool) (L M : List On) (who : Int) (hM : L.filter (fun y => !(y.who == who)) = M) : refCancel (refS sd L) (refR sd L) who = (decide (M.length < L.length), refS sd M, refR sd M) := by
  subst hM
  unfold refCancel
  rw [ref_in, ← filter_any]
  by_cases h : (L.filter (fun y => !(y.who == who))).length < L.length
  · rw [if_pos (by simpa using h), decide_eq_true h]
    cases sd with
    | true => rfl
    | false => simp only [refS, refR, Bool.false_eq_true, if_false]; rw [filter_who]; rfl
  · rw [if_neg (by simpa using h), decide_eq_false h]
    have h2 : L.filter (fun y => !(y.who == who)) = L := by
      have hle := List.length_filter_le (fun y : On => !(y.who == who)) L
      exact (List.filter_sublist).eq_of_length (by omega)
    rw [h2]
theorem ref_badge {sd : Bool} {L M : List On} {F : List Int} {s : Int} (h : badgeE sd L s = (F, M)) : (refS sd L).filter (fun y => !(y.bg == s)) = refS sd M ∧ hasB (refS sd L) s = F ∧ refR sd L = refR sd M := by
  unfold badgeE at h
  cases sd with
  | true =>
    simp only [if_true, Prod.mk.injEq] at h
    obtain ⟨rfl, rfl⟩ := h
    exact ⟨rfl, rfl, rfl⟩
  | false =>
    simp only [Bool.false_eq_true, if_false, Prod.mk.injEq] at h
    obtain ⟨rfl, rfl⟩ := h
    exact ⟨rfl, rfl, rfl⟩
theorem ref_waits (sd : Bool) (L : List On) : L.map (fun x => x.who) = refR sd L ++ (refS sd L).map (fun x => x.who) ∧ (sd && decide (0 < L.length)) = decide (0 < (refS sd L).length) := by
  cases sd with
  | true => simp [refS, refR]
  | false => simp [refS, refR]
def CP (ao : Option Addr) (m : Nat) : Thing := fun O w => 0 < m → ∃ g cs, ao = some ⟨g, 0, none⟩ ∧ w.heap[g]? = some (.cells cs 3 (0, 0)) ∧ m ≤ cs.size ∧ O g
theorem CP.ok (ao : Option Addr) (m : Nat) : (CP ao m).Ok :=
  ⟨fun h k hF h0 => let ⟨g, cs, h1, h2, h3, h4⟩ := h h0; ⟨g, cs, h1, k.heap h2 (hF _ h4), h3, h4⟩, fun h h0 => let ⟨g, cs, h1, h2, h3, h4⟩ := h h0; ⟨g, cs, h1, h2, h3, h4, lt_of_heap h2⟩, fun h hO h0 => let ⟨g, cs, h1, h2, h3, h4⟩ := h h0; ⟨g, cs, h1, h2, h3, hO _ h4⟩⟩
theorem CP.of_own {w : World} {base : Nat} {ao : Option Addr} {m c : Nat} {L : List Int} (h : w.ownsRow base 3 1 (.slice ao m c) m (vI L)) : CP ao m (fun k => base ≤ k) w := by
  intro h0
  rcases h.2 with ⟨h1, h2⟩ | ⟨g, cap, cur, h1, h2, h3, h4, h5, h6, h7⟩
  · omega
  · simp only [Value.slice.injEq] at h1
    exact ⟨g, cur, h1.1, h3, by omega, h2⟩
theorem Sep.snd {P Q : Thing} {O : Nat → Prop} {w : World} (hQ : Q.Ok) (h : Sep P Q O w) : Q O w := let ⟨_, _, _, h2, _, h4⟩ := h; hQ.mono h2 h4
end Go.Proofs.Ytanongcaokldmaa

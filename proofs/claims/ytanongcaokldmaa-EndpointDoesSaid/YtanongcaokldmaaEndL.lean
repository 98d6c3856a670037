/- Package endpoint: calls beside other things; what is appended beside other things; lists of those that wait, each once. -/
import Derived.Test.YtanongcaokldmaaEndK
set_option linter.all false
namespace Go.Proofs.Ytanongcaokldmaa
open Go.RowKit

theorem send_sep2 {Q : Thing} (hQ : Q.Ok) (n0 : Nat) (b : Nat) (sd sd' wa m1 : Bool) (M M' : List On) (x m4 : On) (m2 m3 er : Int) (wr : World) (hS : Sep (EP b sd M) Q (fun k => n0 ≤ k) wr) (hn : n0 ≤ wr.heap.size) (hM : M.length ≤ 1000) (he : sendE sd M x wa = ((m1, m2, m3, m4, er), sd', M')) (W : World) (hk : New wr W) :
    Calls Try.prog 12 #[.pointer (some ⟨b, 0, none⟩), .int .i64 x.who, msgV x, .bool wa] W fun e w' => e = .returned (.tuple #[metV m1 m2 m3 m4, .int .i64 er]) ∧ Sep (EP b sd' M') Q (fun k => n0 ≤ k) w' ∧ Kept (fun k => n0 ≤ k ∧ k < wr.heap.size) W w' := by
  obtain ⟨O1, O2, h1, h2, h3, h4⟩ := hS
  have g1 : Ep (fun k => O1 k ∧ k < wr.heap.size) wr b sd M := Ep.sized h1
  refine (send_st b sd sd' wa m1 M M' x m4 m2 m3 er W (g1.same hk) hM he).mono ?_
  rintro e w1 ⟨rfl, hA, hkx⟩
  obtain ⟨hS1, -⟩ := Sep.step (P' := EP b sd' M') (O := fun k => n0 ≤ k) hQ (hQ.kept h2 hk (fun _ _ h => h)) (fun k hk => h3 k hk.1) h4 hA hkx (fun k h => Nat.le_trans hn (Nat.le_trans hk.size h))
  exact ⟨rfl, hS1, hkx.mono (fun i _ h => ⟨(h3 i h.1).1, h.2⟩)⟩
theorem send_sep3 {Q : Thing} (hQ : Q.Ok) (n0 : Nat) (b : Nat) (sd sd' wa m1 : Bool) (M M' : List On) (x m4 : On) (m2 m3 er : Int) (wr : World) (hS : Sep (EP b sd M) Q (fun k => n0 ≤ k) wr) (hn : n0 ≤ wr.heap.size) (hM : M.length ≤ 1000) (he : sendE sd M x wa = ((m1, m2, m3, m4, er), sd', M')) (W : World) (hk : New wr W) :
    Calls Try.prog 12 #[.pointer (some ⟨b, 0, none⟩), .int .i64 x.who, msgV x, .bool wa] W fun e w' => e = .returned (.tuple #[metV m1 m2 m3 m4, .int .i64 er]) ∧ Sep (EP b sd' M') Q (fun k => n0 ≤ k ∧ (k < wr.heap.size ∨ W.heap.size ≤ k)) w' ∧ Kept (fun k => n0 ≤ k ∧ k < wr.heap.size) W w' := by
  obtain ⟨O1, O2, h1, h2, h3, h4⟩ := hS
  have g1 : Ep (fun k => O1 k ∧ k < wr.heap.size) wr b sd M := Ep.sized h1
  refine (send_st b sd sd' wa m1 M M' x m4 m2 m3 er W (g1.same hk) hM he).mono ?_
  rintro e w1 ⟨rfl, hA, hkx⟩
  obtain ⟨hS1, -⟩ := Sep.step (P' := EP b sd' M') (O := fun k => n0 ≤ k ∧ (k < wr.heap.size ∨ W.heap.size ≤ k)) hQ (hQ.kept (hQ.sized h2) hk (fun _ _ h => h)) (fun k hk => ⟨⟨(h3 k hk.1).1, .inl hk.2⟩, fun h => (h3 k hk.1).2 h.1⟩) (fun k hk => ⟨h4 k hk.1, .inl hk.2⟩) hA hkx (fun k h => ⟨Nat.le_trans hn (Nat.le_trans hk.size h), .inr h⟩)
  exact ⟨rfl, hS1, hkx.mono (fun i _ h => ⟨(h3 i h.1).1, h.2⟩)⟩
theorem LQ.made (w : World) : LQ (.slice (some ⟨w.heap.size, 0, none⟩) 0 0) [] (fun k => w.heap.size ≤ k) (w.alloc (.cells #[] 3)) := LQ.fresh (World.ownsRow_made w #[] 0 (Nat.le_refl _) (by unfold maxLen; omega) rfl)
theorem recv_sep2 {Q : Thing} (hQ : Q.Ok) (n0 : Nat) (b : Nat) (sd sd' wa m1 : Bool) (M M' : List On) (x m4 : On) (m2 m3 er : Int) (wr : World) (hS : Sep (EP b sd M) Q (fun k => n0 ≤ k) wr) (hn : n0 ≤ wr.heap.size) (hM : M.length ≤ 1000) (he : recvE sd M x wa = ((m1, m2, m3, m4, er), sd', M')) (W : World) (hk : New wr W) :
    Calls Try.prog 13 #[.pointer (some ⟨b, 0, none⟩), .int .i64 x.who, .bool wa] W fun e w' => e = .returned (.tuple #[metV m1 m2 m3 m4, .int .i64 er]) ∧ Sep (EP b sd' M') Q (fun k => n0 ≤ k) w' ∧ Kept (fun k => n0 ≤ k ∧ k < wr.heap.size) W w' := by
  obtain ⟨O1, O2, h1, h2, h3, h4⟩ := hS
  have g1 : Ep (fun k => O1 k ∧ k < wr.heap.size) wr b sd M := Ep.sized h1
  refine (recv_st b sd sd' wa m1 M M' x m4 m2 m3 er W (g1.same hk) hM he).mono ?_
  rintro e w1 ⟨rfl, hA, hkx⟩
  obtain ⟨hS1, -⟩ := Sep.step (P' := EP b sd' M') (O := fun k => n0 ≤ k) hQ (hQ.kept h2 hk (fun _ _ h => h)) (fun k hk => h3 k hk.1) h4 hA hkx (fun k h => Nat.le_trans hn (Nat.le_trans hk.size h))
  exact ⟨rfl, hS1, hkx.mono (fun i _ h => ⟨(h3 i h.1).1, h.2⟩)⟩
theorem cancel_sep2 {Q : Thing} (hQ : Q.Ok) (n0 : Nat) (b : Nat) (sd : Bool) (M M' : List On) (who : Int) (r : Bool) (wr : World) (hS : Sep (EP b sd M) Q (fun k => n0 ≤ k) wr) (hn : n0 ≤ wr.heap.size) (hM : M.length ≤ 1000) (hF : M.filter (fun x => !(x.who == who)) = M') (hr : r = decide (M'.length < M.length)) (W : World) (hk : New wr W) :
    Calls Try.prog 18 #[.pointer (some ⟨b, 0, none⟩), .int .i64 who] W fun e w' => e = .returned (.bool r) ∧ Sep (EP b sd M') Q (fun k => n0 ≤ k) w' ∧ Kept (fun k => n0 ≤ k ∧ k < wr.heap.size) W w' := by
  obtain ⟨O1, O2, h1, h2, h3, h4⟩ := hS
  have g1 : Ep (fun k => O1 k ∧ k < wr.heap.size) wr b sd M := Ep.sized h1
  refine (cancel_any b sd M M' who r W (g1.same hk) hM hF hr).mono ?_
  rintro e w1 ⟨rfl, hA, hkx⟩
  obtain ⟨hS1, -⟩ := Sep.step (P' := EP b sd M') (O := fun k => n0 ≤ k) hQ (hQ.kept h2 hk (fun _ _ h => h)) (fun k hk => h3 k hk.1) h4 (Ep.mono hA (fun _ h => .inl h)) hkx (fun k h => Nat.le_trans hn (Nat.le_trans hk.size h))
  exact ⟨rfl, hS1, hkx.mono (fun i _ h => ⟨(h3 i h.1).1, h.2⟩)⟩
theorem badge_sep2 {Q : Thing} (hQ : Q.Ok) (n0 : Nat) (b : Nat) (sd : Bool) (M M' : List On) (F : List Int) (s : Int) (wr : World) (hS : Sep (EP b sd M) Q (fun k => n0 ≤ k) wr) (hn : n0 ≤ wr.heap.size) (hM : M.length ≤ 900) (he : badgeE sd M s = (F, M')) (W : World) (hk : New wr W) :
    Calls Try.prog 17 #[.pointer (some ⟨b, 0, none⟩), .int .u64 s] W fun e w' => ∃ ao c, e = .returned (.slice ao F.length c) ∧ w'.ownsRow 0 3 1 (.slice ao F.length c) F.length (vI F) ∧ Sep (EP b sd M') Q (fun k => n0 ≤ k) w' ∧ Kept (fun k => n0 ≤ k ∧ k < wr.heap.size) W w' := by
  obtain ⟨O1, O2, h1, h2, h3, h4⟩ := hS
  have g1 : Ep (fun k => O1 k ∧ k < wr.heap.size) wr b sd M := Ep.sized h1
  refine (badge_any b sd M M' F s W (g1.same hk) hM he).mono ?_
  rintro e w1 ⟨v, rfl, hown, -, hA, hkx⟩
  obtain ⟨hS1, -⟩ := Sep.step (P' := EP b sd M') (O := fun k => n0 ≤ k) hQ (hQ.kept h2 hk (fun _ _ h => h)) (fun k hk => h3 k hk.1) h4 (Ep.mono hA (fun _ h => .inl h.1)) hkx (fun k h => Nat.le_trans hn (Nat.le_trans hk.size h))
  obtain ⟨ao, c, hv, -⟩ := Src.of_own hown
  subst hv
  exact ⟨ao, c, rfl, hown, hS1, hkx.mono (fun i _ h => ⟨(h3 i h.1).1, h.2⟩)⟩
/-- One more number behind a slice that lies beside other things. -/
theorem Sep.push {Q : Thing} (hQ : Q.Ok) {n0 m : Nat} {v v' : Value} {L : List Int} {x : Int} {w w1 w' : World} (hS : Sep (LQ v L) Q (fun k => n0 ≤ k) w) (hn : n0 ≤ w.heap.size) (k1 : New w w1) (hm : m = L.length + 1) (hown : w'.ownsRow 0 3 1 v' m (vI L ++ [.int .i64 x])) (hgr : w1.grownBy w' v.ownBlock) (hid : ∀ k, v'.ownBlock = some k → v.ownBlock = some k ∨ w1.heap.size ≤ k) :
    Sep (LQ v' (L ++ [x])) Q (fun k => n0 ≤ k) w' ∧ Kept (fun k => n0 ≤ k) w w' := by
  obtain ⟨O1, O2, ⟨h1, hb⟩, h2, h3, h4⟩ := hS
  have hkg : Kept O1 w1 w' := (Kept.of_grown hgr).mono (fun i _ h => hb i h)
  subst hm
  have hl : (L ++ [x]).length = L.length + 1 := by simp
  obtain ⟨hS1, hk⟩ := Sep.step (P' := LQ v' (L ++ [x])) (O := fun k => n0 ≤ k) hQ (hQ.kept h2 k1 (fun _ _ h => h)) h3 h4 ⟨by rw [hl]; simpa [vI] using hown, fun k hk => (hid k hk).imp (fun h => hb k h) id⟩ hkg (fun k h => Nat.le_trans hn (Nat.le_trans k1.size h))
  exact ⟨hS1, (k1.mono (fun _ _ h => h.elim)).trans hk⟩

/-- Those that wait to send, each once. -/
def lineN (L : List On) (x : On) : List On := if L.any (fun y => y.who == x.who) then L else L ++ [x]
theorem lineN_length (L : List On) (x : On) : (lineN L x).length ≤ L.length + 1 := by unfold lineN; split <;> simp
theorem sendE_inN (L : List On) (x : On) (er : Int) (he : er = if L.any (fun y => y.who == x.who) then 110 else 0) : sendE (decide (0 < L.length)) L x true = ((false, 0, 0, on0, er), decide (0 < (lineN L x).length), lineN L x) := by
  unfold sendE lineN
  by_cases h : L.any (fun y => y.who == x.who) = true
  · rw [if_pos h, if_pos h, he, if_pos h]
  · rw [if_neg h, if_neg h, he, if_neg h]
    have h1 : ¬ (decide (0 < L.length) = false ∧ L ≠ []) := by
      rintro ⟨h2, h3⟩
      apply h3
      simp only [decide_eq_false_iff_not, Nat.not_lt, Nat.le_zero, List.length_eq_zero_iff] at h2
      exact h2
    rw [if_neg h1]
    simp
def Once1 (L : List On) : Prop := (L.map (fun x => x.who)).Nodup
theorem Once1.line {L : List On} (h : Once1 L) (x : On) : Once1 (lineN L x) := by
  unfold lineN
  by_cases h1 : L.any (fun y => y.who == x.who) = true
  · rw [if_pos h1]; exact h
  · rw [if_neg h1]
    unfold Once1 at h ⊢
    rw [List.map_append, List.nodup_append]
    refine ⟨h, by simp, ?_⟩
    intro a ha c hc
    simp only [List.map_cons, List.map_nil, List.mem_singleton] at hc
    subst hc
    rintro rfl
    apply h1
    rw [List.any_eq_true]
    obtain ⟨y, hy, hyx⟩ := List.mem_map.1 ha
    exact ⟨y, hy, by simp [hyx]⟩

def restB (L : List On) (s : Int) : List Int := (L.filter (fun x => !(x.bg == s))).map (fun x => x.who)
theorem badgeE_all (L : List On) (s : Int) : badgeE (decide (0 < L.length)) L s = (hasB L s, L.filter (fun x => !(x.bg == s))) := by
  unfold badgeE
  cases L with
  | nil => rfl
  | cons a l => simp
theorem hasB_snoc (L : List On) (x : On) (s : Int) (h : (x.bg == s) = true) : hasB (L ++ [x]) s = hasB L s ++ [x.who] ∧ restB (L ++ [x]) s = restB L s := by
  unfold hasB restB
  rw [List.filter_append, List.filter_append]
  simp [h]
theorem restB_snoc (L : List On) (x : On) (s : Int) (h : (x.bg == s) = false) : hasB (L ++ [x]) s = hasB L s ∧ restB (L ++ [x]) s = restB L s ++ [x.who] := by
  unfold hasB restB
  rw [List.filter_append, List.filter_append]
  simp [h]
theorem lineN_new {L : List On} {x : On} (h : L.any (fun y => y.who == x.who) = false) : lineN L x = L ++ [x] := by unfold lineN; rw [if_neg (by rw [h]; decide)]
theorem lineN_old {L : List On} {x : On} (h : L.any (fun y => y.who == x.who) = true) : lineN L x = L := by unfold lineN; rw [if_pos h]

/-- Each second one. -/
def odds : List On → List On
  | [] => []
  | [_] => []
  | _ :: c :: l => c :: odds l
theorem odds_length : ∀ L : List On, (odds L).length = L.length / 2
  | [] => by simp [odds]
  | [_] => by simp [odds]
  | _ :: _ :: l => by simp only [odds, List.length_cons, odds_length l]; omega
theorem odds_get : ∀ (L : List On) (t : Nat), (odds L)[t]? = L[2 * t + 1]?
  | [], t => by simp [odds]
  | [_], t => by simp [odds]
  | _ :: c :: l, 0 => by simp [odds]
  | _ :: c :: l, t + 1 => by
    rw [odds, List.getElem?_cons_succ, odds_get l t]
    rw [show 2 * (t + 1) + 1 = (2 * t + 1) + 1 + 1 by omega, List.getElem?_cons_succ, List.getElem?_cons_succ]
theorem odds_snoc : ∀ (L : List On) (x : On), odds (L ++ [x]) = if L.length % 2 = 1 then odds L ++ [x] else odds L
  | [], x => by simp [odds]
  | [_], x => by simp [odds]
  | _ :: c :: l, x => by
    simp only [List.cons_append, odds, odds_snoc l x, List.length_cons]
    by_cases h : l.length % 2 = 1
    · rw [if_pos h, if_pos (by omega)]
    · rw [if_neg h, if_neg (by omega)]
/-- Behind i steps: of those ahead each second one is left. -/
def left (L : List On) (i : Nat) : List On := odds (L.take i) ++ L.drop i
theorem left_zero (L : List On) : left L 0 = L := by simp [left, odds]
theorem left_all (L : List On) : left L L.length = odds L := by simp [left]
theorem left_length (L : List On) (i : Nat) : (left L i).length ≤ L.length := by
  unfold left
  rw [List.length_append, odds_length, List.length_take, List.length_drop]
  omega
theorem drop_at {L : List On} {i : Nat} {x : On} (h : L[i]? = some x) : L.drop i = x :: L.drop (i + 1) := by
  obtain ⟨h1, h2⟩ := List.getElem?_eq_some_iff.1 h
  rw [List.drop_eq_getElem_cons h1, h2]
theorem left_odd {L : List On} {i : Nat} {x : On} (h : L[i]? = some x) (hi : i % 2 = 1) : left L (i + 1) = left L i := by
  have hl := lt_of_some h
  unfold left
  rw [List.take_add_one, h, drop_at h]
  simp only [Option.toList_some]
  rw [odds_snoc, if_pos (by rw [List.length_take]; omega)]
  simp
theorem odds_sub : ∀ (L : List On), (odds L).Sublist L
  | [] => List.Sublist.slnil
  | [_] => List.nil_sublist _
  | _ :: c :: l => by
    rw [odds]
    exact List.Sublist.cons _ (List.Sublist.cons₂ _ (odds_sub l))
theorem left_even {L : List On} {i : Nat} {x : On} (hn : Once1 L) (h : L[i]? = some x) (hi : i % 2 = 0) : (left L i).filter (fun y => !(y.who == x.who)) = left L (i + 1) ∧ (left L (i + 1)).length < (left L i).length := by
  have hl := lt_of_some h
  have e1 : left L i = odds (L.take i) ++ (x :: L.drop (i + 1)) := by unfold left; rw [drop_at h]
  have e2 : left L (i + 1) = odds (L.take i) ++ L.drop (i + 1) := by
    unfold left
    rw [List.take_add_one, h]
    simp only [Option.toList_some]
    rw [odds_snoc, if_neg (by rw [List.length_take]; omega)]
  have hs : L = L.take i ++ (x :: L.drop (i + 1)) := by rw [← drop_at h, List.take_append_drop]
  unfold Once1 at hn
  rw [hs, List.map_append, List.map_cons, List.nodup_append] at hn
  obtain ⟨-, n2, n3⟩ := hn
  rw [List.nodup_cons] at n2
  have f1 : (odds (L.take i)).filter (fun y => !(y.who == x.who)) = odds (L.take i) := by
    rw [List.filter_eq_self]
    intro y hy
    have hy2 := (odds_sub (L.take i)).subset hy
    have := n3 y.who (List.mem_map.2 ⟨y, hy2, rfl⟩) x.who (by simp)
    simpa using this
  have f2 : (L.drop (i + 1)).filter (fun y => !(y.who == x.who)) = L.drop (i + 1) := by
    rw [List.filter_eq_self]
    intro y hy
    have : y.who ≠ x.who := fun e => n2.1 (List.mem_map.2 ⟨y, hy, e⟩)
    simpa using this
  refine ⟨?_, ?_⟩
  · rw [e1, e2, List.filter_append, List.filter_cons, f1, f2]
    simp
  · rw [e1, e2]; simp
theorem Once1.filter {L : List On} (h : Once1 L) (p : On → Bool) : Once1 (L.filter p) := by
  unfold Once1 at h ⊢
  exact (List.Sublist.map _ (List.filter_sublist)).nodup h
end Go.Proofs.Ytanongcaokldmaa

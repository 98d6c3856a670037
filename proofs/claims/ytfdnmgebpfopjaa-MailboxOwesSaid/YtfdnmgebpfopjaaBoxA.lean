/- Package mailbox: mails; slices of them; things side by side. -/
import Derived.Test.YtfdnmgebpfopjaaRows
import Derived.Test.YtfdnmgebpfopjaaBase
import Derived.Test.YtfdnmgebpfopjaaArgs
import Derived.WalkKit
import Derived.Outline
import Derived.WalkSpells
import Derived.WalkLawsBesides
import Derived.Deep.QuietTactic
import Derived.BigQuiet
import Derived.StillTailTactics
import Derived.Laws.ResultCell
import Derived.Deep.AppendLies
import Derived.Deep.RegionLaw
import Derived.Deep.RegionHeld3
set_option linter.all false
namespace Go.Proofs.Ytfdnmgebpfopjaa
open Go.RowKit

/-- A mail: from whom, of which kind, about what. -/
structure Ml where
  fr : Int
  kd : Int
  ab : Int
deriving DecidableEq
def encM (x : Ml) : List Value := [.int .i64 x.fr, .int .i64 x.kd, .int .i64 x.ab]
abbrev aggM (x : Ml) : Value := .agg #[.int .i64 x.fr, .int .i64 x.kd, .int .i64 x.ab]
abbrev blkM (x : Ml) : Obj := .cells #[.int .i64 x.fr, .int .i64 x.kd, .int .i64 x.ab] 30
theorem info30 : (Try.prog.info? 30).map (fun i => (i.zero, i.size, i.bytes)) = some (some (aggM ⟨0, 0, 0⟩), 3, 24) := by kernel_rfl
theorem zc3 : (aggM ⟨0, 0, 0⟩).cells.size = 3 := rfl
theorem encM_len (x : Ml) : (encM x).length = 3 := rfl
theorem mails_len (L : List Ml) : (L.flatMap encM).length = L.length * 3 := by rw [enc_length encM_len, Nat.mul_comm]
theorem encM_one (L : List Ml) : ∀ u ∈ L.flatMap encM, u.oneCell' = true := by
  intro u hu
  simp only [List.mem_flatMap] at hu
  obtain ⟨x, _, hx⟩ := hu
  simp [encM] at hx
  rcases hx with rfl | rfl | rfl <;> rfl
theorem encM_one1 (x : Ml) : ∀ u ∈ encM x, u.oneCell' = true := by
  intro u hu
  simp [encM] at hu
  rcases hu with rfl | rfl | rfl <;> rfl
theorem encM_snoc (L : List Ml) (x : Ml) : (L ++ [x]).flatMap encM = L.flatMap encM ++ encM x := by simp
theorem own_mail {w : World} {base g n c : Nat} {L : List Ml} (h : w.ownsRow base 30 3 (.slice (some ⟨g, 0, none⟩) n c) n (L.flatMap encM)) {k : Nat} {x : Ml} (hx : L[k]? = some x) :
    w.cell? ⟨g, k * 3, none⟩ = some (.int .i64 x.fr) ∧ w.cell? ⟨g, k * 3 + 1, none⟩ = some (.int .i64 x.kd) ∧ w.cell? ⟨g, k * 3 + 2, none⟩ = some (.int .i64 x.ab) := by
  have key : ∀ i v, i < 3 → (encM x)[i]? = some v → w.cell? ⟨g, k * 3 + i, none⟩ = some v := by
    intro i v hi hv
    have h1 := enc_get encM_len hx hi
    rw [hv] at h1
    have h2 := h.cells (g := g) rfl _ _ h1
    rw [addr_add, Nat.zero_add] at h2
    exact h2
  exact ⟨by simpa using key 0 _ (by omega) rfl, key 1 _ (by omega) rfl, key 2 _ (by omega) rfl⟩
theorem of3 {w : World} {q : Nat} {x : Ml} (h : w.heap[q]? = some (blkM x)) : w.cell? ⟨q, 0, none⟩ = some (.int .i64 x.fr) ∧ w.cell? ⟨q, 1, none⟩ = some (.int .i64 x.kd) ∧ w.cell? ⟨q, 2, none⟩ = some (.int .i64 x.ab) :=
  ⟨cell_blk h 0, cell_blk h 1, cell_blk h 2⟩
abbrev vI (L : List Int) : List Value := L.map (Value.int .i64)
theorem info3 : (Try.prog.info? 3).map (fun i => (i.zero, i.size, i.bytes)) = some (some (.int .i64 0), 1, 8) := by kernel_rfl
theorem Src.nums {w : World} {v : Value} {n : Nat} {L : List Int} (h : Src w v n 1 (vI L)) : L.length = n ∧ ∃ ao c, v = .slice ao n c ∧ ∀ i x, L[i]? = some x → ∃ B Of, ao = some ⟨B, Of, none⟩ ∧ w.cell? ⟨B, Of + i, none⟩ = some (.int .i64 x) := by
  obtain ⟨ao, c, rfl, _, hl, h3⟩ := h
  simp only [List.length_map, Nat.mul_one] at hl
  refine ⟨hl, ao, c, rfl, fun i x hx => ?_⟩
  obtain ⟨⟨B, Of, sp⟩, rfl, h0⟩ := h3 i (.int .i64 x) (by simp [hx])
  obtain ⟨x0, hx0⟩ : ∃ x0, L[0]? = some x0 := ⟨_, List.getElem?_eq_getElem (by have := lt_of_some hx; omega)⟩
  obtain ⟨ad, e, h00⟩ := h3 0 (.int .i64 x0) (by simp [hx0])
  cases e
  have hsp : sp = none := by
    have := spot_of_cell h00
    simpa [Addr.add] using this
  subst hsp
  rw [addr_add] at h0
  exact ⟨B, Of, rfl, h0⟩

theorem own_int {w : World} {base g n c : Nat} {F : List Int} (h : w.ownsRow base 3 1 (.slice (some ⟨g, 0, none⟩) n c) n (vI F)) {j : Nat} {y : Int} (hy : F[j]? = some y) : w.cell? ⟨g, j, none⟩ = some (.int .i64 y) := by
  have h2 := h.cells (g := g) rfl j (.int .i64 y) (by simp [vI, hy])
  rwa [addr_add, Nat.zero_add] at h2
abbrev Thing := (Nat → Prop) → World → Prop
/-- What is owned stays if none of its blocks is written. -/
structure Thing.Ok (P : Thing) : Prop where
  kept : ∀ {O F : Nat → Prop} {w w' : World}, P O w → Kept F w w' → (∀ i, O i → ¬ F i) → P O w'
  sized : ∀ {O : Nat → Prop} {w : World}, P O w → P (fun k => O k ∧ k < w.heap.size) w
  mono : ∀ {O O' : Nat → Prop} {w : World}, P O w → (∀ k, O k → O' k) → P O' w
def Sep (P Q : Thing) : Thing := fun O w => ∃ O1 O2, P O1 w ∧ Q O2 w ∧ (∀ k, O1 k → O k ∧ ¬ O2 k) ∧ ∀ k, O2 k → O k
theorem Sep.ok {P Q : Thing} (hP : P.Ok) (hQ : Q.Ok) : (Sep P Q).Ok where
  kept := fun ⟨O1, O2, h1, h2, h3, h4⟩ k hF => ⟨O1, O2, hP.kept h1 k (fun i hi => hF i (h3 i hi).1), hQ.kept h2 k (fun i hi => hF i (h4 i hi)), h3, h4⟩
  sized := fun ⟨O1, O2, h1, h2, h3, h4⟩ => ⟨_, _, hP.sized h1, hQ.sized h2, fun k hk => ⟨⟨(h3 k hk.1).1, hk.2⟩, fun h => (h3 k hk.1).2 h.1⟩, fun k hk => ⟨h4 k hk.1, hk.2⟩⟩
  mono := fun ⟨O1, O2, h1, h2, h3, h4⟩ hO => ⟨O1, O2, h1, h2, fun k hk => ⟨hO k (h3 k hk).1, (h3 k hk).2⟩, fun k hk => hO k (h4 k hk)⟩
theorem Sep.swap {P Q : Thing} {O : Nat → Prop} {w : World} (h : Sep P Q O w) : Sep Q P O w := let ⟨O1, O2, h1, h2, h3, h4⟩ := h; ⟨O2, O1, h2, h1, fun k hk => ⟨h4 k hk, fun h => (h3 k h).2 hk⟩, fun k hk => (h3 k hk).1⟩
theorem Sep.turn {P Q R : Thing} {O : Nat → Prop} {w : World} (h : Sep P (Sep Q R) O w) : Sep Q (Sep P R) O w := by
  obtain ⟨O1, O2, h1, ⟨O3, O4, h5, h6, h7, h8⟩, h3, h4⟩ := h
  exact ⟨O3, fun k => O1 k ∨ O4 k, h5, ⟨O1, O4, h1, h6, fun k hk => ⟨.inl hk, fun h => (h3 k hk).2 (h8 k h)⟩, fun k hk => .inr hk⟩,
    fun k hk => ⟨h4 k (h7 k hk).1, fun h => h.elim (fun h => (h3 k h).2 (h7 k hk).1) (fun h => (h7 k hk).2 h)⟩, fun k hk => hk.elim (fun h => (h3 k h).1) (fun h => h4 k (h8 k h))⟩
/-- The first one is turned: what it now owns it owned before, or it is new. -/
theorem Sep.step {P' Q : Thing} {O O1 O2 : Nat → Prop} {w w' : World} (hQ : Q.Ok) (h2 : Q O2 w) (h3 : ∀ k, O1 k → O k ∧ ¬ O2 k) (h4 : ∀ k, O2 k → O k)
    (h1 : P' (fun k => O1 k ∨ w.heap.size ≤ k) w') (hk : Kept O1 w w') (hO : ∀ k, w.heap.size ≤ k → O k) : Sep P' Q O w' ∧ Kept O w w' := by
  refine ⟨⟨_, _, h1, hQ.kept (hQ.sized h2) hk (fun i hi h => (h3 i h).2 hi.1), fun k hk => ?_, fun k hk => h4 k hk.1⟩, hk.mono (fun i _ h => (h3 i h).1)⟩
  rcases hk with h | h
  · exact ⟨(h3 k h).1, fun h' => (h3 k h).2 h'.1⟩
  · exact ⟨hO k h, fun h' => by have := h'.2; omega⟩
/-- A new one beside. -/
theorem Sep.fresh {P N : Thing} {O : Nat → Prop} {w w' : World} (hP : P.Ok) (h : P O w) (hN : N (fun k => w.heap.size ≤ k) w') (hk : New w w') (hO : ∀ k, w.heap.size ≤ k → O k) : Sep N P O w' :=
  ⟨_, _, hN, hP.kept (hP.sized h) hk (fun _ _ h => h), fun k hk => ⟨hO k hk, fun h => by have := h.2; omega⟩, fun k hk => hk.1⟩

/-- A block that is owned. -/
def BQ (q : Nat) (o : Obj) : Thing := fun O w => w.heap[q]? = some o ∧ O q
theorem BQ.ok (q : Nat) (o : Obj) : (BQ q o).Ok := ⟨fun h k hF => ⟨k.heap h.1 (hF _ h.2), h.2⟩, fun h => ⟨h.1, h.2, lt_of_heap h.1⟩, fun h hO => ⟨h.1, hO _ h.2⟩⟩
theorem Sep.any {P Q : Thing} {O : Nat → Prop} {w : World} (h : Sep P Q O w) : ∃ O2, Q O2 w := let ⟨_, O2, _, h2, _, _⟩ := h; ⟨O2, h2⟩
theorem Sep.one {P Q : Thing} {O : Nat → Prop} {w : World} (h : Sep P Q O w) : ∃ O1, P O1 w := let ⟨O1, _, h1, _, _, _⟩ := h; ⟨O1, h1⟩
theorem Sep.inr {P Q Q' : Thing} {O : Nat → Prop} {w : World} (h : Sep P Q O w) (f : ∀ O2, Q O2 w → Q' O2 w) : Sep P Q' O w := let ⟨O1, O2, h1, h2, h3, h4⟩ := h; ⟨O1, O2, h1, f O2 h2, h3, h4⟩
/-- The third one comes first. -/
theorem Sep.third {P Q R S : Thing} {O : Nat → Prop} {w : World} (h : Sep P (Sep Q (Sep R S)) O w) : Sep R (Sep P (Sep Q S)) O w := (h.inr (fun _ h => h.turn)).turn

def LQ (v : Value) (L : List Int) : Thing := fun O w => w.ownsRow 0 3 1 v L.length (vI L) ∧ ∀ k, v.ownBlock = some k → O k
theorem LQ.ok (v : Value) (L : List Int) : (LQ v L).Ok :=
  ⟨fun h k hF => ⟨own_kept h.1 k (fun i hi => hF i (h.2 i hi)), h.2⟩, fun h => ⟨h.1, fun k hk => ⟨h.2 k hk, own_size h.1 hk⟩⟩, fun h hO => ⟨h.1, fun k hk => hO k (h.2 k hk)⟩⟩
theorem LQ.fresh {v : Value} {L : List Int} {w : World} {base : Nat} (h : w.ownsRow base 3 1 v L.length (vI L)) : LQ v L (fun k => base ≤ k) w := ⟨own_mono h (Nat.zero_le _), fun k hk => own_block h hk⟩
/-- One of its numbers. -/
theorem LQ.at {ao : Option Addr} {n c : Nat} {L : List Int} {O : Nat → Prop} {w : World} (h : LQ (.slice ao n c) L O w) (hn : n = L.length) {j : Nat} {y : Int} (hy : L[j]? = some y) : ∃ g, ao = some ⟨g, 0, none⟩ ∧ w.cell? ⟨g, j, none⟩ = some (.int .i64 y) := by
  have h1 := h.1
  rw [← hn] at h1
  obtain ⟨g, cap, hv, -, -, -⟩ := Row.of_ownS h1 (by have := lt_of_some hy; omega)
  simp only [Value.slice.injEq] at hv
  obtain ⟨rfl, -, rfl⟩ := hv
  exact ⟨g, rfl, own_int h1 hy⟩

theorem own_cap {w : World} {base : Nat} {v : Value} {n cap : Nat} {ao : Option Addr} {e : TypeId} {s : Nat} {xs : List Value} (h : w.ownsRow base e s v n xs) (hv : v = .slice ao n cap) : n ≤ cap := by
  rcases h.2 with ⟨h1, h2⟩ | ⟨g, cap', cur, h1, _, _, h2, _⟩
  · omega
  · rw [hv] at h1; cases h1; exact h2
/-- An append for which there is room. -/
theorem wpList_append_in {P : Program} {w : World} {ops : Array Oper} {rest : List Oper} {o : Oper} {a : Act} {Q : Exit → Act → World → Prop} (hgd : o.guard = none) (s x : Operand) (t : TypeId)
    (ho : o.op = .call { callee := .builtin .append, args := #[s, x], argTypes := #[t, t] })
    (e : TypeId) (i : TypeInfo) (ht : P.underlying t = some (.slice e)) (hi : P.info? e = some i)
    (g n cap : Nat) (cur : Array Value) (hs : a.eval s = .slice (some ⟨g, 0, none⟩) n cap) (hg : w.heap[g]? = some (.cells cur e (0, 0)))
    (ad : Addr) (m c : Nat) (news : List Value) (hx : a.eval x = .slice (some ad) m c) (hl : news.length = m * i.size) (hnews : ∀ j u, news[j]? = some u → w.cell? (ad.add j) = some u) (h1 : ∀ u ∈ news, u.oneCell' = true)
    (hroom : n + m ≤ cap) (hfit : n * i.size + news.length ≤ cur.size)
    (h : ∀ w', w'.heap[g]? = some (.cells (cur.toList.take (n * i.size) ++ news ++ cur.toList.drop (n * i.size + news.length)).toArray e (0, 0)) → Kept (fun k => k = g) w w' →
      wpList P ops Q rest (a.put o.dst (.slice (some ⟨g, 0, none⟩) (n + m) cap)) w') : wpList P ops Q (o :: rest) a w := by
  have hr := run_append_room (P := P) w t o.type e i ht hi g n cap cur hg ad m c news hl hnews h1 hroom hfit
  have hK' := h (w.setRow g (cur.toList.take (n * i.size) ++ news ++ cur.toList.drop (n * i.size + news.length)).toArray) (setRow_heap w g cur _ e _ hg) ((Kept.refl (fun k => k = g) _).setRow (.inr rfl) _)
  refine wpList_plain hgd fun K hK => ?_
  unfold Oper.wp execOp
  simp only [ho, resolve, invoke, builtin, Sem.run_bind, Sem.run_pure, Result.andThen_ok, List.map_toArray, List.map_cons, List.map_nil, hs, hx, hr]
  exact hK _ _ hK'

set_option maxRecDepth 100000 in
theorem delete_first (v : Value) (a : Ml) (l : List Ml) (w : World) (hown : w.ownsRow 0 30 3 v (l.length + 1) ((a :: l).flatMap encM)) (hL : l.length ≤ 1000000) :
    Calls Try.prog 18 #[v, .int .i64 0, .int .i64 1] w fun e w' => ∃ v', e = .returned v' ∧ w'.ownsRow 0 30 3 v' l.length (l.flatMap encM) ∧ v'.ownBlock = v.ownBlock ∧ Kept (fun k => v.ownBlock = some k) w w' := by
  rcases hown.2 with ⟨_, h0⟩ | ⟨g, cap, cur, rfl, -, hg, hnc, hcm, hcs, hct⟩
  · omega
  have hl := mails_len l
  have Hct := Lib.hid hct
  have Hcs := Lib.hid hcs
  have hcl : ∀ j u, (l.flatMap encM)[j]? = some u → w.cell? ⟨g, 3 + j, none⟩ = some u := by
    intro j u hj
    have := hown.cells (g := g) rfl (3 + j) u (by
      rw [List.flatMap_cons, List.getElem?_append_right (by rw [encM_len]; omega), encM_len, Nat.add_sub_cancel_left]; exact hj)
    rw [addr_add, Nat.zero_add] at this
    exact this
  have Hcl := Lib.hid hcl
  clear hcl hown hct hcs
  obtain ⟨i30, hi, hz0, hz1, hz2⟩ := info_parts info30
  obtain ⟨len, hlen⟩ : ∃ len, len = l.length := ⟨_, rfl⟩
  have Hl := Lib.hid hl
  have Hlen := Lib.hid hlen
  rw [← hlen] at hL hnc ⊢
  clear hlen hl
  have k1 : (1 : Int) ≤ (len : Int) + 1 := by omega
  have k2 : ((len + 1 : Nat) : Int) = (len : Int) + 1 := by omega
  have k3 : (1 : Int) ≤ ((len + 1 : Nat) : Int) := by omega
  go_enter Try.func18, Try.ntmps18
  go_wp2_with fail
  go_still_tail 6, (by kernel_rfl)
  change wpList _ _ _ _ _ w.drew
  obtain ⟨ad, had, hadv⟩ : ∃ ad : Addr, (if cap = 1 then some (⟨g, 0, none⟩ : Addr) else some ⟨g, 3, none⟩) = some ad ∧ (0 < len → ad = ⟨g, 3, none⟩) := by
    by_cases h : cap = 1
    · exact ⟨_, by rw [if_pos h], fun h0 => by omega⟩
    · exact ⟨_, by rw [if_neg h], fun _ => rfl⟩
  rw [had]
  clear had
  have Hadv := Lib.hid hadv
  clear hadv
  refine wpList_append_in rfl (.tmp 22) (.tmp 25) 38 rfl 30 i30 Try.underlying38 hi g 0 cap cur rfl (by exact hg) ad len (cap - 1) (l.flatMap encM) rfl ?a1 ?a2 (encM_one l) (by omega) ?a3 ?_
  case a1 => rw [Hl.out, hz1, Hlen.out]
  case a2 =>
    intro j u hj
    have h0 : 0 < len := by
      have := lt_of_some hj
      have := Hl.out
      have := Hlen.out
      omega
    rw [Hadv.out h0, addr_add, World.cell?_drew]
    exact Hcl.out j u hj
  case a3 => have := Hl.out; have := Hlen.out; have := Hcs.out; omega
  intro w2 hg2 hk2
  obtain ⟨cur2, hcur2⟩ : ∃ cur2, (cur.toList.take (0 * i30.size) ++ l.flatMap encM ++ cur.toList.drop (0 * i30.size + (l.flatMap encM).length)).toArray = cur2 := ⟨_, rfl⟩
  rw [hcur2] at hg2
  have hs2 : cur2.size = cap * 3 := by
    rw [← hcur2]
    have := Hl.out; have := Hlen.out; have := Hcs.out
    simp only [Nat.zero_mul, List.take_zero, List.nil_append, Nat.zero_add, List.size_toArray, List.length_append, List.length_drop, Array.length_toList]
    omega
  have ht2 : cur2.toList.take (len * 3) = l.flatMap encM := by
    rw [← hcur2]
    have := Hl.out; have := Hlen.out
    simp only [Nat.zero_mul, List.take_zero, List.nil_append, Nat.zero_add]
    rw [List.take_left' (by omega)]
  have Hs2 := Lib.hid hs2
  have Ht2 := Lib.hid ht2
  clear hcur2 hs2 ht2
  simp only [Nat.zero_add]
  go_wp2_with (refine wpList_clear_blk rfl (.tmp 31) 38 rfl 30 Try.underlying38 i30 (aggM ⟨0, 0, 0⟩) 3 hi hz0 rfl (by simp [Value.cells, Value.oneCell']) _ _ _ rfl g (len * 3) cur2 30 hg2 (by intro h0; rfl) (by have := Hs2.out; omega) ?_; intro w' hg' hk')
  go_ret
  refine ⟨_, rfl, ⟨by rw [Hl.out, Hlen.out], .inr ⟨g, cap, _, rfl, Nat.zero_le _, hg', by omega, hcm, ?_, ?_⟩⟩, rfl, ((Kept.refl _ _).drew.trans (hk2.trans hk')).mono (fun i _ h => by simp [Value.ownBlock, h])⟩
  · have := Hs2.out
    simp only [List.size_toArray, splice, List.length_append, List.length_take, List.length_drop, Array.length_toList, size_zeroCells, zc3]
    omega
  · have h5 := Ht2.out
    have h6 := Hl.out
    rw [← Hlen.out] at h6
    rw [← h5]
    simp only [splice, List.append_assoc]
    rw [List.take_left' (by rw [h5, h6])]

/-- A copy of a slice. -/
theorem clone_any (v : Value) (L : List Ml) (w : World) (hown : w.ownsRow 0 30 3 v L.length (L.flatMap encM)) (hL : L.length ≤ 1000000) :
    Calls Try.prog 19 #[v] w fun e w' => ∃ v', e = .returned v' ∧ w'.ownsRow 0 30 3 v' L.length (L.flatMap encM) ∧ (∀ k, v'.ownBlock = some k → w.heap.size ≤ k) ∧ New w w' := by
  obtain ⟨i30, hi, hz0, hz1, hz2⟩ := info_parts info30
  have heq := fun (w : World) (a : Option Addr) (n c n' c' : Nat) => Lib.run_eql_slice_nil (P := Try.prog) w 38 30 a n c n' c' Try.underlying38
  rcases hown.2 with ⟨rfl, h0⟩ | ⟨g, cap, cur, rfl, -, hg, hnc, hcm, hcs, hct⟩
  · have hL0 : L = [] := List.eq_nil_of_length_eq_zero h0
    subst hL0
    go_enter Try.func19, Try.ntmps19
    go_wp2
    go_ret
    exact ⟨_, rfl, ⟨by simp, .inl ⟨rfl, rfl⟩⟩, fun k hk => by simp [Value.ownBlock] at hk, Kept.refl _ _⟩
  · have hsrc := (Src.of_own hown).alloc (.cells #[] 30)
    have Hl := Lib.hid (mails_len L)
    have hown0 : (w.alloc (.cells #[] 30)).ownsRow w.heap.size 30 3 (.slice (some ⟨w.heap.size, 0, none⟩) 0 0) 0 [] :=
      ⟨rfl, .inr ⟨_, 0, #[], rfl, Nat.le_refl _, heap_alloc_new _ _, Nat.le_refl _, Nat.zero_le _, rfl, rfl⟩⟩
    have Hown0 := Lib.hid hown0
    have Hsrc := Lib.hid hsrc
    clear hown0 hsrc hown hct hcs
    obtain ⟨len, hlen⟩ : ∃ len, len = L.length := ⟨_, rfl⟩
    have Hlen := Lib.hid hlen
    rw [← hlen] at hL hnc ⊢
    clear hlen
    go_enter Try.func19, Try.ntmps19
    go_wp2_with (at_builtin; refine wpList_append_src2 rfl _ _ 38 rfl w.heap.size 30 i30 (aggM ⟨0, 0, 0⟩) 3 24 Try.underlying38 hi hz0 hz1 hz2 rfl (by decide) _ 0 [] rfl Hown0.out _ len (L.flatMap encM) (by first | rfl | exact rfl) (by have := Hsrc.out; rw [← Hlen.out] at this; exact this) (encM_one L) (by simp [maxLen]; omega) (by omega) (by simp) ?_; intro v' w' hown' hgr hbk)
    go_ret
    rw [Nat.zero_add] at hown'
    refine ⟨_, rfl, own_mono hown' (Nat.zero_le _), fun k hk => own_block hown' hk, ?_⟩
    exact ((Kept.refl (fun _ => False) w).alloc _).grown hgr (fun k hk => by cases hk; exact .inl (Nat.le_refl _))
end Go.Proofs.Ytfdnmgebpfopjaa

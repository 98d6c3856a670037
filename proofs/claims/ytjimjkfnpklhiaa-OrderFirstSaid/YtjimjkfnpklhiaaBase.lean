/- Lemmas on worlds: what a call leaves as it was ('Kept'), rows of cells as lists ('Row'). No function of the program is named here. -/
import Derived.WalkKit
import Derived.Lib.Hide
import Derived.Deep.Draws
import Derived.Laws.AppendOwnNone
import Derived.Laws.CopyOwn
import Derived.ArgAppend
set_option linter.all false
namespace Go.Proofs.Ytjimjkfnpklhiaa
open Go.RowKit

/-- All blocks of w but those of F are in w' as they were; the streams, too. -/
structure Kept (F : Nat → Prop) (w w' : World) : Prop where
  os : w'.os = w.os
  tape : w'.tape = w.tape
  output : w'.output = w.output
  size : w.heap.size ≤ w'.heap.size
  block : ∀ k, k < w.heap.size → ¬ F k → w'.heap[k]? = w.heap[k]?

theorem Kept.refl (F : Nat → Prop) (w : World) : Kept F w w := ⟨rfl, rfl, rfl, Nat.le_refl _, fun _ _ _ => rfl⟩

theorem Kept.trans {F : Nat → Prop} {a b c : World} (h : Kept F a b) (k : Kept F b c) : Kept F a c :=
  ⟨k.os.trans h.os, k.tape.trans h.tape, k.output.trans h.output, Nat.le_trans h.size k.size,
    fun i hi hn => (k.block i (Nat.lt_of_lt_of_le hi h.size) hn).trans (h.block i hi hn)⟩

/-- A second step may write what is new since the first world, too. -/
theorem Kept.trans' {F G : Nat → Prop} {a b c : World} (h : Kept F a b) (k : Kept G b c) (hG : ∀ i, i < a.heap.size → G i → F i) : Kept F a c :=
  ⟨k.os.trans h.os, k.tape.trans h.tape, k.output.trans h.output, Nat.le_trans h.size k.size,
    fun i hi hn => (k.block i (Nat.lt_of_lt_of_le hi h.size) (fun hg => hn (hG i hi hg))).trans (h.block i hi hn)⟩

theorem Kept.mono {F G : Nat → Prop} {a b : World} (h : Kept F a b) (hFG : ∀ i, i < a.heap.size → F i → G i) : Kept G a b :=
  ⟨h.os, h.tape, h.output, h.size, fun i hi hn => h.block i hi (fun hf => hn (hFG i hi hf))⟩

theorem Kept.alloc {F : Nat → Prop} {a w : World} (h : Kept F a w) (o : Obj) : Kept F a (w.alloc o) :=
  ⟨h.os, h.tape, h.output, Nat.le_trans h.size (by simp), fun i hi hn => (Below.heap_alloc w o i (Nat.lt_of_lt_of_le hi h.size)).trans (h.block i hi hn)⟩

theorem Kept.drew {F : Nat → Prop} {a w : World} (h : Kept F a w) : Kept F a w.drew := ⟨h.os, h.tape, h.output, h.size, h.block⟩
theorem Kept.drewN {F : Nat → Prop} {a w : World} (h : Kept F a w) : ∀ n, Kept F a (w.drewN n) := fun _ => ⟨h.os, h.tape, h.output, h.size, h.block⟩

theorem Kept.setCell {F : Nat → Prop} {a w : World} (h : Kept F a w) {p : Addr} (hp : a.heap.size ≤ p.block ∨ F p.block) (u : Value) : Kept F a (w.setCell p u) :=
  ⟨h.os, h.tape, h.output, by have := h.size; simp [World.setCell]; omega, fun i hi hn => (Below.heap_setCell w p u i (by
    rintro rfl
    rcases hp with h1 | h1
    · omega
    · exact hn h1)).trans (h.block i hi hn)⟩

theorem Kept.setRow {F : Nat → Prop} {a w : World} (h : Kept F a w) {g : Nat} (hp : a.heap.size ≤ g ∨ F g) (cs : Array Value) : Kept F a (w.setRow g cs) :=
  ⟨h.os, h.tape, h.output, by have := h.size; simp [World.setRow]; omega, fun i hi hn => (setRow_other w g i cs (by
    rintro rfl
    rcases hp with h1 | h1
    · omega
    · exact hn h1)).trans (h.block i hi hn)⟩

theorem Kept.grown {F : Nat → Prop} {a w w' : World} {row : Option Nat} (h : Kept F a w) (hg : w.grownBy w' row) (hr : ∀ k, row = some k → a.heap.size ≤ k ∨ F k) : Kept F a w' :=
  ⟨hg.os.trans h.os, hg.tape.trans h.tape, hg.output.trans h.output, Nat.le_trans h.size hg.size,
    fun i hi hn => (hg.block i (Nat.lt_of_lt_of_le hi h.size) (fun e => by
      rcases hr i e.symm with h1 | h1
      · omega
      · exact hn h1)).trans (h.block i hi hn)⟩

theorem Kept.below {F : Nat → Prop} {w w' : World} {B : Nat} (h : Kept F w w') (hB : B ≤ w.heap.size) (hF : ∀ i, F i → B ≤ i) : Below B w w' :=
  ⟨h.os, h.tape, h.output, h.size, fun k hk => h.block k (by omega) (fun hf => by have := hF k hf; omega)⟩

theorem Kept.of_below {w w' : World} {B : Nat} (h : Below B w w') : Kept (fun k => B ≤ k) w w' :=
  ⟨h.os, h.tape, h.output, h.size, fun k _ hn => h.block k (by omega)⟩

theorem Kept.heap {F : Nat → Prop} {w w' : World} (h : Kept F w w') {k : Nat} {o : Obj} (hk : w.heap[k]? = some o) (hn : ¬ F k) : w'.heap[k]? = some o :=
  (h.block k (by
    rcases Nat.lt_or_ge k w.heap.size with h' | h'
    · exact h'
    · simp [Array.getElem?_eq_none h'] at hk) hn).trans hk

theorem lt_of_heap {w : World} {k : Nat} {o : Obj} (hk : w.heap[k]? = some o) : k < w.heap.size := by
  rcases Nat.lt_or_ge k w.heap.size with h' | h'
  · exact h'
  · simp [Array.getElem?_eq_none h'] at hk

/-- The slice of n elements of one cell each at the head of block g is the list xs (its block is as large as its capacity). -/
structure Row (w : World) (g cap : Nat) (e : TypeId) (xs : List Value) : Prop where
  ex : ∃ cur : Array Value, w.heap[g]? = some (.cells cur e (0, 0)) ∧ cur.size = cap ∧ cur.toList.take xs.length = xs
  le : xs.length ≤ cap

theorem Row.kept {w w' : World} {g cap : Nat} {e : TypeId} {xs : List Value} {F : Nat → Prop} (h : Row w g cap e xs) (k : Kept F w w') (hn : ¬ F g) : Row w' g cap e xs :=
  ⟨let ⟨cur, h1, h2, h3⟩ := h.ex; ⟨cur, k.heap h1 hn, h2, h3⟩, h.le⟩

theorem Row.lt {w : World} {g cap : Nat} {e : TypeId} {xs : List Value} (h : Row w g cap e xs) : g < w.heap.size := let ⟨_, h1, _, _⟩ := h.ex; lt_of_heap h1

theorem Row.cell {w : World} {g cap : Nat} {e : TypeId} {xs : List Value} (h : Row w g cap e xs) {i : Nat} (hi : i < xs.length) : w.cell? ⟨g, i, none⟩ = some xs[i] := by
  obtain ⟨cur, h1, h2, h3⟩ := h.ex
  rw [cell_of_row w g i cur e (0, 0) h1]
  have h4 : (cur.toList.take xs.length)[i]? = xs[i]? := by rw [h3]
  rw [List.getElem?_take, if_pos hi] at h4
  simpa [List.getElem?_eq_getElem hi] using h4

theorem Row.free {w : World} {g cap : Nat} {e : TypeId} {xs : List Value} (h : Row w g cap e xs) (i : Nat) : w.frozen? ⟨g, i, none⟩ = false := by
  obtain ⟨cur, h1, h2, h3⟩ := h.ex
  exact frozen_of_row w g i cur e h1

theorem Row.set {w : World} {g cap : Nat} {e : TypeId} {xs : List Value} (h : Row w g cap e xs) (i : Nat) (u : Value) : Row (w.setCell ⟨g, i, none⟩ u) g cap e (xs.set i u) := by
  obtain ⟨cur, h1, h2, h3⟩ := h.ex
  refine ⟨⟨cur.setIfInBounds i u, heap_setCell_same w g i cur e u h1, by simpa using h2, ?_⟩, by simpa using h.le⟩
  rw [Array.toList_setIfInBounds, List.length_set, ← h3, List.take_set]
  simp [h3]

theorem Row.same {w w' : World} {g cap : Nat} {e : TypeId} {xs : List Value} (h : Row w g cap e xs) (k : Kept (fun _ => False) w w') : Row w' g cap e xs := h.kept k (fun h => h)
theorem Row.alloc {w : World} {g cap : Nat} {e : TypeId} {xs : List Value} (h : Row w g cap e xs) (o : Obj) : Row (w.alloc o) g cap e xs :=
  h.kept (F := fun _ => False) ((Kept.refl _ w).alloc o) (fun h => h)

/-- A block of cells, known whole. -/
theorem cell_blk {w : World} {b : Nat} {c : Array Value} {t : TypeId} (h : w.heap[b]? = some (.cells c t (0, 0))) (i : Nat) : w.cell? ⟨b, i, none⟩ = c[i]? := cell_of_row w b i c t (0, 0) h
theorem free_blk {w : World} {b : Nat} {c : Array Value} {t : TypeId} (h : w.heap[b]? = some (.cells c t (0, 0))) (i : Nat) : w.frozen? ⟨b, i, none⟩ = false := frozen_of_row w b i c t h

/-- A slice that can be read: m elements of 'size' cells each, whose cells are xs, one behind the other. -/
def Src (w : World) (v : Value) (m size : Nat) (xs : List Value) : Prop :=
  ∃ ao c, v = .slice ao m c ∧ (ao = none → c = 0) ∧ xs.length = m * size ∧ ∀ j u, xs[j]? = some u → ∃ ad, ao = some ad ∧ w.cell? (ad.add j) = some u

theorem addr_add (g o j : Nat) : (⟨g, o, none⟩ : Addr).add j = ⟨g, o + j, none⟩ := by unfold Addr.add; split <;> simp_all

theorem Src.of_own {w : World} {base : Nat} {e : TypeId} {size : Nat} {v : Value} {n : Nat} {xs : List Value} (h : w.ownsRow base e size v n xs) : Src w v n size xs := by
  rcases h.2 with ⟨rfl, rfl⟩ | ⟨g, cap, cur, rfl, _⟩
  · obtain rfl : xs = [] := List.eq_nil_of_length_eq_zero (by simpa using h.1)
    exact ⟨none, 0, rfl, fun _ => rfl, by simp, fun j u hj => by simp at hj⟩
  · exact ⟨some ⟨g, 0, none⟩, cap, rfl, by simp, h.1, fun j u hj => ⟨_, rfl, h.cells rfl j u hj⟩⟩

theorem cell_kept {F : Nat → Prop} {w w' : World} (k : Kept F w w') {a : Addr} {u : Value} (hc : w.cell? a = some u) (hn : ¬ F a.block) : w'.cell? a = some u :=
  (World.cell?_of_block (w := w) (k.block a.block (World.block_lt_of_cell? w a hc) hn)).trans hc

theorem Src.kept {F : Nat → Prop} {w w' : World} {v : Value} {m size : Nat} {xs : List Value} (h : Src w v m size xs) (k : Kept F w w') (hF : ∀ a n c, v = .slice (some a) n c → ¬ F a.block) : Src w' v m size xs := by
  obtain ⟨ao, c, rfl, h1, h2, h3⟩ := h
  refine ⟨ao, c, rfl, h1, h2, fun j u hj => ?_⟩
  obtain ⟨ad, rfl, hc⟩ := h3 j u hj
  exact ⟨ad, rfl, cell_kept k hc (by
    have : (ad.add j).block = ad.block := by unfold Addr.add; split <;> rfl
    rw [this]; exact hF ad _ _ rfl)⟩

theorem Src.same {w w' : World} {v : Value} {m size : Nat} {xs : List Value} (h : Src w v m size xs) (k : Kept (fun _ => False) w w') : Src w' v m size xs := h.kept k (fun _ _ _ _ h => h)
theorem Src.alloc {w : World} {v : Value} {m size : Nat} {xs : List Value} (h : Src w v m size xs) (o : Obj) : Src (w.alloc o) v m size xs := h.same ((Kept.refl _ _).alloc o)

theorem Row.of_own {w : World} {base : Nat} {e : TypeId} {v : Value} {n : Nat} {xs : List Value} (h : w.ownsRow base e 1 v n xs) (hn : 0 < n) :
    ∃ g cap, v = .slice (some ⟨g, 0, none⟩) n cap ∧ base ≤ g ∧ Row w g cap e xs := by
  have hl : xs.length = n := by simpa using h.1
  rcases h.2 with ⟨_, h0⟩ | ⟨g, cap, cur, hv, hb, hg, hnc, hcm, hcs, ht⟩
  · omega
  · refine ⟨g, cap, hv, hb, ⟨⟨cur, hg, by simpa using hcs, ?_⟩, by omega⟩⟩
    rw [hl]; simpa using ht

theorem Row.of_ownS {w : World} {base s : Nat} {e : TypeId} {v : Value} {n : Nat} {xs : List Value} (h : w.ownsRow base e s v n xs) (hn : 0 < n) :
    ∃ g cap, v = .slice (some ⟨g, 0, none⟩) n cap ∧ base ≤ g ∧ Row w g (cap * s) e xs ∧ n ≤ cap := by
  have hl : xs.length = n * s := h.1
  rcases h.2 with ⟨_, h0⟩ | ⟨g, cap, cur, hv, hb, hg, hnc, hcm, hcs, ht⟩
  · omega
  · exact ⟨g, cap, hv, hb, ⟨⟨cur, hg, hcs, by rw [hl]; exact ht⟩, by rw [hl]; exact Nat.mul_le_mul_right _ hnc⟩, hnc⟩

/-- A slice literal: its block is the last one. -/
theorem Src.lit (w : World) (cs : Array Value) (e : TypeId) (m size : Nat) (h : cs.size = m * size) : Src (w.alloc (.cells cs e)) (.slice (some ⟨w.heap.size, 0, none⟩) m m) m size cs.toList := by
  refine ⟨_, _, rfl, by simp, by simpa using h, fun j u hj => ⟨_, rfl, ?_⟩⟩
  rw [addr_add, Nat.zero_add, World.cell?_alloc_new]
  simpa using hj

theorem Src.ints {w : World} {v : Value} {n : Nat} {k : IntKind} {zs : List Int} (h : Src w v n 1 (zs.map (Value.int k))) :
    zs.length = n ∧ ∃ ao c, v = .slice ao n c ∧ ∀ i, i < n → ∃ ad, ao = some ad ∧ w.cell? (ad.add i) = some (.int k (zs.getD i 0)) := by
  obtain ⟨ao, c, rfl, _, hl, h3⟩ := h
  simp at hl
  refine ⟨hl, ao, c, rfl, fun i hi => ?_⟩
  obtain ⟨ad, h1, h2⟩ := h3 i (.int k (zs.getD i 0)) (by simp [List.getD, show i < zs.length by omega])
  exact ⟨ad, h1, h2⟩

/-- x & (2^i - 1), whatever the sign of x. -/
theorem and_mask (x : Int) (i : Nat) (hi : i < 63) : bits .and .i64 x (2 ^ i - 1) = x % 2 ^ i := by
  have h1 : (BitVec.ofInt 64 x).toNat = (x % 18446744073709551616).toNat := by rw [BitVec.toNat_ofInt]; rfl
  have h3 : (2 : Nat) ^ i < 2 ^ 63 := Nat.pow_lt_pow_right (by decide) hi
  have hp : 0 < 2 ^ i := Nat.two_pow_pos i
  have hc : (2 : Int) ^ i - 1 = ((2 ^ i - 1 : Nat) : Int) := by rw [Int.natCast_sub (by omega)]; simp
  have h2 : (BitVec.ofInt 64 ((2 : Int) ^ i - 1)).toNat = 2 ^ i - 1 := by
    rw [hc, BitVec.ofInt_natCast, BitVec.toNat_ofNat]; exact Nat.mod_eq_of_lt (by omega)
  show IntKind.i64.wrap ((BitVec.ofInt 64 x &&& BitVec.ofInt 64 (2 ^ i - 1)).toNat : Int) = _
  rw [BitVec.toNat_and, h1, h2, Nat.and_two_pow_sub_one_eq_mod]
  have h4 : (x % 18446744073709551616).toNat % 2 ^ i < 2 ^ i := Nat.mod_lt _ hp
  have h5 : (((x % 18446744073709551616).toNat % 2 ^ i : Nat) : Int) = x % 2 ^ i := by
    rw [Int.natCast_emod, Int.toNat_of_nonneg (Int.emod_nonneg _ (by decide))]
    have : (2 : Int) ^ i ∣ 18446744073709551616 := by
      refine ⟨2 ^ (64 - i), ?_⟩
      rw [← Int.pow_add, show i + (64 - i) = 64 by omega]
      rfl
    simpa using Int.emod_emod_of_dvd x this
  rw [h5, IntKind.wrap_i64]
  have h6 := Int.emod_nonneg x (show (2 : Int) ^ i ≠ 0 by have : (0 : Int) < 2 ^ i := by exact_mod_cast hp
                                                          omega)
  have h7 : x % 2 ^ i < 9223372036854775808 := by rw [← h5]; omega
  omega

theorem and_small (x : Int) (i : Nat) (hi : i < 63) : ∃ y : Int, bits .and .i64 x (2 ^ i - 1) = y ∧ 0 ≤ y ∧ y < 2 ^ i :=
  ⟨_, and_mask x i hi, Int.emod_nonneg x (by have := Int.pow_pos (n := 2) (m := i) (by decide); omega), Int.emod_lt_of_pos x (Int.pow_pos (by decide))⟩

theorem splice_getD (ws cs : List Int) (a i : Nat) (h : a + cs.length ≤ ws.length) : (splice ws a cs).getD i 0 = if a ≤ i ∧ i < a + cs.length then cs.getD (i - a) 0 else ws.getD i 0 := by
  have e1 : min a ws.length = a := by omega
  simp only [List.getD, splice, List.getElem?_append, List.getElem?_take, List.getElem?_drop, List.length_take, e1]
  by_cases h1 : i < a
  · rw [if_pos h1, if_pos h1, if_neg (by omega)]
  · rw [if_neg h1]
    by_cases h2 : i - a < cs.length
    · rw [if_pos h2, if_pos (by omega)]
    · rw [if_neg h2, if_neg (by omega)]
      congr 2
      omega

theorem Row.src {w : World} {g cap : Nat} {e : TypeId} {xs : List Value} (h : Row w g cap e xs) : Src w (.slice (some ⟨g, 0, none⟩) xs.length cap) xs.length 1 xs := by
  refine ⟨_, _, rfl, by simp, by simp, fun j u hj => ⟨_, rfl, ?_⟩⟩
  have hjl := (List.getElem?_eq_some_iff.1 hj).1
  rw [addr_add, Nat.zero_add, h.cell hjl]
  simpa [hjl] using hj

theorem wpList_append_src {P : Program} {w : World} {ops : Array Oper} {rest : List Oper} {o : Oper} {a : Act} {Q : Exit → Act → World → Prop} (hgd : o.guard = none) (s x : Operand) (t : TypeId)
    (ho : o.op = .call { callee := .builtin .append, args := #[s, x], argTypes := #[t, t] })
    (base : Nat) (e : TypeId) (i : TypeInfo) (z : Value) (size bytes : Nat) (ht : P.underlying t = some (.slice e)) (hi : P.info? e = some i) (hz : i.zero = some z)
    (hsize : i.size = size) (hby : i.bytes = bytes) (hzs : z.cells.size = size) (hsz : 0 < size)
    (v : Value) (n : Nat) (xs : List Value) (hs : a.eval s = v) (hown : w.ownsRow base e size v n xs)
    (sv : Value) (m : Nat) (news : List Value) (hx : a.eval x = sv) (hsrc : Src w sv m size news) (h1 : ∀ u ∈ news, u.oneCell' = true)
    (h63 : n + m ≤ maxLen) (hbytes : (n + m) * bytes ≤ 140737488355328) (hbase : base ≤ w.heap.size)
    (h : ∀ v' w', w'.ownsRow base e size v' (n + m) (xs ++ news) → w.grownBy w' v.ownBlock → wpList P ops Q rest (a.put o.dst v') w') : wpList P ops Q (o :: rest) a w := by
  obtain ⟨ao, c, rfl, hc, hl, hnews⟩ := hsrc
  cases ao with
  | none =>
    obtain rfl : c = 0 := hc rfl
    have hn0 : news = [] := by
      cases news with
      | nil => rfl
      | cons u l => obtain ⟨ad, h', _⟩ := hnews 0 u rfl; cases h'
    subst hn0
    have hm : m = 0 := by
      have h' : 0 = m * size := by simpa using hl
      rcases Nat.mul_eq_zero.1 h'.symm with h'' | h'' <;> omega
    subst hm
    exact wpList_append_own_none hgd s x t ho base e i size ht hi v n xs hs hown hx (h v w (by simpa using hown) (World.grownBy.refl _ _))
  | some ad =>
    exact wpList_append_own w hgd s x t ho base e i z size bytes ht hi hz hsize hby hzs hsz v n xs hs hown ad m c news hx hl (fun j u hj => by obtain ⟨ad', h1', h2'⟩ := hnews j u hj; cases h1'; exact h2') h1 h63 hbytes hbase (fun v' w' a b _ => h v' w' a b)


theorem Row.splice {w w' : World} {g cap off : Nat} {e : TypeId} {xs cs : List Value} {cur : Array Value} (h : Row w g cap e xs) (h1 : w.heap[g]? = some (.cells cur e (0, 0)))
    (h2 : w'.heap[g]? = some (.cells (splice cur.toList off cs).toArray e (0, 0))) (hfit : off + cs.length ≤ xs.length) : Row w' g cap e (splice xs off cs) := by
  obtain ⟨cur', h1', hs, ht⟩ := h.ex
  rw [h1] at h1'
  simp only [Option.some.injEq, Obj.cells.injEq, and_true, true_and] at h1'
  subst h1'
  have hle := h.le
  have hl : (Go.splice xs off cs).length = xs.length := length_splice xs off cs hfit
  generalize hL : cur.toList = L at ht
  have hLl : L.length = cap := by rw [← hL, Array.length_toList]; exact hs
  rw [hL] at h2
  refine ⟨⟨_, h2, ?_, ?_⟩, by rw [hl]; exact hle⟩
  · rw [List.size_toArray, length_splice _ _ _ (by omega)]; exact hLl
  · rw [hl]
    have e1 : min off L.length = off := by omega
    have e2 : min xs.length L.length = xs.length := by omega
    have e3 : min off xs.length = off := by omega
    apply List.ext_getElem?
    intro i
    rw [← ht]
    simp only [Go.splice, List.getElem?_append, List.getElem?_take, List.getElem?_drop, List.length_take, List.length_drop, e1, e2, e3]
    (repeat' split) <;> first | rfl | omega | skip

/-- 'copy(dst, src)', one cell an element, into a block that is known. -/
theorem wpList_copy_blk {P : Program} {w : World} {ops : Array Oper} {rest : List Oper} {o : Oper} {a : Act} {Q : Exit → Act → World → Prop} (hgd : o.guard = none) (d s : Operand) (dT sT : TypeId)
    (ho : o.op = .call { callee := .builtin .copy, args := #[d, s], argTypes := #[dT, sT] }) (elem : TypeId) (hu : P.underlying dT = some (.slice elem)) (hsz : (P.info? elem).map (·.size) = some 1)
    (dp sp : Option Addr) (dLen dCap sLen sCap : Nat) (hd : a.eval d = .slice dp dLen dCap) (hs : a.eval s = .slice sp sLen sCap)
    (g off : Nat) (cur : Array Value) (t : TypeId) (hg : w.heap[g]? = some (.cells cur t (0, 0))) (cs : List Value) (hn : cs.length = min sLen dLen)
    (hpos : 0 < cs.length → dp = some ⟨g, off, none⟩ ∧ ∃ ad, sp = some ad ∧ ∀ j v, cs[j]? = some v → w.cell? (ad.add j) = some v)
    (hfit : off + cs.length ≤ cur.size) (h1 : ∀ v ∈ cs, v.oneCell' = true)
    (h : ∀ w', w'.heap[g]? = some (.cells (splice cur.toList off cs).toArray t (0, 0)) → Kept (fun k => k = g) w w' → wpList P ops Q rest (a.put o.dst (goInt cs.length)) w') :
    wpList P ops Q (o :: rest) a w := by
  by_cases h0 : cs.length = 0
  · obtain rfl : cs = [] := List.eq_nil_of_length_eq_zero h0
    refine wpList_copy_nothing hgd d s dT sT ho elem hu hsz dp sp dLen dCap sLen sCap hd hs (by simpa using hn.symm) ?_
    exact h w (by simpa [splice] using hg) (Kept.refl _ _)
  · obtain ⟨rfl, ad, rfl, hsrc⟩ := hpos (by omega)
    refine wpList_copy_own hgd d s dT sT ho elem hu hsz g off dLen dCap ad sLen sCap hd hs cur t hg cs hn hsrc hfit h1 ?_
    exact h _ (by simpa [splice] using setRow_heap w g _ _ t _ hg) ((Kept.refl (fun k => k = g) _).setRow (.inr rfl) _)

/-- 'clear(s)': the cells of a slice in a block that is known. -/
theorem wpList_clear_blk {P : Program} {w : World} {ops : Array Oper} {rest : List Oper} {o : Oper} {a : Act} {Q : Exit → Act → World → Prop} (hgd : o.guard = none) (x : Operand) (t : TypeId)
    (ho : o.op = .call { callee := .builtin .clear, args := #[x], argTypes := #[t] }) (e : TypeId) (hu : P.underlying t = some (.slice e))
    (i : TypeInfo) (z : Value) (size : Nat) (hi : P.info? e = some i) (hz : i.zero = some z) (hzs : z.cells.size = size) (hz1 : ∀ v ∈ z.cells.toList, v.oneCell' = true)
    (ao : Option Addr) (n c : Nat) (hx : a.eval x = .slice ao n c)
    (g off : Nat) (cur : Array Value) (ty : TypeId) (hg : w.heap[g]? = some (.cells cur ty (0, 0))) (hpos : 0 < n → ao = some ⟨g, off, none⟩) (hfit : off + n * size ≤ cur.size)
    (h : ∀ w', w'.heap[g]? = some (.cells (splice cur.toList off (Builtin.zeroCells z.cells n).toList).toArray ty (0, 0)) → Kept (fun k => k = g) w w' → wpList P ops Q rest (a.put o.dst (.tuple #[])) w') :
    wpList P ops Q (o :: rest) a w := by
  refine wpList_plain hgd fun K hK => ?_
  by_cases h0 : n = 0
  · subst h0
    have hrun : (Builtin.clear_ #[t] o.type #[.slice ao 0 c]).run P w = .ok (.tuple #[]) w := by
      cases ao <;> simp [Builtin.clear_, run_underlying hu]
    unfold Oper.wp
    simp [execOp, ho, resolve, invoke, builtin, hx, hrun, Result.andThen]
    exact hK _ _ (h w (by simpa [splice, Builtin.zeroCells] using hg) (Kept.refl _ _))
  · obtain rfl := hpos (by omega)
    obtain ⟨n, rfl⟩ : ∃ m, n = m + 1 := ⟨n - 1, by omega⟩
    have hst := run_storeCells_at P g off ty (Builtin.zeroCells z.cells (n + 1)).toList 0 cur w hg (by rw [Array.length_toList, size_zeroCells, hzs]; simpa using hfit) (by
      intro v hv
      simp only [Builtin.zeroCells, Array.toList_map, List.mem_map] at hv
      obtain ⟨j, hj, rfl⟩ := hv
      refine hz1 _ ?_
      have hj' : j < (n + 1) * z.cells.size := by simpa using hj
      have hpos : 0 < z.cells.size := by
        rcases Nat.eq_zero_or_pos z.cells.size with h' | h'
        · rw [h'] at hj'; simp at hj'
        · exact h'
      have hm : j % z.cells.size < z.cells.size := Nat.mod_lt _ hpos
      rw [getElem!_pos z.cells _ hm]
      exact Array.mem_toList_iff.2 (Array.getElem_mem hm))
    have hrun : (Builtin.clear_ #[t] o.type #[.slice (some ⟨g, off, none⟩) (n + 1) c]).run P w = .ok (.tuple #[]) (w.setRow g (splice cur.toList off (Builtin.zeroCells z.cells (n + 1)).toList).toArray) := by
      simp [Builtin.clear_, run_underlying hu, zeroValue, typeInfo, hi, hz, hst, splice]
    unfold Oper.wp
    simp [execOp, ho, resolve, invoke, builtin, hx, hrun, Result.andThen]
    exact hK _ _ (h _ (setRow_heap w g _ _ ty _ hg) ((Kept.refl (fun k => k = g) _).setRow (.inr rfl) _))

theorem ret_bool {a b : Bool} (h : a = b) : Ending.returned (.bool a) = .returned (.bool b) := by rw [h]
theorem ret_int {k : IntKind} {a b : Int} (h : a = b) : Ending.returned (.int k a) = .returned (.int k b) := by rw [h]
theorem quiet_eq {P : Program} {f : FuncId} {args : Array Value} {w : World} {n : Nat} {v : Value}
    (h : Calls P f args (w.drewN n) fun e w' => e = .returned v ∧ w.drewN n = w') : Calls P f args (w.drewN n) fun e w'' => e = .returned v ∧ ∃ m, w'' = w.drewN m :=
  h.mono fun _ _ ⟨he, hm⟩ => ⟨he, n, hm.symm⟩
theorem i64_le {n : Int} (h : (Lit.int .i64 n).wf = true) : n ≤ 9223372036854775807 := by
  simp [Lit.wf, IntKind.min, IntKind.max, IntKind.signed, IntKind.bits] at h
  omega
theorem results_tmp4 {fn : Func} {t u v x : Tmp} (h : fn.results = #[.tmp t, .tmp u, .tmp v, .tmp x]) (tmps : Array Value) (P : Program) (w : World) :
    (results fn tmps).run P w = .ok (.tuple #[tmps.getD t undef, tmps.getD u undef, tmps.getD v undef, tmps.getD x undef]) w := by
  simp [results, h]
abbrev New (w w' : World) : Prop := Kept (fun _ => False) w w'
theorem none_below {w w' : World} (h : New w w') : Below w.heap.size w w' := h.below (Nat.le_refl _) (fun _ h => h.elim)
theorem Kept.new {F : Nat → Prop} {a b c : World} (h : New a b) (k : Kept F b c) (hF : ∀ i, F i → a.heap.size ≤ i) : New a c := h.trans' k (fun i hi hf => by have := hF i hf; omega)

theorem Row.srcS {w : World} {g cap c : Nat} {e : TypeId} {xs : List Value} {n s : Nat} (h : Row w g cap e xs) (hl : xs.length = n * s) : Src w (.slice (some ⟨g, 0, none⟩) n c) n s xs := by
  refine ⟨_, _, rfl, by simp, hl, fun j u hj => ⟨_, rfl, ?_⟩⟩
  have hjl := (List.getElem?_eq_some_iff.1 hj).1
  rw [addr_add, Nat.zero_add, h.cell hjl]
  simpa [hjl] using hj


theorem heap_ne {w : World} {p q : Nat} {c d : Array Value} {T U : TypeId} (hp : w.heap[p]? = some (.cells c T (0, 0))) (hq : w.heap[q]? = some (.cells d U (0, 0))) (h : T ≠ U) : p ≠ q := by
  rintro rfl
  rw [hp] at hq
  simp at hq
  exact h hq.2
theorem heap_eq {w : World} {p : Nat} {c d : Array Value} {T U : TypeId} (hp : w.heap[p]? = some (.cells c T (0, 0))) (hq : w.heap[p]? = some (.cells d U (0, 0))) : c = d := by
  rw [hp] at hq
  simp at hq
  exact hq.1
theorem Row.cellI {w : World} {g cap : Nat} {e : TypeId} {k : IntKind} {ws : List Int} (h : Row w g cap e (ws.map (Value.int k))) {i : Nat} (hi : i < ws.length) : w.cell? ⟨g, i, none⟩ = some (.int k (ws.getD i 0)) := by
  rw [h.cell (by simpa using hi)]; simp [List.getD, hi]

theorem set_getD (xs : List Int) (i r : Nat) (v : Int) : (xs.set i v).getD r 0 = if r = i ∧ r < xs.length then v else xs.getD r 0 := by
  simp only [List.getD, List.getElem?_set]
  by_cases h : i = r
  · subst h
    by_cases h2 : i < xs.length <;> simp [h2]
  · rw [if_neg h, if_neg (fun e => h e.1.symm)]

/-! Rows that a call owns. -/
theorem own_kept {F : Nat → Prop} {w w' : World} {base : Nat} {e : TypeId} {s : Nat} {v : Value} {n : Nat} {xs : List Value} (h : w.ownsRow base e s v n xs) (k : Kept F w w') (hF : ∀ i, v.ownBlock = some i → ¬ F i) : w'.ownsRow base e s v n xs := by
  refine ⟨h.1, ?_⟩
  rcases h.2 with ⟨h1, h2⟩ | ⟨g, cap, cur, rfl, h2, h3, h4⟩
  · exact .inl ⟨h1, h2⟩
  · exact .inr ⟨g, cap, cur, rfl, h2, k.heap h3 (hF g rfl), h4⟩
theorem own_same {w w' : World} {base : Nat} {e : TypeId} {s : Nat} {v : Value} {n : Nat} {xs : List Value} (h : w.ownsRow base e s v n xs) (k : New w w') : w'.ownsRow base e s v n xs := own_kept h k (fun _ _ h => h)
theorem own_block {w : World} {base : Nat} {e : TypeId} {s : Nat} {v : Value} {n : Nat} {xs : List Value} (h : w.ownsRow base e s v n xs) {k : Nat} (hk : v.ownBlock = some k) : base ≤ k := by
  rcases h.2 with ⟨rfl, _⟩ | ⟨g, cap, cur, rfl, h2, _⟩
  · simp [Value.ownBlock] at hk
  · simp [Value.ownBlock] at hk; omega
theorem own_mono {w : World} {base base' : Nat} {e : TypeId} {s : Nat} {v : Value} {n : Nat} {xs : List Value} (h : w.ownsRow base e s v n xs) (hb : base' ≤ base) : w.ownsRow base' e s v n xs := by
  refine ⟨h.1, ?_⟩
  rcases h.2 with h1 | ⟨g, cap, cur, h1, h2, h3⟩
  · exact .inl h1
  · exact .inr ⟨g, cap, cur, h1, by omega, h3⟩
def sliceLen : Value → Nat | .slice _ n _ => n | _ => 0
theorem own_len {w : World} {base : Nat} {e : TypeId} {s : Nat} {v : Value} {n : Nat} {xs : List Value} (h : w.ownsRow base e s v n xs) : sliceLen v = n := by
  rcases h.2 with ⟨rfl, h2⟩ | ⟨g, cap, cur, rfl, _⟩
  · exact h2.symm
  · rfl

theorem wpList_append_src2 {P : Program} {w : World} {ops : Array Oper} {rest : List Oper} {o : Oper} {a : Act} {Q : Exit → Act → World → Prop} (hgd : o.guard = none) (s x : Operand) (t : TypeId)
    (ho : o.op = .call { callee := .builtin .append, args := #[s, x], argTypes := #[t, t] })
    (base : Nat) (e : TypeId) (i : TypeInfo) (z : Value) (size bytes : Nat) (ht : P.underlying t = some (.slice e)) (hi : P.info? e = some i) (hz : i.zero = some z)
    (hsize : i.size = size) (hby : i.bytes = bytes) (hzs : z.cells.size = size) (hsz : 0 < size)
    (v : Value) (n : Nat) (xs : List Value) (hs : a.eval s = v) (hown : w.ownsRow base e size v n xs)
    (sv : Value) (m : Nat) (news : List Value) (hx : a.eval x = sv) (hsrc : Src w sv m size news) (h1 : ∀ u ∈ news, u.oneCell' = true)
    (h63 : n + m ≤ maxLen) (hbytes : (n + m) * bytes ≤ 140737488355328) (hbase : base ≤ w.heap.size)
    (h : ∀ v' w', w'.ownsRow base e size v' (n + m) (xs ++ news) → w.grownBy w' v.ownBlock → (∀ k, v'.ownBlock = some k → v.ownBlock = some k ∨ w.heap.size ≤ k) → wpList P ops Q rest (a.put o.dst v') w') : wpList P ops Q (o :: rest) a w := by
  obtain ⟨ao, c, rfl, hc, hl, hnews⟩ := hsrc
  cases ao with
  | none =>
    obtain rfl : c = 0 := hc rfl
    have hn0 : news = [] := by
      cases news with
      | nil => rfl
      | cons u l => obtain ⟨ad, h', _⟩ := hnews 0 u rfl; cases h'
    subst hn0
    have hm : m = 0 := by
      have h' : 0 = m * size := by simpa using hl
      rcases Nat.mul_eq_zero.1 h'.symm with h'' | h'' <;> omega
    subst hm
    exact wpList_append_own_none hgd s x t ho base e i size ht hi v n xs hs hown hx (h v w (by simpa using hown) (World.grownBy.refl _ _) (fun k hk => .inl hk))
  | some ad =>
    have hnews' : ∀ j u, news[j]? = some u → w.cell? (ad.add j) = some u := fun j u hj => by obtain ⟨ad', h1', h2'⟩ := hnews j u hj; cases h1'; exact h2'
    rcases hown.2 with ⟨rfl, rfl⟩ | ⟨g, cap, cur, rfl, hbg, hg, hnc, hcm, hcs, htake⟩
    · have hown' : w.ownsRow w.heap.size e size (.slice none 0 0) 0 xs := ⟨hown.1, .inl ⟨rfl, rfl⟩⟩
      refine wpList_append_own w hgd s x t ho w.heap.size e i z size bytes ht hi hz hsize hby hzs hsz _ 0 xs hs hown' ad m c news hx hl hnews' h1 h63 hbytes (Nat.le_refl _) (fun v' w' a b _ => ?_)
      exact h v' w' (own_mono a hbase) b (fun k hk => .inr (own_block a hk))
    · by_cases hroom : n + m ≤ cap
      · subst hsize
        have hlen : (xs ++ news).length = (n + m) * i.size := by rw [List.length_append, hown.1, hl, Nat.add_mul]
        have hfit : n * i.size + news.length ≤ cur.size := by rw [hl, hcs, ← Nat.add_mul]; exact Nat.mul_le_mul_right _ hroom
        have hr := run_append_room (P := P) w t o.type e i ht hi g n cap cur hg ad m c news hl hnews' h1 hroom hfit
        have hK' := h (.slice (some ⟨g, 0, none⟩) (n + m) cap) (w.setRow g (cur.toList.take (n * i.size) ++ news ++ cur.toList.drop (n * i.size + news.length)).toArray)
          ⟨hlen, .inr ⟨g, cap, _, rfl, hbg, setRow_heap w g cur _ e _ hg, hroom, hcm, by
            simp only [List.size_toArray, List.length_append, List.length_take, List.length_drop, Array.length_toList]
            omega, by
            simp only []
            rw [htake, ← hlen]
            exact List.take_left⟩⟩
          ⟨rfl, rfl, rfl, by simp, fun k _ hk => setRow_other w g k _ (fun e => hk (by simp [Value.ownBlock, e]))⟩ (fun k hk => .inl hk)
        refine wpList_plain hgd fun K hK => ?_
        unfold Oper.wp execOp
        simp only [ho, resolve, invoke, builtin, Sem.run_bind, Sem.run_pure, Result.andThen_ok, List.map_toArray, List.map_cons, List.map_nil, hs, hx, hr]
        exact hK _ _ hK'
      · refine wpList_append_grows w hgd s x t ho e i z size bytes ht hi hz hsize hby hzs hsz (some ⟨g, 0, none⟩) n cap xs hs (by simp) hown.1 (fun b hb j u hj => by cases hb; exact hown.cells (g := g) rfl j u hj) ad m c news hx hl hnews' h1 (by omega) h63 hbytes ?_
        intro v' w' a b
        exact h v' w' (own_mono a hbase) ⟨b.os, b.tape, b.output, b.size, fun k hk _ => b.block k hk (by simp)⟩ (fun k hk => .inr (own_block a hk))

theorem own_type {w : World} {base s : Nat} {e : TypeId} {v : Value} {m : Nat} {xs : List Value} (h : w.ownsRow base e s v m xs) {k : Nat} (hk : v.ownBlock = some k) : ∃ c, w.heap[k]? = some (.cells c e (0, 0)) := by
  rcases h.2 with ⟨rfl, _⟩ | ⟨g, cap, cur, rfl, h2, h3, _⟩
  · simp [Value.ownBlock] at hk
  · simp [Value.ownBlock] at hk; subst hk; exact ⟨_, h3⟩
theorem own_size {w : World} {base s : Nat} {e : TypeId} {v : Value} {m : Nat} {xs : List Value} (h : w.ownsRow base e s v m xs) {k : Nat} (hk : v.ownBlock = some k) : k < w.heap.size := let ⟨_, h1⟩ := own_type h hk; lt_of_heap h1
/-- An append's frame. -/
theorem Kept.of_grown {w w' : World} {v : Value} (h : w.grownBy w' v.ownBlock) : Kept (fun k => v.ownBlock = some k) w w' := (Kept.refl _ w).grown h (fun k hk => .inr hk)

/-! Cells of a list, s cells an element. -/
section
variable {α : Type} {enc : α → List Value} {s : Nat}
theorem enc_length (he : ∀ x, (enc x).length = s) : ∀ L : List α, (L.flatMap enc).length = s * L.length
  | [] => by simp
  | a :: l => by simp [he, enc_length he l, Nat.mul_add]; omega
theorem enc_get (he : ∀ x, (enc x).length = s) : ∀ {L : List α} {i j : Nat} {x : α}, L[i]? = some x → j < s → (L.flatMap enc)[i * s + j]? = (enc x)[j]?
  | [], i, j, x, h, _ => by simp at h
  | a :: l, 0, j, x, h, hj => by
    obtain rfl : a = x := by simpa using h
    simp only [List.flatMap_cons, Nat.zero_mul, Nat.zero_add]
    rw [List.getElem?_append_left (by rw [he]; exact hj)]
  | a :: l, i + 1, j, x, h, hj => by
    simp only [List.flatMap_cons]
    rw [List.getElem?_append_right (by rw [he, Nat.add_mul]; omega), he, show (i + 1) * s + j - s = i * s + j by rw [Nat.add_mul]; omega]
    exact enc_get he (by simpa using h) hj
theorem enc_set (he : ∀ x, (enc x).length = s) : ∀ {L : List α} {i j : Nat} {x y : α} {v : Value}, L[i]? = some x → j < s → enc y = (enc x).set j v → (L.flatMap enc).set (i * s + j) v = (L.set i y).flatMap enc
  | [], i, j, x, y, v, h, _, _ => by simp at h
  | a :: l, 0, j, x, y, v, h, hj, hy => by
    obtain rfl : a = x := by simpa using h
    simp only [List.flatMap_cons, Nat.zero_mul, Nat.zero_add, List.set_cons_zero]
    rw [List.set_append_left _ _ (by rw [he]; exact hj), hy]
  | a :: l, i + 1, j, x, y, v, h, hj, hy => by
    simp only [List.flatMap_cons, List.set_cons_succ]
    rw [List.set_append_right _ _ (by rw [he, Nat.add_mul]; omega), he, show (i + 1) * s + j - s = i * s + j by rw [Nat.add_mul]; omega]
    rw [enc_set he (by simpa using h) hj hy]
end

/-- The values vs, one behind the other, from cell a on. -/
def putAll (l : List Value) (a : Nat) : List Value → List Value
  | [] => l
  | v :: vs => putAll (l.set a v) (a + 1) vs
theorem putAll_append_right : ∀ (vs l r : List Value) (a : Nat), putAll (l ++ r) (l.length + a) vs = l ++ putAll r a vs
  | [], _, _, _ => rfl
  | v :: vs, l, r, a => by
    rw [putAll, List.set_append_right _ _ (by omega), show l.length + a - l.length = a by omega, Nat.add_assoc, putAll_append_right vs l _ (a + 1)]; rfl
theorem putAll_whole : ∀ (vs p l r : List Value), vs.length = l.length → putAll (p ++ l ++ r) p.length vs = p ++ vs ++ r
  | [], p, l, r, h => by
    have : l = [] := List.eq_nil_of_length_eq_zero (by simpa using h.symm)
    subst this; rfl
  | v :: vs, p, [], r, h => by simp at h
  | v :: vs, p, a :: l, r, h => by
    rw [putAll, List.append_assoc, List.set_append_right _ _ (by omega), Nat.sub_self, List.cons_append, List.set_cons_zero]
    have := putAll_whole vs (p ++ [v]) l r (by simpa using h)
    simpa using this
theorem enc_put {α : Type} {enc : α → List Value} {s : Nat} (he : ∀ x, (enc x).length = s) : ∀ {L : List α} {i : Nat} {x y : α}, L[i]? = some x → putAll (L.flatMap enc) (i * s) (enc y) = (L.set i y).flatMap enc
  | [], i, x, y, h => by simp at h
  | a :: l, 0, x, y, h => by
    have := putAll_whole (enc y) [] (enc a) (l.flatMap enc) (by rw [he, he])
    simpa using this
  | a :: l, i + 1, x, y, h => by
    simp only [List.flatMap_cons, List.set_cons_succ]
    rw [← enc_put he (L := l) (i := i) (x := x) (y := y) (by simpa using h), ← putAll_append_right, he, Nat.add_mul, Nat.one_mul, Nat.add_comm]

theorem lt_of_some {α : Type} {L : List α} {i : Nat} {x : α} (h : L[i]? = some x) : i < L.length := (List.getElem?_eq_some_iff.1 h).1

theorem List.set_getElem?_self {α : Type} {L : List α} {i : Nat} {x : α} (h : L[i]? = some x) : L.set i x = L := by
  obtain ⟨h1, rfl⟩ := List.getElem?_eq_some_iff.1 h
  exact List.set_getElem_self h1
theorem made_enc {α : Type} {enc : α → List Value} {s : Nat} {no : α} (he : ∀ x, (enc x).length = s) (n : Nat) : (madeCells (enc no).toArray (n * s)).toList = (List.replicate n no).flatMap enc := by
  have h1 : (madeCells (enc no).toArray (n * s)).toList.length = n * s := by rw [Array.length_toList, size_madeCells]
  have h2 : ((List.replicate n no).flatMap enc).length = s * n := by rw [enc_length he]; simp
  apply List.ext_getElem?
  intro i
  rcases Nat.lt_or_ge i (n * s) with hi | hi
  · have hs : 0 < s := by
      rcases Nat.eq_zero_or_pos s with h | h
      · subst h; simp at hi
      · exact h
    have hj : i % s < s := Nat.mod_lt _ hs
    have hq : i / s < n := by rw [Nat.div_lt_iff_lt_mul hs]; exact hi
    have := enc_get he (L := List.replicate n no) (i := i / s) (j := i % s) (x := no) (by simp [hq]) hj
    rw [Nat.mul_comm, Nat.div_add_mod] at this
    rw [this]
    have hj' : i % s < (enc no).length := by rw [he]; exact hj
    rw [List.getElem?_eq_getElem hj']
    simp [madeCells, hi, he, hj', getElem!_pos]
    rw [List.getElem?_eq_getElem hj']; rfl
  · rw [List.getElem?_eq_none (by omega), List.getElem?_eq_none (by rw [h2, Nat.mul_comm]; exact hi)]

theorem take_eq_snoc {xs ys : List Int} {k : Nat} (hx : k < xs.length) (hy : k < ys.length) (h : xs.take k = ys.take k) (he : xs.getD k 0 = ys.getD k 0) : xs.take (k + 1) = ys.take (k + 1) := by
  rw [List.take_succ_eq_append_getElem hx, List.take_succ_eq_append_getElem hy, h]
  simp [List.getD, hx, hy] at he
  rw [he]

theorem quiet_more {P : Program} {f : FuncId} {args : Array Value} {w : World} {n : Nat} {v : Value}
    (h : Calls P f args (w.drewN n) fun e w' => e = .returned v ∧ ∃ q, w' = (w.drewN n).drewN q) : Calls P f args (w.drewN n) fun e w'' => e = .returned v ∧ ∃ m, w'' = w.drewN m :=
  h.mono fun _ _ ⟨he, q, hm⟩ => ⟨he, n + q, by rw [hm, World.drewN_drewN]⟩

end Go.Proofs.Ytjimjkfnpklhiaa

/- Lists of structs in a row of cells; what each of package irq's functions does, told of a list of lines. -/
import Derived.Test.YtcblncdfppkhcaaRows
import Derived.Test.YtcblncdfppkhcaaBase
import Derived.Test.YtcblncdfppkhcaaArgs
import Derived.WalkKit
import Derived.Outline
import Derived.WalkSpells
import Derived.WalkLawsBesides
import Derived.Deep.QuietTactic
import Derived.BigQuiet
import Derived.StillTailTactics
set_option linter.all false
namespace Go.Proofs.Ytcblncdfppkhcaa
open Go.RowKit

theorem ret_bool {a b : Bool} (h : a = b) : Ending.returned (.bool a) = .returned (.bool b) := by rw [h]
theorem ret_int {k : IntKind} {a b : Int} (h : a = b) : Ending.returned (.int k a) = .returned (.int k b) := by rw [h]
theorem quiet_eq {P : Program} {f : FuncId} {args : Array Value} {w : World} {n : Nat} {v : Value}
    (h : Calls P f args (w.drewN n) fun e w' => e = .returned v ∧ w.drewN n = w') : Calls P f args (w.drewN n) fun e w'' => e = .returned v ∧ ∃ m, w'' = w.drewN m :=
  h.mono fun _ _ ⟨he, hm⟩ => ⟨he, n, hm.symm⟩
theorem i64_le {n : Int} (h : (Lit.int .i64 n).wf = true) : n ≤ 9223372036854775807 := by
  simp [Lit.wf, IntKind.min, IntKind.max, IntKind.signed, IntKind.bits] at h
  omega
theorem results_tmp4 {fn : Func} {t u v x : Tmp} (h : fn.results = #[.tmp t, .tmp u, .tmp v, .tmp x]) (tmps : Array Value) (P : Program) (w : World) :
    (results fn tmps).run P w = .ok (.tuple #[tmps.getD t undef, tmps.getD u undef, tmps.getD v undef, tmps.getD x undef]) w := by
  simp [results, h]
abbrev New (w w' : World) : Prop := Kept (fun _ => False) w w'
theorem none_below {w w' : World} (h : New w w') : Below w.heap.size w w' := h.below (Nat.le_refl _) (fun _ h => h.elim)
theorem Kept.new {F : Nat → Prop} {a b c : World} (h : New a b) (k : Kept F b c) (hF : ∀ i, F i → a.heap.size ≤ i) : New a c := h.trans' k (fun i hi hf => by have := hF i hf; omega)

/-! Cells of a list, s cells an element. -/
section
variable {α : Type} {enc : α → List Value} {s : Nat}
theorem enc_length (he : ∀ x, (enc x).length = s) : ∀ L : List α, (L.flatMap enc).length = s * L.length
  | [] => by simp
  | a :: l => by simp [he, enc_length he l, Nat.mul_add]; omega
theorem enc_get (he : ∀ x, (enc x).length = s) : ∀ {L : List α} {i j : Nat} {x : α}, L[i]? = some x → j < s → (L.flatMap enc)[i * s + j]? = (enc x)[j]?
  | [], i, j, x, h, _ => by simp at h
  | a :: l, 0, j, x, h, hj => by
    obtain rfl : a = x := by simpa using h
    simp only [List.flatMap_cons, Nat.zero_mul, Nat.zero_add]
    rw [List.getElem?_append_left (by rw [he]; exact hj)]
  | a :: l, i + 1, j, x, h, hj => by
    simp only [List.flatMap_cons]
    rw [List.getElem?_append_right (by rw [he, Nat.add_mul]; omega), he, show (i + 1) * s + j - s = i * s + j by rw [Nat.add_mul]; omega]
    exact enc_get he (by simpa using h) hj
theorem enc_set (he : ∀ x, (enc x).length = s) : ∀ {L : List α} {i j : Nat} {x y : α} {v : Value}, L[i]? = some x → j < s → enc y = (enc x).set j v → (L.flatMap enc).set (i * s + j) v = (L.set i y).flatMap enc
  | [], i, j, x, y, v, h, _, _ => by simp at h
  | a :: l, 0, j, x, y, v, h, hj, hy => by
    obtain rfl : a = x := by simpa using h
    simp only [List.flatMap_cons, Nat.zero_mul, Nat.zero_add, List.set_cons_zero]
    rw [List.set_append_left _ _ (by rw [he]; exact hj), hy]
  | a :: l, i + 1, j, x, y, v, h, hj, hy => by
    simp only [List.flatMap_cons, List.set_cons_succ]
    rw [List.set_append_right _ _ (by rw [he, Nat.add_mul]; omega), he, show (i + 1) * s + j - s = i * s + j by rw [Nat.add_mul]; omega]
    rw [enc_set he (by simpa using h) hj hy]
end

/-- The values vs, one behind the other, from cell a on. -/
def putAll (l : List Value) (a : Nat) : List Value → List Value
  | [] => l
  | v :: vs => putAll (l.set a v) (a + 1) vs
theorem putAll_append_right : ∀ (vs l r : List Value) (a : Nat), putAll (l ++ r) (l.length + a) vs = l ++ putAll r a vs
  | [], _, _, _ => rfl
  | v :: vs, l, r, a => by
    rw [putAll, List.set_append_right _ _ (by omega), show l.length + a - l.length = a by omega, Nat.add_assoc, putAll_append_right vs l _ (a + 1)]; rfl
theorem putAll_whole : ∀ (vs p l r : List Value), vs.length = l.length → putAll (p ++ l ++ r) p.length vs = p ++ vs ++ r
  | [], p, l, r, h => by
    have : l = [] := List.eq_nil_of_length_eq_zero (by simpa using h.symm)
    subst this; rfl
  | v :: vs, p, [], r, h => by simp at h
  | v :: vs, p, a :: l, r, h => by
    rw [putAll, List.append_assoc, List.set_append_right _ _ (by omega), Nat.sub_self, List.cons_append, List.set_cons_zero]
    have := putAll_whole vs (p ++ [v]) l r (by simpa using h)
    simpa using this
theorem enc_put {α : Type} {enc : α → List Value} {s : Nat} (he : ∀ x, (enc x).length = s) : ∀ {L : List α} {i : Nat} {x y : α}, L[i]? = some x → putAll (L.flatMap enc) (i * s) (enc y) = (L.set i y).flatMap enc
  | [], i, x, y, h => by simp at h
  | a :: l, 0, x, y, h => by
    have := putAll_whole (enc y) [] (enc a) (l.flatMap enc) (by rw [he, he])
    simpa using this
  | a :: l, i + 1, x, y, h => by
    simp only [List.flatMap_cons, List.set_cons_succ]
    rw [← enc_put he (L := l) (i := i) (x := x) (y := y) (by simpa using h), ← putAll_append_right, he, Nat.add_mul, Nat.one_mul, Nat.add_comm]

inductive St where | free | opn | shut | again
/-- A line. -/
structure Ln where
  st : St
  note : Int
  badge : Int
def St.code : St → Int | .free => 0 | .opn => 1 | .shut => 2 | .again => 3
def St.bound : St → Bool | .free => false | _ => true
def St.isOpen : St → Bool | .opn => true | _ => false
def St.isAgain : St → Bool | .again => true | _ => false
abbrev Ln.no : Ln := ⟨.free, 0, 0⟩
def encI (x : Ln) : List Value := [.int .i64 x.st.code, .int .i64 x.note, .int .u64 x.badge]
def encR (x : Ln) : List Value := [.bool x.st.bound, .int .i64 x.note, .int .u64 x.badge, .bool x.st.isOpen, .bool x.st.isAgain]

/-- Lines (T: the struct's type; E: a line's; enc, s: its cells). -/
structure Lns (T E : TypeId) (enc : Ln → List Value) (s : Nat) (w : World) (b g cap : Nat) (L : List Ln) : Prop where
  len : ∀ x, (enc x).length = s
  blk : w.heap[b]? = some (.cells #[.slice (some ⟨g, 0, none⟩) L.length cap] T (0, 0))
  row : Row w g (cap * s) E (L.flatMap enc)
  ne : b ≠ g
  le : L.length ≤ 64
  lec : L.length ≤ cap
abbrev LI := Lns 52 56 encI 3
abbrev LR := Lns 48 58 encR 5

section
variable {T E : TypeId} {enc : Ln → List Value} {s : Nat} {w w' : World} {b g cap : Nat} {L : List Ln}
theorem Lns.kept {F : Nat → Prop} (h : Lns T E enc s w b g cap L) (k : Kept F w w') (hb : ¬ F b) (hg : ¬ F g) : Lns T E enc s w' b g cap L :=
  ⟨h.len, k.heap h.blk hb, h.row.kept k hg, h.ne, h.le, h.lec⟩
theorem Lns.same (h : Lns T E enc s w b g cap L) (k : Kept (fun _ => False) w w') : Lns T E enc s w' b g cap L := h.kept k (fun h => h) (fun h => h)
theorem Lns.alloc (h : Lns T E enc s w b g cap L) (o : Obj) : Lns T E enc s (w.alloc o) b g cap L := h.same ((Kept.refl _ w).alloc o)
theorem Lns.drewN (h : Lns T E enc s w b g cap L) (q : Nat) : Lns T E enc s (w.drewN q) b g cap L := h.same ((Kept.refl _ w).drewN q)
theorem Lns.cell0 (h : Lns T E enc s w b g cap L) : w.cell? ⟨b, 0, none⟩ = some (.slice (some ⟨g, 0, none⟩) L.length cap) := cell_blk h.blk 0
theorem Lns.cell (h : Lns T E enc s w b g cap L) {i j : Nat} {x : Ln} (hx : L[i]? = some x) (hj : j < s) : w.cell? ⟨g, i * s + j, none⟩ = (enc x)[j]? := by
  have h1 := enc_get h.len hx hj
  have h2 : j < (enc x).length := by rw [h.len]; exact hj
  rw [List.getElem?_eq_getElem h2] at h1 ⊢
  have h3 := (List.getElem?_eq_some_iff.1 h1).1
  rw [h.row.cell h3]
  rw [List.getElem?_eq_getElem h3] at h1
  exact h1
theorem Lns.free (h : Lns T E enc s w b g cap L) (i : Nat) : w.frozen? ⟨g, i, none⟩ = false := h.row.free i
theorem Lns.ltb (h : Lns T E enc s w b g cap L) : b < w.heap.size := lt_of_heap h.blk
theorem Lns.ltg (h : Lns T E enc s w b g cap L) : g < w.heap.size := h.row.lt
theorem Lns.set (h : Lns T E enc s w b g cap L) {i j : Nat} {x y : Ln} {v : Value} (hx : L[i]? = some x) (hj : j < s) (hy : enc y = (enc x).set j v) :
    Lns T E enc s (w.setCell ⟨g, i * s + j, none⟩ v) b g cap (L.set i y) := by
  have hk : Kept (fun k => k = g) w (w.setCell ⟨g, i * s + j, none⟩ v) := (Kept.refl (fun k => k = g) w).setCell (.inr rfl) _
  refine ⟨h.len, ?_, ?_, h.ne, by simpa using h.le, by simpa using h.lec⟩
  · rw [List.length_set]; exact hk.heap h.blk h.ne
  · rw [← enc_set h.len hx hj hy]; exact h.row.set _ v
theorem lt_of_some {α : Type} {L : List α} {i : Nat} {x : α} (h : L[i]? = some x) : i < L.length := (List.getElem?_eq_some_iff.1 h).1
end

/-- A whole line, cell by cell. -/
theorem Lns.three {w : World} {b g cap : Nat} {L : List Ln} (h : LI w b g cap L) {i : Nat} {x y : Ln} (hx : L[i]? = some x) {u v z : Value} (hy : encI y = [u, v, z]) :
    LI (((w.setCell ⟨g, i * 3, none⟩ u).setCell ⟨g, i * 3 + 1, none⟩ v).setCell ⟨g, i * 3 + 2, none⟩ z) b g cap (L.set i y) := by
  have hk : Kept (fun k => k = g) w (((w.setCell ⟨g, i * 3, none⟩ u).setCell ⟨g, i * 3 + 1, none⟩ v).setCell ⟨g, i * 3 + 2, none⟩ z) :=
    (Kept.refl (fun k => k = g) w).setCell (.inr rfl) _ |>.setCell (.inr rfl) _ |>.setCell (.inr rfl) _
  refine ⟨h.len, ?_, ?_, h.ne, by simpa using h.le, by simpa using h.lec⟩
  · rw [List.length_set]; exact hk.heap h.blk h.ne
  · rw [← enc_put h.len hx]
    have := ((h.row.set (i * 3) u).set (i * 3 + 1) v).set (i * 3 + 2) z
    simpa [hy, List.set_set, putAll] using this

theorem info56 : (Try.prog.info? 56).map (fun i => (i.zero, i.size, i.bytes)) = some (some (.agg #[.int .i64 0, .int .i64 0, .int .u64 0]), 3, 24) := by kernel_rfl
theorem info58 : (Try.prog.info? 58).map (fun i => (i.zero, i.size, i.bytes)) = some (some (.agg #[.bool false, .int .i64 0, .int .u64 0, .bool false, .bool false]), 5, 32) := by kernel_rfl

theorem one_in (b g cap : Nat) (L : List Ln) (n : Nat) (w : World) (h : LI w b g cap L) (hn : n < L.length) :
    Calls Try.prog 23 #[.pointer (some ⟨b, 0, none⟩), .int .i64 n] w fun e w' => e = .returned (.pointer (some ⟨g, n * 3, none⟩)) ∧ w = w' := by
  have hc := h.cell0
  have hl := h.le
  have hlc := h.lec
  go_enter Try.func23, Try.ntmps23
  go_wp2
  go_ret
  exact ⟨rfl, rfl⟩

theorem one_out (b g cap : Nat) (L : List Ln) (n : Int) (w : World) (h : LI w b g cap L) (hn : n < 0 ∨ L.length ≤ n) (ha : n ≤ 9223372036854775807) :
    Calls Try.prog 23 #[.pointer (some ⟨b, 0, none⟩), .int .i64 n] w fun e w' => e = .returned (.pointer none) ∧ w = w' := by
  have hc := h.cell0
  have hl := h.le
  go_enter Try.func23, Try.ntmps23
  go_wp2
  all_goals go_ret
  all_goals first | exact ⟨rfl, rfl⟩ | omega

theorem bind_in (b g cap : Nat) (L : List Ln) (n : Nat) (x : Ln) (note badge : Int) (w : World) (h : LI w b g cap L) (hx : L[n]? = some x) (hst : x.st = .free) (hnote : 0 ≤ note) :
    Calls Try.prog 11 #[.pointer (some ⟨b, 0, none⟩), .int .i64 n, .int .i64 note, .int .u64 badge] w fun e w' => e = .returned (.int .i64 0) ∧ LI w' b g cap (L.set n ⟨.opn, note, badge⟩) ∧ Kept (fun k => k = g) w w' := by
  have hlt := lt_of_some hx
  have h0 := h.cell (j := 0) hx (by decide)
  have h1 := h.cell (j := 1) hx (by decide)
  have h2 := h.cell (j := 2) hx (by decide)
  have f0 := h.free (n * 3 + 0)
  have f1 := h.free (n * 3 + 1)
  have f2 := h.free (n * 3 + 2)
  simp [encI, hst, St.code] at h0 h1 h2 f0
  go_enter Try.func11, Try.ntmps11
  go_wp2_with (go_at_call 23; refine (one_in _ _ _ _ _ _ h hlt).mono ?_; rintro e w' ⟨rfl, rfl⟩)
  go_ret
  exact ⟨rfl, h.three hx (y := ⟨.opn, note, badge⟩) rfl, ((Kept.refl (fun k => k = g) w).setCell (.inr rfl) _ |>.setCell (.inr rfl) _ |>.setCell (.inr rfl) _)⟩

theorem bind_busy (b g cap : Nat) (L : List Ln) (n : Nat) (x : Ln) (note badge : Int) (w : World) (h : LI w b g cap L) (hx : L[n]? = some x) (hst : x.st ≠ .free) (hnote : 0 ≤ note) :
    Calls Try.prog 11 #[.pointer (some ⟨b, 0, none⟩), .int .i64 n, .int .i64 note, .int .u64 badge] w fun e w' => e = .returned (.int .i64 131) ∧ w = w' := by
  have hlt := lt_of_some hx
  have h0 := h.cell (j := 0) hx (by decide)
  have hne : x.st.code ≠ 0 := by cases hs : x.st <;> simp_all [St.code]
  simp [encI] at h0
  generalize x.st.code = c at *
  go_enter Try.func11, Try.ntmps11
  go_wp2_with (go_at_call 23; refine (one_in _ _ _ _ _ _ h hlt).mono ?_; rintro e w' ⟨rfl, rfl⟩)
  go_ret
  exact ⟨rfl, rfl⟩

theorem bind_neg (b g cap : Nat) (L : List Ln) (n : Nat) (note badge : Int) (w : World) (h : LI w b g cap L) (hn : n < L.length) (hnote : note < 0) :
    Calls Try.prog 11 #[.pointer (some ⟨b, 0, none⟩), .int .i64 n, .int .i64 note, .int .u64 badge] w fun e w' => e = .returned (.int .i64 1) ∧ w = w' := by
  go_enter Try.func11, Try.ntmps11
  go_wp2_with (go_at_call 23; refine (one_in _ _ _ _ _ _ h hn).mono ?_; rintro e w' ⟨rfl, rfl⟩)
  go_ret
  exact ⟨rfl, rfl⟩

theorem bind_out (b g cap : Nat) (L : List Ln) (n note badge : Int) (w : World) (h : LI w b g cap L) (hn : n < 0 ∨ L.length ≤ n) (ha : n ≤ 9223372036854775807) :
    Calls Try.prog 11 #[.pointer (some ⟨b, 0, none⟩), .int .i64 n, .int .i64 note, .int .u64 badge] w fun e w' => e = .returned (.int .i64 130) ∧ w = w' := by
  go_enter Try.func11, Try.ntmps11
  go_wp2_with (go_at_call 23; refine (one_out _ _ _ _ _ _ h hn ha).mono ?_; rintro e w' ⟨rfl, rfl⟩)
  go_ret
  exact ⟨rfl, rfl⟩

theorem free_in (b g cap : Nat) (L : List Ln) (n : Nat) (x : Ln) (w : World) (h : LI w b g cap L) (hx : L[n]? = some x) (hst : x.st ≠ .free) :
    Calls Try.prog 15 #[.pointer (some ⟨b, 0, none⟩), .int .i64 n] w fun e w' => e = .returned (.int .i64 0) ∧ LI w' b g cap (L.set n .no) ∧ Kept (fun k => k = g) w w' := by
  have hlt := lt_of_some hx
  have h0 := h.cell (j := 0) hx (by decide)
  have h1 := h.cell (j := 1) hx (by decide)
  have h2 := h.cell (j := 2) hx (by decide)
  have f0 := h.free (n * 3 + 0)
  have f1 := h.free (n * 3 + 1)
  have f2 := h.free (n * 3 + 2)
  have hne : x.st.code ≠ 0 := by cases hs : x.st <;> simp_all [St.code]
  simp [encI] at h0 h1 h2 f0
  generalize x.st.code = c at *
  go_enter Try.func15, Try.ntmps15
  go_wp2_with (go_at_call 23; refine (one_in _ _ _ _ _ _ h hlt).mono ?_; rintro e w' ⟨rfl, rfl⟩)
  go_ret
  exact ⟨rfl, h.three hx (y := .no) rfl, ((Kept.refl (fun k => k = g) w).setCell (.inr rfl) _ |>.setCell (.inr rfl) _ |>.setCell (.inr rfl) _)⟩

theorem free_busy (b g cap : Nat) (L : List Ln) (n : Nat) (x : Ln) (w : World) (h : LI w b g cap L) (hx : L[n]? = some x) (hst : x.st = .free) :
    Calls Try.prog 15 #[.pointer (some ⟨b, 0, none⟩), .int .i64 n] w fun e w' => e = .returned (.int .i64 131) ∧ w = w' := by
  have hlt := lt_of_some hx
  have h0 := h.cell (j := 0) hx (by decide)
  simp [encI, hst, St.code] at h0
  go_enter Try.func15, Try.ntmps15
  go_wp2_with (go_at_call 23; refine (one_in _ _ _ _ _ _ h hlt).mono ?_; rintro e w' ⟨rfl, rfl⟩)
  go_ret
  exact ⟨rfl, rfl⟩

theorem free_out (b g cap : Nat) (L : List Ln) (n : Int) (w : World) (h : LI w b g cap L) (hn : n < 0 ∨ L.length ≤ n) (ha : n ≤ 9223372036854775807) :
    Calls Try.prog 15 #[.pointer (some ⟨b, 0, none⟩), .int .i64 n] w fun e w' => e = .returned (.int .i64 130) ∧ w = w' := by
  go_enter Try.func15, Try.ntmps15
  go_wp2_with (go_at_call 23; refine (one_out _ _ _ _ _ _ h hn ha).mono ?_; rintro e w' ⟨rfl, rfl⟩)
  go_ret
  exact ⟨rfl, rfl⟩

theorem open_out (b g cap : Nat) (L : List Ln) (n : Int) (w : World) (h : LI w b g cap L) (hn : n < 0 ∨ L.length ≤ n) (ha : n ≤ 9223372036854775807) :
    Calls Try.prog 14 #[.pointer (some ⟨b, 0, none⟩), .int .i64 n] w fun e w' => e = .returned (.tuple #[.bool false, .bool false]) ∧ New w w' := by
  go_enter Try.func14, Try.ntmps14
  go_wp2_with (go_at_call 23; refine (one_out _ _ _ _ _ _ h hn ha).mono ?_; rintro e w' ⟨rfl, rfl⟩)
  go_ret2
  exact ⟨rfl, Kept.refl _ _⟩

set_option maxRecDepth 100000 in
theorem open_in (b g cap : Nat) (L : List Ln) (n : Nat) (x : Ln) (w : World) (h : LI w b g cap L) (hx : L[n]? = some x) :
    Calls Try.prog 14 #[.pointer (some ⟨b, 0, none⟩), .int .i64 n] w fun e w' => e = .returned (.tuple #[.bool x.st.isOpen, .bool x.st.isAgain]) ∧ New w w' := by
  have hlt := lt_of_some hx
  have h0 := h.cell (j := 0) hx (by decide)
  simp [encI] at h0
  have e1 : x.st.isOpen = decide (x.st.code = 1) := by cases x.st <;> rfl
  have e2 : x.st.isAgain = decide (x.st.code = 3) := by cases x.st <;> rfl
  rw [e1, e2]
  generalize x.st.code = c at *
  go_enter Try.func14, Try.ntmps14
  go_wp2_with (first | (go_at_call 23; refine (one_in _ _ _ _ _ _ h hlt).mono ?_; rintro e w' ⟨rfl, rfl⟩) | go_quiet (fail))
  go_ret2
  exact ⟨rfl, (Kept.refl _ _).drewN _⟩

theorem List.set_getElem?_self {α : Type} {L : List α} {i : Nat} {x : α} (h : L[i]? = some x) : L.set i x = L := by
  obtain ⟨h1, rfl⟩ := List.getElem?_eq_some_iff.1 h
  exact List.set_getElem_self h1

def ack1 : Ln → Int × Int × Bool × Ln
  | ⟨.free, a, v⟩ => (0, 0, false, ⟨.free, a, v⟩)
  | ⟨.opn, a, v⟩ => (0, 0, false, ⟨.opn, a, v⟩)
  | ⟨.shut, a, v⟩ => (0, 0, false, ⟨.opn, a, v⟩)
  | ⟨.again, a, v⟩ => (a, v, true, ⟨.shut, a, v⟩)

theorem ack_out (b g cap : Nat) (L : List Ln) (n : Int) (w : World) (h : LI w b g cap L) (hn : n < 0 ∨ L.length ≤ n) (ha : n ≤ 9223372036854775807) :
    Calls Try.prog 12 #[.pointer (some ⟨b, 0, none⟩), .int .i64 n] w fun e w' => e = .returned (.tuple #[.int .i64 0, .int .u64 0, .bool false, .int .i64 130]) ∧ w = w' := by
  go_enter Try.func12, Try.ntmps12
  go_wp2_with (go_at_call 23; refine (one_out _ _ _ _ _ _ h hn ha).mono ?_; rintro e w' ⟨rfl, rfl⟩)
  (try simp only [Exit.inBlock, Exit.then])
  refine bodyPost_ret (results_tmp4 rfl _ _ _) rfl ?_
  exact ⟨rfl, rfl⟩

set_option maxRecDepth 100000 in
set_option maxHeartbeats 1000000 in
theorem ack_in (b g cap : Nat) (L : List Ln) (n : Nat) (x y : Ln) (a v : Int) (t : Bool) (w : World) (h : LI w b g cap L) (hx : L[n]? = some x) (hr : ack1 x = (a, v, t, y)) :
    Calls Try.prog 12 #[.pointer (some ⟨b, 0, none⟩), .int .i64 n] w fun e w' => e = .returned (.tuple #[.int .i64 a, .int .u64 v, .bool t, .int .i64 0]) ∧ LI w' b g cap (L.set n y) ∧ Kept (fun k => k = g) w w' := by
  have hlt := lt_of_some hx
  have h0 := h.cell (j := 0) hx (by decide)
  have h1 := h.cell (j := 1) hx (by decide)
  have h2 := h.cell (j := 2) hx (by decide)
  have f0 := h.free (n * 3 + 0)
  obtain ⟨st, note, badge⟩ := x
  cases st
  case free =>
    simp only [ack1, Prod.mk.injEq] at hr
    obtain ⟨rfl, rfl, rfl, rfl⟩ := hr
    simp [encI, St.code] at h0 h1 h2 f0
    have hset := fun v => h.set (j := 0) (y := ⟨.free, note, badge⟩) (v := v) hx (by decide)
    simp only [Nat.add_zero] at hset
    have hno : LI w b g cap (L.set n ⟨.free, note, badge⟩) := by rw [List.set_getElem?_self hx]; exact h
    go_enter Try.func12, Try.ntmps12
    go_wp2_with (first | (go_at_call 23; refine (one_in _ _ _ _ _ _ h hlt).mono ?_; rintro e w' ⟨rfl, rfl⟩) | go_quiet (fail))
    (try simp only [Exit.inBlock, Exit.then])
    refine bodyPost_ret (results_tmp4 rfl _ _ _) rfl ?_
    exact ⟨rfl, hno, Kept.refl _ _⟩
  case opn =>
    simp only [ack1, Prod.mk.injEq] at hr
    obtain ⟨rfl, rfl, rfl, rfl⟩ := hr
    simp [encI, St.code] at h0 h1 h2 f0
    have hset := fun v => h.set (j := 0) (y := ⟨.opn, note, badge⟩) (v := v) hx (by decide)
    simp only [Nat.add_zero] at hset
    have hno : LI w b g cap (L.set n ⟨.opn, note, badge⟩) := by rw [List.set_getElem?_self hx]; exact h
    go_enter Try.func12, Try.ntmps12
    go_wp2_with (first | (go_at_call 23; refine (one_in _ _ _ _ _ _ h hlt).mono ?_; rintro e w' ⟨rfl, rfl⟩) | go_quiet (fail))
    (try simp only [Exit.inBlock, Exit.then])
    refine bodyPost_ret (results_tmp4 rfl _ _ _) rfl ?_
    exact ⟨rfl, hno, Kept.refl _ _⟩
  case shut =>
    simp only [ack1, Prod.mk.injEq] at hr
    obtain ⟨rfl, rfl, rfl, rfl⟩ := hr
    simp [encI, St.code] at h0 h1 h2 f0
    have hset := fun v => h.set (j := 0) (y := ⟨.opn, note, badge⟩) (v := v) hx (by decide)
    simp only [Nat.add_zero] at hset
    go_enter Try.func12, Try.ntmps12
    go_wp2_with (first | (go_at_call 23; refine (one_in _ _ _ _ _ _ h hlt).mono ?_; rintro e w' ⟨rfl, rfl⟩) | go_quiet (fail))
    (try simp only [Exit.inBlock, Exit.then])
    refine bodyPost_ret (results_tmp4 rfl _ _ _) rfl ?_
    exact ⟨rfl, hset _ rfl, (Kept.refl (fun k => k = g) w).setCell (.inr rfl) _⟩
  case again =>
    simp only [ack1, Prod.mk.injEq] at hr
    obtain ⟨rfl, rfl, rfl, rfl⟩ := hr
    simp [encI, St.code] at h0 h1 h2 f0
    have hset := fun v => h.set (j := 0) (y := ⟨.shut, note, badge⟩) (v := v) hx (by decide)
    simp only [Nat.add_zero] at hset
    go_enter Try.func12, Try.ntmps12
    go_wp2_with (first | (go_at_call 23; refine (one_in _ _ _ _ _ _ h hlt).mono ?_; rintro e w' ⟨rfl, rfl⟩) | go_quiet (fail))
    (try simp only [Exit.inBlock, Exit.then])
    refine bodyPost_ret (results_tmp4 rfl _ _ _) rfl ?_
    exact ⟨rfl, (hset _ rfl).drewN _, ((Kept.refl (fun k => k = g) w).setCell (.inr rfl) _).drewN _⟩

def raise1 : Ln → Int × Int × Bool × Ln
  | ⟨.free, a, v⟩ => (0, 0, false, ⟨.free, a, v⟩)
  | ⟨.opn, a, v⟩ => (a, v, true, ⟨.shut, a, v⟩)
  | ⟨.shut, a, v⟩ => (0, 0, false, ⟨.again, a, v⟩)
  | ⟨.again, a, v⟩ => (0, 0, false, ⟨.again, a, v⟩)

theorem raise_out (b g cap : Nat) (L : List Ln) (n : Int) (w : World) (h : LI w b g cap L) (hn : n < 0 ∨ L.length ≤ n) (ha : n ≤ 9223372036854775807) :
    Calls Try.prog 13 #[.pointer (some ⟨b, 0, none⟩), .int .i64 n] w fun e w' => e = .returned (.tuple #[.int .i64 0, .int .u64 0, .bool false, .int .i64 130]) ∧ w = w' := by
  go_enter Try.func13, Try.ntmps13
  go_wp2_with (go_at_call 23; refine (one_out _ _ _ _ _ _ h hn ha).mono ?_; rintro e w' ⟨rfl, rfl⟩)
  (try simp only [Exit.inBlock, Exit.then])
  refine bodyPost_ret (results_tmp4 rfl _ _ _) rfl ?_
  exact ⟨rfl, rfl⟩

set_option maxRecDepth 100000 in
set_option maxHeartbeats 1000000 in
theorem raise_in (b g cap : Nat) (L : List Ln) (n : Nat) (x y : Ln) (a v : Int) (t : Bool) (w : World) (h : LI w b g cap L) (hx : L[n]? = some x) (hr : raise1 x = (a, v, t, y)) :
    Calls Try.prog 13 #[.pointer (some ⟨b, 0, none⟩), .int .i64 n] w fun e w' => e = .returned (.tuple #[.int .i64 a, .int .u64 v, .bool t, .int .i64 0]) ∧ LI w' b g cap (L.set n y) ∧ Kept (fun k => k = g) w w' := by
  have hlt := lt_of_some hx
  have h0 := h.cell (j := 0) hx (by decide)
  have h1 := h.cell (j := 1) hx (by decide)
  have h2 := h.cell (j := 2) hx (by decide)
  have f0 := h.free (n * 3 + 0)
  obtain ⟨st, note, badge⟩ := x
  cases st
  case free =>
    simp only [raise1, Prod.mk.injEq] at hr
    obtain ⟨rfl, rfl, rfl, rfl⟩ := hr
    simp [encI, St.code] at h0 h1 h2 f0
    have hset := fun v => h.set (j := 0) (y := ⟨.free, note, badge⟩) (v := v) hx (by decide)
    simp only [Nat.add_zero] at hset
    have hno : LI w b g cap (L.set n ⟨.free, note, badge⟩) := by rw [List.set_getElem?_self hx]; exact h
    go_enter Try.func13, Try.ntmps13
    go_wp2_with (first | (go_at_call 23; refine (one_in _ _ _ _ _ _ h hlt).mono ?_; rintro e w' ⟨rfl, rfl⟩) | go_quiet (fail))
    (try simp only [Exit.inBlock, Exit.then])
    refine bodyPost_ret (results_tmp4 rfl _ _ _) rfl ?_
    exact ⟨rfl, hno, Kept.refl _ _⟩
  case opn =>
    simp only [raise1, Prod.mk.injEq] at hr
    obtain ⟨rfl, rfl, rfl, rfl⟩ := hr
    simp [encI, St.code] at h0 h1 h2 f0
    have hset := fun v => h.set (j := 0) (y := ⟨.shut, note, badge⟩) (v := v) hx (by decide)
    simp only [Nat.add_zero] at hset
    go_enter Try.func13, Try.ntmps13
    go_wp2_with (first | (go_at_call 23; refine (one_in _ _ _ _ _ _ h hlt).mono ?_; rintro e w' ⟨rfl, rfl⟩) | go_quiet (fail))
    (try simp only [Exit.inBlock, Exit.then])
    refine bodyPost_ret (results_tmp4 rfl _ _ _) rfl ?_
    exact ⟨rfl, (hset _ rfl).drewN _, ((Kept.refl (fun k => k = g) w).setCell (.inr rfl) _).drewN _⟩
  case shut =>
    simp only [raise1, Prod.mk.injEq] at hr
    obtain ⟨rfl, rfl, rfl, rfl⟩ := hr
    simp [encI, St.code] at h0 h1 h2 f0
    have hset := fun v => h.set (j := 0) (y := ⟨.again, note, badge⟩) (v := v) hx (by decide)
    simp only [Nat.add_zero] at hset
    go_enter Try.func13, Try.ntmps13
    go_wp2_with (first | (go_at_call 23; refine (one_in _ _ _ _ _ _ h hlt).mono ?_; rintro e w' ⟨rfl, rfl⟩) | go_quiet (fail))
    (try simp only [Exit.inBlock, Exit.then])
    refine bodyPost_ret (results_tmp4 rfl _ _ _) rfl ?_
    exact ⟨rfl, hset _ rfl, (Kept.refl (fun k => k = g) w).setCell (.inr rfl) _⟩
  case again =>
    simp only [raise1, Prod.mk.injEq] at hr
    obtain ⟨rfl, rfl, rfl, rfl⟩ := hr
    simp [encI, St.code] at h0 h1 h2 f0
    have hset := fun v => h.set (j := 0) (y := ⟨.again, note, badge⟩) (v := v) hx (by decide)
    simp only [Nat.add_zero] at hset
    go_enter Try.func13, Try.ntmps13
    go_wp2_with (first | (go_at_call 23; refine (one_in _ _ _ _ _ _ h hlt).mono ?_; rintro e w' ⟨rfl, rfl⟩) | go_quiet (fail))
    (try simp only [Exit.inBlock, Exit.then])
    refine bodyPost_ret (results_tmp4 rfl _ _ _) rfl ?_
    exact ⟨rfl, hset _ rfl, (Kept.refl (fun k => k = g) w).setCell (.inr rfl) _⟩
end Go.Proofs.Ytcblncdfppkhcaa

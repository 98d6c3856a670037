/- Package tlb: what its closures ask of a line. -/
import Derived.Test.YtgjlghjigfclpaaRows
import Derived.Test.YtgjlghjigfclpaaBase
import Derived.Test.YtgjlghjigfclpaaArgs
import Derived.WalkKit
import Derived.Outline
import Derived.WalkSpells
import Derived.WalkLawsBesides
import Derived.Deep.QuietTactic
import Derived.BigQuiet
import Derived.StillTailTactics
set_option linter.all false
namespace Go.Proofs.Ytgjlghjigfclpaa
open Go.RowKit

/-- A line: space, page, frame, rights. -/
structure Ln where
  sp : Int
  pg : Int
  fr : Int
  ri : Int
deriving DecidableEq
def encL (x : Ln) : List Value := [.int .i64 x.sp, .int .i64 x.pg, .int .i64 x.fr, .int .i64 x.ri]
abbrev aggL (x : Ln) : Value := .agg #[.int .i64 x.sp, .int .i64 x.pg, .int .i64 x.fr, .int .i64 x.ri]
abbrev blkL (x : Ln) : Obj := .cells #[.int .i64 x.sp, .int .i64 x.pg, .int .i64 x.fr, .int .i64 x.ri] 34

/-- A closure that asks of a line: the function k, its number s in block q. -/
inductive Ask where
  | sp (s : Int)
  | pg (s : Int)
  | fr (s : Int)
def Ask.fn : Ask → Nat | .sp _ => 34 | .pg _ => 35 | .fr _ => 38
def Ask.num : Ask → Int | .sp s => s | .pg s => s | .fr s => s
def Ask.ok : Ask → Ln → Bool | .sp s, x => decide (x.sp = s) | .pg s, x => decide (x.pg = s) | .fr s, x => decide (x.fr = s)
def Is (w : World) (f : Value) (p : Ask) : Prop := ∃ q, f = .func (.func p.fn) #[] #[.pointer (some ⟨q, 0, none⟩)] ∧ w.heap[q]? = some (.cells #[.int .i64 p.num] 3 (0, 0))
theorem Is.kept {F : Nat → Prop} {w w' : World} {f : Value} {p : Ask} (h : Is w f p) (k : New w w') : Is w' f p := let ⟨q, h1, h2⟩ := h; ⟨q, h1, k.heap h2 (fun h => h)⟩

theorem of_any (s : Int) (w : World) : Calls Try.prog 27 #[.int .i64 s] w fun e w' => ∃ f, e = .returned f ∧ Is w' f (.sp s) ∧ New w w' := by
  go_enter Try.func27, Try.ntmps27
  go_wp2
  go_ret
  exact ⟨_, rfl, ⟨_, rfl, heap_alloc_new _ _⟩, (Kept.refl _ _).alloc _⟩
theorem at_any (s : Int) (w : World) : Calls Try.prog 28 #[.int .i64 s] w fun e w' => ∃ f, e = .returned f ∧ Is w' f (.pg s) ∧ New w w' := by
  go_enter Try.func28, Try.ntmps28
  go_wp2
  go_ret
  exact ⟨_, rfl, ⟨_, rfl, heap_alloc_new _ _⟩, (Kept.refl _ _).alloc _⟩
theorem on_any (s : Int) (w : World) : Calls Try.prog 31 #[.int .i64 s] w fun e w' => ∃ f, e = .returned f ∧ Is w' f (.fr s) ∧ New w w' := by
  go_enter Try.func31, Try.ntmps31
  go_wp2
  go_ret
  exact ⟨_, rfl, ⟨_, rfl, heap_alloc_new _ _⟩, (Kept.refl _ _).alloc _⟩

/-- What the closure's own function answers. -/
theorem ask_any (p : Ask) (q : Nat) (x : Ln) (w : World) (h : w.heap[q]? = some (.cells #[.int .i64 p.num] 3 (0, 0))) :
    Calls Try.prog p.fn #[aggL x, .pointer (some ⟨q, 0, none⟩)] w fun e w' => e = .returned (.bool (p.ok x)) ∧ New w w' := by
  have hq : w.cell? ⟨q, 0, none⟩ = some (.int .i64 p.num) := cell_blk h 0
  have hlt := lt_of_heap h
  cases p with
  | sp s =>
    simp only [Ask.num, Ask.fn, Ask.ok] at hq ⊢
    go_enter Try.func34, Try.ntmps34
    go_wp2
    go_ret
    exact ⟨rfl, (Kept.refl _ _).alloc _⟩
  | pg s =>
    simp only [Ask.num, Ask.fn, Ask.ok] at hq ⊢
    go_enter Try.func35, Try.ntmps35
    go_wp2
    go_ret
    exact ⟨rfl, (Kept.refl _ _).alloc _⟩
  | fr s =>
    simp only [Ask.num, Ask.fn, Ask.ok] at hq ⊢
    go_enter Try.func38, Try.ntmps38
    go_wp2
    go_ret
    exact ⟨rfl, (Kept.refl _ _).alloc _⟩

/-- all$1: is what the function asks of the line in the box not so? -/
theorem no_any (p : Ask) (f : Value) (lb : Nat) (x : Ln) (w : World) (hf : Is w f p) (hb : w.heap[lb]? = some (.cells #[.int .i64 x.sp, .int .i64 x.pg, .int .i64 x.fr, .int .i64 x.ri] 34 (0, 0))) :
    Calls Try.prog 37 #[f, .pointer (some ⟨lb, 0, none⟩)] w fun e w' => e = .returned (.bool (!p.ok x)) ∧ New w w' := by
  obtain ⟨q, rfl, hq⟩ := hf
  have h0 : w.cell? ⟨lb, 0, none⟩ = some (.int .i64 x.sp) := cell_blk hb 0
  have h1 : w.cell? ⟨lb, 1, none⟩ = some (.int .i64 x.pg) := cell_blk hb 1
  have h2 : w.cell? ⟨lb, 2, none⟩ = some (.int .i64 x.fr) := cell_blk hb 2
  have h3 : w.cell? ⟨lb, 3, none⟩ = some (.int .i64 x.ri) := cell_blk hb 3
  have hask := ask_any p q x w hq
  cases p
  all_goals
    simp only [Ask.fn] at hask ⊢
    go_enter Try.func37, Try.ntmps37
    go_wp2_with fail
    refine hask.mono ?_
    rintro e w1 ⟨rfl, hk⟩
    go_wp2
    go_ret
    exact ⟨rfl, hk⟩

/-- A slice of such functions. -/
def Asks (w : World) (so : Value) (ps : List Ask) : Prop := ∃ g c, so = .slice (some ⟨g, 0, none⟩) ps.length c ∧ ps.length ≤ 2 ∧ (∃ fs, w.heap[g]? = some (.cells fs 58 (0, 0))) ∧ ∀ i p, ps[i]? = some p → ∃ f, w.cell? ⟨g, i, none⟩ = some f ∧ Is w f p
theorem Asks.kept {F : Nat → Prop} {w w' : World} {so : Value} {ps : List Ask} (h : Asks w so ps) (k : Kept F w w') (hF : ∀ i, F i → ∃ c, w.heap[i]? = some (.cells c 34 (0, 0))) : Asks w' so ps := by
  obtain ⟨g, c, rfl, h2, ⟨fs, hg⟩, h3⟩ := h
  have hn : ¬ F g := fun hf => let ⟨c', h'⟩ := hF g hf; heap_ne hg h' (by decide) rfl
  refine ⟨g, c, rfl, h2, ⟨fs, k.heap hg hn⟩, fun i p hp => ?_⟩
  obtain ⟨f, h4, q, h5, h6⟩ := h3 i p hp
  exact ⟨f, cell_kept k h4 hn, q, h5, k.heap h6 (fun hf => let ⟨c', h'⟩ := hF q hf; heap_ne h6 h' (by decide) rfl)⟩
theorem Asks.same {w w' : World} {so : Value} {ps : List Ask} (h : Asks w so ps) (k : New w w') : Asks w' so ps := h.kept k (fun _ h => h.elim)

set_option maxRecDepth 100000 in
/-- The first one of which the line's answer is no. -/
theorem index40_any (so : Value) (ps : List Ask) (lb : Nat) (x : Ln) (w : World) (hs : Asks w so ps) (hb : w.heap[lb]? = some (.cells #[.int .i64 x.sp, .int .i64 x.pg, .int .i64 x.fr, .int .i64 x.ri] 34 (0, 0))) :
    Calls Try.prog 40 #[so, .func (.func 37) #[] #[.pointer (some ⟨lb, 0, none⟩)]] w fun e w' => ∃ r : Int, e = .returned (.int .i64 r) ∧ decide (0 ≤ r) = (!ps.all (fun p => p.ok x)) ∧ New w w' := by
  have hs' := hs
  obtain ⟨g, c, rfl, hl2, -⟩ := hs'
  go_enter Try.func40, Try.ntmps40
  go_wp2_with fail
  go_loopw [8] (fun i wr => ∃ k : Nat, k ≤ ps.length ∧ i = .int .i64 k ∧ Hid ((ps.take k).all (fun p => p.ok x) = true) ∧ New w wr) (fun i _ => ps.length - (intOf i).toNat)
  case atStart => exact ⟨0, by omega, rfl, by simp [Hid], Kept.refl _ _⟩
  case round =>
    obtain ⟨k, hk, rfl, Hk, hkp⟩ := hrel
    by_cases h1 : k < ps.length
    · obtain ⟨p, hp⟩ : ∃ p, ps[k]? = some p := ⟨_, List.getElem?_eq_getElem (by omega)⟩
      obtain ⟨g', c', he, _, _, h3⟩ := hs.same hkp
      simp only [Value.slice.injEq, Option.some.injEq, Addr.mk.injEq, and_true, true_and] at he
      obtain ⟨rfl, rfl⟩ := he
      obtain ⟨f, hf, hIs⟩ := h3 k p hp
      have hb' := hkp.heap hb (fun h => h)
      have hno := no_any p f lb x _ hIs hb'
      cases hr : p.ok x with
      | true =>
        rw [hr] at hno
        have Hp := Lib.hid hp
        have Hr := Lib.hid hr
        clear h3 hs hp hr hIs hb hb'
        go_wp2_with fail
        refine hno.mono ?_
        rintro e w1 ⟨rfl, hk1⟩
        go_wp2_with fail
        go_roundw
        case rel => exact ⟨k + 1, by omega, by go_num, by
          show (ps.take (k + 1)).all (fun p => p.ok x) = true
          rw [List.take_add_one, Hp.out]
          have := Hk.out
          simp [List.all_append, this, Hr.out], hkp.trans hk1⟩
        case measure => simp [intOf]; omega
      | false =>
        rw [hr] at hno
        have Hp := Lib.hid hp
        have Hr := Lib.hid hr
        clear h3 hs hp hr hIs hb hb'
        go_wp2_with fail
        refine hno.mono ?_
        rintro e w1 ⟨rfl, hk1⟩
        go_wp2
        go_ret
        refine ⟨k, rfl, ?_, hkp.trans hk1⟩
        have : ps.all (fun p => p.ok x) = false := by
          rw [List.all_eq_false]
          exact ⟨p, List.mem_of_getElem? Hp.out, by simp [Hr.out]⟩
        rw [this]; simp
    · go_wp2
      go_ret
      refine ⟨-1, rfl, ?_, hkp⟩
      have := Hk.out
      rw [List.take_of_length_le (by omega)] at this
      rw [this]; rfl

theorem contains36_any (so : Value) (ps : List Ask) (lb : Nat) (x : Ln) (w : World) (hs : Asks w so ps) (hb : w.heap[lb]? = some (.cells #[.int .i64 x.sp, .int .i64 x.pg, .int .i64 x.fr, .int .i64 x.ri] 34 (0, 0))) :
    Calls Try.prog 36 #[so, .func (.func 37) #[] #[.pointer (some ⟨lb, 0, none⟩)]] w fun e w' => e = .returned (.bool (!ps.all (fun p => p.ok x))) ∧ New w w' := by
  go_enter Try.func36, Try.ntmps36
  go_wp2_with fail
  refine (index40_any so ps lb x w hs hb).mono ?_
  rintro e w1 ⟨r, rfl, hr, hk⟩
  go_wp2
  go_ret
  exact ⟨rfl, hk⟩

theorem all_any (so : Value) (ps : List Ask) (x : Ln) (w : World) (hs : Asks w so ps) :
    Calls Try.prog 30 #[aggL x, so] w fun e w' => e = .returned (.bool (ps.all (fun p => p.ok x))) ∧ New w w' := by
  have hs' := hs.same ((Kept.refl (fun _ => False) w).alloc (blkL x))
  have hb := heap_alloc_new w (blkL x)
  go_enter Try.func30, Try.ntmps30
  go_wp2_with fail
  refine (contains36_any so ps w.heap.size x _ hs' hb).mono ?_
  rintro e w1 ⟨rfl, hk⟩
  go_wp2
  go_ret
  exact ⟨ret_bool (by simp), ((Kept.refl _ _).alloc _).trans hk⟩

theorem want_any (so : Value) (ps : List Ask) (bb : Nat) (x : Ln) (w : World) (hs : Asks w so ps) (hb : w.heap[bb]? = some (.cells #[so] 62 (0, 0))) :
    Calls Try.prog 33 #[aggL x, .pointer (some ⟨bb, 0, none⟩)] w fun e w' => e = .returned (.bool (ps.all (fun p => p.ok x))) ∧ New w w' := by
  have hs' := hs.same ((Kept.refl (fun _ => False) w).alloc (blkL x))
  have hbc : w.cell? ⟨bb, 0, none⟩ = some so := cell_blk hb 0
  have hlt := lt_of_heap hb
  go_enter Try.func33, Try.ntmps33
  go_wp2_with fail
  refine (all_any so ps x _ hs').mono ?_
  rintro e w1 ⟨rfl, hk⟩
  go_wp2
  go_ret
  exact ⟨rfl, ((Kept.refl _ _).alloc _).trans hk⟩
end Go.Proofs.Ytgjlghjigfclpaa

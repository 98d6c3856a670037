/- Package memory: what each of its functions does, told of a memory as a list of words. -/
import Derived.Test.YtnfomlgjnckphaaRows
import Derived.Test.YtnfomlgjnckphaaBase
import Derived.WalkKit
import Derived.Outline
import Derived.WalkSpells
import Derived.WalkLawsBesides
import Derived.Deep.QuietTactic
import Derived.BigQuiet
import Derived.StillTailTactics
set_option linter.all false
namespace Go.Proofs.Ytnfomlgjnckphaa
open Go.RowKit

theorem ret_bool {a b : Bool} (h : a = b) : Ending.returned (.bool a) = .returned (.bool b) := by rw [h]
theorem ret_int {k : IntKind} {a b : Int} (h : a = b) : Ending.returned (.int k a) = .returned (.int k b) := by rw [h]

theorem info30 : (Try.prog.info? 30).map (fun i => (i.zero, i.size, i.bytes)) = some (some (.int .u64 0), 1, 8) := by kernel_rfl

/-- A memory (T: its struct's type): its struct in block b, its words in block g. -/
structure Mem (T : TypeId) (w : World) (b g cap : Nat) (ws : List Int) : Prop where
  blk : w.heap[b]? = some (.cells #[.slice (some ⟨g, 0, none⟩) ws.length cap] T (0, 0))
  row : Row w g cap 30 (ws.map (Value.int .u64))
  ne : b ≠ g
  le : ws.length ≤ 65536

section
variable {T : TypeId} {w w' : World} {b g cap : Nat} {ws : List Int}
theorem Mem.kept {F : Nat → Prop} (h : Mem T w b g cap ws) (k : Kept F w w') (hb : ¬ F b) (hg : ¬ F g) : Mem T w' b g cap ws :=
  ⟨k.heap h.blk hb, h.row.kept k hg, h.ne, h.le⟩
theorem Mem.alloc (h : Mem T w b g cap ws) (o : Obj) : Mem T (w.alloc o) b g cap ws :=
  h.kept (F := fun _ => False) ((Kept.refl _ w).alloc o) (fun h => h) (fun h => h)
theorem Mem.same (h : Mem T w b g cap ws) (k : Kept (fun _ => False) w w') : Mem T w' b g cap ws := h.kept k (fun h => h) (fun h => h)
theorem Mem.cell0 (h : Mem T w b g cap ws) : w.cell? ⟨b, 0, none⟩ = some (.slice (some ⟨g, 0, none⟩) ws.length cap) := cell_blk h.blk 0
theorem Mem.cellAt (h : Mem T w b g cap ws) {i : Nat} (hi : i < ws.length) : w.cell? ⟨g, i, none⟩ = some (.int .u64 (ws.getD i 0)) := by
  rw [h.row.cell (by simpa using hi)]; simp [List.getD, hi]
theorem Mem.free (h : Mem T w b g cap ws) (i : Nat) : w.frozen? ⟨g, i, none⟩ = false := h.row.free i
theorem Mem.cap_le (h : Mem T w b g cap ws) : ws.length ≤ cap := by simpa using h.row.le
theorem Mem.ltb (h : Mem T w b g cap ws) : b < w.heap.size := lt_of_heap h.blk
theorem Mem.ltg (h : Mem T w b g cap ws) : g < w.heap.size := h.row.lt

theorem Mem.set (h : Mem T w b g cap ws) (i : Nat) (v : Int) : Mem T (w.setCell ⟨g, i, none⟩ (.int .u64 v)) b g cap (ws.set i v) ∧ Kept (fun k => k = g) w (w.setCell ⟨g, i, none⟩ (.int .u64 v)) := by
  have hk : Kept (fun k => k = g) w (w.setCell ⟨g, i, none⟩ (.int .u64 v)) := (Kept.refl (fun k => k = g) w).setCell (.inr rfl) _
  refine ⟨⟨?_, ?_, h.ne, by simpa using h.le⟩, hk⟩
  · rw [List.length_set]; exact hk.heap h.blk h.ne
  · rw [List.map_set]; exact h.row.set i (.int .u64 v)

theorem Mem.of_splice {off : Nat} {cs : List Int} {cur : Array Value} (h : Mem T w b g cap ws) (hg : w.heap[g]? = some (.cells cur 30 (0, 0)))
    (hg' : w'.heap[g]? = some (.cells (splice cur.toList off (cs.map (Value.int .u64))).toArray 30 (0, 0))) (hk : Kept (fun k => k = g) w w') (hfit : off + cs.length ≤ ws.length) :
    Mem T w' b g cap (splice ws off cs) := by
  have hl : (splice ws off cs).length = ws.length := length_splice ws off cs hfit
  refine ⟨by rw [hl]; exact hk.heap h.blk h.ne, ?_, h.ne, by rw [hl]; exact h.le⟩
  have := h.row.splice (off := off) (cs := cs.map (Value.int .u64)) hg hg' (by simpa using hfit)
  simpa [splice] using this

theorem Mem.src (h : Mem T w b g cap ws) {at_ n : Int} (h0 : 0 ≤ at_) (h1 : 0 ≤ n) (h2 : at_ + n ≤ ws.length) {mx : Nat} (hmx : (at_ + n).toNat ≤ mx) :
    Src w (.slice (if mx = at_.toNat then some ⟨g, 0, none⟩ else some ⟨g, at_.toNat, none⟩) ((at_ + n).toNat - at_.toNat) (mx - at_.toNat)) n.toNat 1
      (((ws.drop at_.toNat).take n.toNat).map (Value.int .u64)) := by
  refine ⟨_, _, by rw [show (at_ + n).toNat - at_.toNat = n.toNat by omega], by split <;> simp, by simp; omega, ?_⟩
  intro j u hj
  have hjl : j < n.toNat := by have := (List.getElem?_eq_some_iff.1 hj).1; simp at this; omega
  refine ⟨⟨g, at_.toNat, none⟩, by rw [if_neg (by omega)], ?_⟩
  rw [addr_add, h.cellAt (by omega)]
  simpa [hjl, List.getD, show at_.toNat + j < ws.length by omega] using hj

theorem Mem.all (h : Mem T w b g cap ws) : Src w (.slice (some ⟨g, 0, none⟩) ws.length cap) ws.length 1 (ws.map (Value.int .u64)) := by
  refine ⟨_, _, rfl, by simp, by simp, ?_⟩
  intro j u hj
  have hjl : j < ws.length := by have := (List.getElem?_eq_some_iff.1 hj).1; simpa using this
  refine ⟨_, rfl, ?_⟩
  rw [addr_add, Nat.zero_add, h.cellAt hjl]
  simpa [hjl, List.getD] using hj
end

/-- Are there n words from at on? -/
def inB (at_ n : Int) (len : Nat) : Bool := decide (0 ≤ at_ ∧ 0 ≤ n ∧ at_ + n ≤ len)

theorem there_any (b g cap len : Nat) (at_ n : Int) (w : World)
    (hc : w.cell? ⟨b, 0, none⟩ = some (.slice (some ⟨g, 0, none⟩) len cap)) (hl : len ≤ 65536) (ha : at_ ≤ 9223372036854775807) (hn : n ≤ 9223372036854775807) :
    Calls Try.prog 24 #[.pointer (some ⟨b, 0, none⟩), .int .i64 at_, .int .i64 n] w fun e w' => e = .returned (.bool (inB at_ n len)) ∧ w = w' := by
  go_enter Try.func24, Try.ntmps24
  go_wp2
  all_goals go_ret
  all_goals refine ⟨ret_bool ?_, rfl⟩
  all_goals rw [Bool.eq_iff_iff]
  all_goals simp [inB]
  all_goals omega

theorem write_yes (b g cap : Nat) (ws : List Int) (at_ v : Int) (w : World) (h : Mem 55 w b g cap ws) (h0 : 0 ≤ at_) (h1 : at_ < ws.length) :
    Calls Try.prog 14 #[.pointer (some ⟨b, 0, none⟩), .int .i64 at_, .int .u64 v] w fun e w' => e = .returned (.int .i64 0) ∧ Mem 55 w' b g cap (ws.set at_.toNat v) ∧ Kept (fun k => k = g) w w' := by
  have hc := h.cell0
  have hl := h.le
  have hi : inB at_ 1 ws.length = true := by simp [inB]; omega
  have hd := h.cellAt (i := at_.toNat) (by omega)
  have hf := h.free at_.toNat
  have hcap := h.cap_le
  go_enter Try.func14, Try.ntmps14
  go_wp2_with (go_at_call 24; refine (there_any _ _ _ _ _ _ _ hc hl (by omega) (by omega)).mono ?_; rintro e w' ⟨rfl, rfl⟩)
  go_ret
  exact ⟨rfl, h.set _ _⟩

theorem write_no (b g cap : Nat) (ws : List Int) (at_ v : Int) (w : World) (h : Mem 55 w b g cap ws) (h0 : ¬ (0 ≤ at_ ∧ at_ < ws.length)) (ha : at_ ≤ 9223372036854775807) :
    Calls Try.prog 14 #[.pointer (some ⟨b, 0, none⟩), .int .i64 at_, .int .u64 v] w fun e w' => e = .returned (.int .i64 20) ∧ w = w' := by
  have hc := h.cell0
  have hl := h.le
  have hi : inB at_ 1 ws.length = false := by simp [inB]; omega
  go_enter Try.func14, Try.ntmps14
  go_wp2_with (go_at_call 24; refine (there_any _ _ _ _ _ _ _ hc hl (by omega) (by omega)).mono ?_; rintro e w' ⟨rfl, rfl⟩)
  go_ret
  exact ⟨rfl, rfl⟩

theorem read_yes (b g cap : Nat) (ws : List Int) (at_ : Int) (w : World) (h : Mem 55 w b g cap ws) (h0 : 0 ≤ at_) (h1 : at_ < ws.length) :
    Calls Try.prog 15 #[.pointer (some ⟨b, 0, none⟩), .int .i64 at_] w fun e w' => e = .returned (.tuple #[.int .u64 (ws.getD at_.toNat 0), .int .i64 0]) ∧ w = w' := by
  have hc := h.cell0
  have hl := h.le
  have hi : inB at_ 1 ws.length = true := by simp [inB]; omega
  have hd := h.cellAt (i := at_.toNat) (by omega)
  have hcap := h.cap_le
  generalize ws.getD at_.toNat 0 = u at *
  go_enter Try.func15, Try.ntmps15
  go_wp2_with (go_at_call 24; refine (there_any _ _ _ _ _ _ _ hc hl (by omega) (by omega)).mono ?_; rintro e w' ⟨rfl, rfl⟩)
  go_ret2
  exact ⟨rfl, rfl⟩

theorem read_no (b g cap : Nat) (ws : List Int) (at_ : Int) (w : World) (h : Mem 55 w b g cap ws) (h0 : ¬ (0 ≤ at_ ∧ at_ < ws.length)) (ha : at_ ≤ 9223372036854775807) :
    Calls Try.prog 15 #[.pointer (some ⟨b, 0, none⟩), .int .i64 at_] w fun e w' => e = .returned (.tuple #[.int .u64 0, .int .i64 20]) ∧ w = w' := by
  have hc := h.cell0
  have hl := h.le
  have hi : inB at_ 1 ws.length = false := by simp [inB]; omega
  go_enter Try.func15, Try.ntmps15
  go_wp2_with (go_at_call 24; refine (there_any _ _ _ _ _ _ _ hc hl (by omega) (by omega)).mono ?_; rintro e w' ⟨rfl, rfl⟩)
  go_ret2
  exact ⟨rfl, rfl⟩

theorem size_any (b g cap : Nat) (ws : List Int) (w : World) (h : Mem 55 w b g cap ws) :
    Calls Try.prog 13 #[.pointer (some ⟨b, 0, none⟩)] w fun e w' => e = .returned (.int .i64 ws.length) ∧ w = w' := by
  have hc := h.cell0
  go_enter Try.func13, Try.ntmps13
  go_wp2
  go_ret
  exact ⟨rfl, rfl⟩

theorem new_mem {T : TypeId} (n : Nat) (w : World) (h1 : n ≤ 65536) :
    Mem T ((w.alloc (.cells (madeCells #[.int .u64 0] n) 30)).alloc (.cells #[.slice (some ⟨w.heap.size, 0, none⟩) n n] T)) (w.heap.size + 1) w.heap.size n (List.replicate n 0) := by
  refine ⟨?_, ⟨⟨madeCells #[.int .u64 0] n, ?_, ?_, ?_⟩, ?_, ?_⟩, by omega, by simpa using h1⟩
  · have := heap_alloc_new (w.alloc (.cells (madeCells #[.int .u64 0] n) 30)) (.cells #[.slice (some ⟨w.heap.size, 0, none⟩) n n] T)
    simpa using this
  · rw [Below.heap_alloc _ _ _ (by simp)]; exact heap_alloc_new _ _
  · exact size_madeCells _ _
  · rw [toList_madeCells_one]; simp
  · simp
  · unfold maxLen; omega

theorem new_yes (n : Int) (w : World) (h0 : 1 ≤ n) (h1 : n ≤ 65536) :
    Calls Try.prog 11 #[.int .i64 n] w fun e w' => e = .returned (.tuple #[.pointer (some ⟨w.heap.size + 1, 0, none⟩), .int .i64 0]) ∧
      Mem 55 w' (w.heap.size + 1) w.heap.size n.toNat (List.replicate n.toNat 0) ∧ Kept (fun _ => False) w w' := by
  obtain ⟨n, rfl⟩ := Int.eq_ofNat_of_zero_le (show 0 ≤ n by omega)
  obtain ⟨i0, hi, hz0, hz1, hz2⟩ := info_parts info30
  have hmk := run_make (P := Try.prog) w 29 30 i0 (.int .u64 0) Try.underlying29 hi hz0 .i64 .i64 n n (by omega) (by omega) (by rw [hz2]; omega) (by omega)
  rw [hz1] at hmk
  go_enter Try.func11, Try.ntmps11
  go_wp2
  go_ret2
  exact ⟨rfl, by simpa using new_mem n w (by omega), ((Kept.refl _ _).alloc _).alloc _⟩

theorem new_no (n : Int) (w : World) (h : n < 1 ∨ 65536 < n) :
    Calls Try.prog 11 #[.int .i64 n] w fun e w' => e = .returned (.tuple #[.pointer none, .int .i64 1]) ∧ w = w' := by
  rcases h with h | h
  · go_enter Try.func11, Try.ntmps11
    go_wp2
    go_ret2
    exact ⟨rfl, rfl⟩
  · have h' : ¬ n < 1 := by omega
    go_enter Try.func11, Try.ntmps11
    go_wp2
    go_ret2
    exact ⟨rfl, rfl⟩

theorem words_yes (b g cap : Nat) (ws : List Int) (at_ n : Int) (w : World) (hM : Mem 55 w b g cap ws) (hi : inB at_ n ws.length = true) :
    Calls Try.prog 16 #[.pointer (some ⟨b, 0, none⟩), .int .i64 at_, .int .i64 n] w fun e w' => ∃ v, e = .returned (.tuple #[v, .int .i64 0]) ∧
      w'.ownsRow w.heap.size 30 1 v n.toNat (((ws.drop at_.toNat).take n.toNat).map (Value.int .u64)) ∧ Kept (fun _ => False) w w' := by
  have hc := hM.cell0
  have hl := hM.le
  have hcap := hM.cap_le
  obtain ⟨h0, h1, h2⟩ : 0 ≤ at_ ∧ 0 ≤ n ∧ at_ + n ≤ ws.length := by simpa [inB] using hi
  obtain ⟨i0, hi0, hz0, hz1, hz2⟩ := info_parts info30
  go_enter Try.func16, Try.ntmps16
  go_wp2_with (first | (go_at_call 24; refine (there_any _ _ _ _ _ _ _ hc hl (by omega) (by omega)).mono ?_; rintro e w' ⟨rfl, rfl⟩) | (at_builtin; refine wpList_append_src rfl _ _ 29 rfl w.heap.size 30 i0 (.int .u64 0) 1 8 Try.underlying29 hi0 hz0 hz1 hz2 rfl (by decide) (.slice none 0 0) 0 [] rfl (World.ownsRow_nil _ _ _ _) _ n.toNat _ rfl (hM.src h0 h1 h2 (Nat.le_refl _)) (ints_oneCell _ _) (by unfold maxLen; omega) (by omega) (by omega) ?_; intro v' w' hown hgr))
  all_goals go_ret2
  all_goals exact ⟨_, rfl, by simpa using hown, (Kept.refl _ _).grown hgr (by intro k hk; cases hk)⟩

theorem words_no (b g cap : Nat) (ws : List Int) (at_ n : Int) (w : World) (h : Mem 55 w b g cap ws) (hi : inB at_ n ws.length = false) (ha : at_ ≤ 9223372036854775807) (hn : n ≤ 9223372036854775807) :
    Calls Try.prog 16 #[.pointer (some ⟨b, 0, none⟩), .int .i64 at_, .int .i64 n] w fun e w' => e = .returned (.tuple #[.slice none 0 0, .int .i64 20]) ∧ w = w' := by
  have hc := h.cell0
  have hl := h.le
  go_enter Try.func16, Try.ntmps16
  go_wp2_with (go_at_call 24; refine (there_any _ _ _ _ _ _ _ hc hl (by omega) (by omega)).mono ?_; rintro e w' ⟨rfl, rfl⟩)
  go_ret2
  exact ⟨rfl, rfl⟩

theorem move_yes (b g cap : Nat) (ws : List Int) (to frm n : Int) (w : World) (hM : Mem 55 w b g cap ws) (h1 : inB to n ws.length = true) (h2 : inB frm n ws.length = true) :
    Calls Try.prog 17 #[.pointer (some ⟨b, 0, none⟩), .int .i64 to, .int .i64 frm, .int .i64 n] w fun e w' => e = .returned (.int .i64 0) ∧
      Mem 55 w' b g cap (splice ws to.toNat ((ws.drop frm.toNat).take n.toNat)) ∧ Kept (fun k => k = g) w w' := by
  have hc := hM.cell0
  have hl := hM.le
  have hcap := hM.cap_le
  obtain ⟨cur, hg, hcs, hct⟩ := hM.row.ex
  obtain ⟨a0, a1, a2⟩ : 0 ≤ to ∧ 0 ≤ n ∧ to + n ≤ ws.length := by simpa [inB] using h1
  obtain ⟨b0, b1, b2⟩ : 0 ≤ frm ∧ 0 ≤ n ∧ frm + n ≤ ws.length := by simpa [inB] using h2
  go_enter Try.func17, Try.ntmps17
  go_wp2_with (go_at_call 24; refine (there_any _ _ _ _ _ _ _ hc hl (by omega) (by omega)).mono ?_; rintro e w' ⟨rfl, rfl⟩)
  have s1 : IntKind.i64.wrap (to + n) = to + n := IntWalk.i64_in _ (by omega)
  have s2 : IntKind.i64.wrap (frm + n) = frm + n := IntWalk.i64_in _ (by omega)
  have k1 : to + n ≤ (cap : Int) := by omega
  have k2 : frm + n ≤ (cap : Int) := by omega
  have k3 : 0 ≤ to + n := by omega
  have k4 : 0 ≤ frm + n := by omega
  have k5 : to ≤ to + n := by omega
  have k6 : frm ≤ frm + n := by omega
  go_still_tail 18, (by kernel_rfl)
  change wpList _ _ _ _ _ w.drew
  clear s1 s2
  generalize hA1 : (if cap = to.toNat then some (⟨g, 0, none⟩ : Addr) else some ⟨g, to.toNat, none⟩) = A1
  generalize hA2 : (if cap = frm.toNat then some (⟨g, 0, none⟩ : Addr) else some ⟨g, frm.toNat, none⟩) = A2
  have HA1 := Lib.hid hA1
  have HA2 := Lib.hid hA2
  clear hA1 hA2
  refine wpList_copy_blk rfl _ _ 29 29 rfl 30 Try.underlying29 (by kernel_rfl) _ _ _ _ _ _ rfl rfl g to.toNat cur 30 hg (((ws.drop frm.toNat).take n.toNat).map (Value.int .u64)) ?c1 ?c2 ?c3 (ints_oneCell _ _) ?_
  case c1 => simp; omega
  case c2 =>
    intro h0
    have h0' : 0 < n.toNat := by simp at h0; omega
    refine ⟨by rw [← HA1.out, if_neg (by omega)], ⟨g, frm.toNat, none⟩, by rw [← HA2.out, if_neg (by omega)], ?_⟩
    intro j u hj
    have hjl : j < n.toNat := by have := (List.getElem?_eq_some_iff.1 hj).1; simp at this; omega
    rw [addr_add]
    have := hM.cellAt (i := frm.toNat + j) (by omega)
    rw [World.cell?_drew, this]
    simpa [hjl, List.getD, show frm.toNat + j < ws.length by omega] using hj
  case c3 => simp; omega
  intro w' hg' hk
  go_wp2
  go_ret
  have hk' : Kept (fun k => k = g) w w' := (Kept.refl _ _).drew.trans hk
  exact ⟨rfl, Mem.of_splice hM hg hg' hk' (by simp; omega), hk'⟩

theorem move_no (b g cap : Nat) (ws : List Int) (to frm n : Int) (w : World) (hM : Mem 55 w b g cap ws) (h : ¬ (inB to n ws.length = true ∧ inB frm n ws.length = true))
    (ha : to ≤ 9223372036854775807) (hb : frm ≤ 9223372036854775807) (hn : n ≤ 9223372036854775807) :
    Calls Try.prog 17 #[.pointer (some ⟨b, 0, none⟩), .int .i64 to, .int .i64 frm, .int .i64 n] w fun e w' => e = .returned (.int .i64 20) ∧ w = w' := by
  have hc := hM.cell0
  have hl := hM.le
  cases h1 : inB to n ws.length with
  | false =>
    go_enter Try.func17, Try.ntmps17
    go_wp2_with (go_at_call 24; refine (there_any _ _ _ _ _ _ _ hc hl (by omega) (by omega)).mono ?_; rintro e w' ⟨rfl, rfl⟩)
    go_ret
    exact ⟨rfl, rfl⟩
  | true =>
    have h2 : inB frm n ws.length = false := by cases hx : inB frm n ws.length with | false => rfl | true => exact (h ⟨h1, hx⟩).elim
    go_enter Try.func17, Try.ntmps17
    go_wp2_with (go_at_call 24; refine (there_any _ _ _ _ _ _ _ hc hl (by omega) (by omega)).mono ?_; rintro e w' ⟨rfl, rfl⟩)
    go_ret
    exact ⟨rfl, rfl⟩

theorem fill_no (b g cap : Nat) (ws : List Int) (at_ n v : Int) (w : World) (hM : Mem 55 w b g cap ws) (hi : inB at_ n ws.length = false) (ha : at_ ≤ 9223372036854775807) (hn : n ≤ 9223372036854775807) :
    Calls Try.prog 19 #[.pointer (some ⟨b, 0, none⟩), .int .i64 at_, .int .i64 n, .int .u64 v] w fun e w' => e = .returned (.int .i64 20) ∧ w = w' := by
  have hc := hM.cell0
  have hl := hM.le
  go_enter Try.func19, Try.ntmps19
  go_wp2_with (go_at_call 24; refine (there_any _ _ _ _ _ _ _ hc hl (by omega) (by omega)).mono ?_; rintro e w' ⟨rfl, rfl⟩)
  go_ret
  exact ⟨rfl, rfl⟩

theorem zeroCells_one (z : Value) (n : Nat) : (Builtin.zeroCells #[z] n).toList = List.replicate n z := by
  apply List.ext_getElem?
  intro j
  by_cases hj : j < n
  · simp [Builtin.zeroCells, hj, Nat.mod_one]
  · simp [Builtin.zeroCells, hj]

theorem splice_fill (ws : List Int) (a n k : Nat) (v : Int) (h : a + n ≤ ws.length) (hk : k < n) :
    (splice ws a (List.replicate k v ++ List.replicate (n - k) 0)).set (a + k) v = splice ws a (List.replicate (k + 1) v ++ List.replicate (n - (k + 1)) 0) := by
  have e1 : min a ws.length = a := by omega
  apply List.ext_getElem?
  intro i
  simp only [splice, List.getElem?_set, List.getElem?_append, List.getElem?_take, List.getElem?_drop, List.getElem?_replicate, List.length_take, List.length_append, List.length_replicate, List.length_drop, e1]
  (repeat' split) <;> first | rfl | omega | (congr 1; omega) | skip

theorem fill_yes (b g cap : Nat) (ws : List Int) (at_ n v : Int) (w : World) (hM : Mem 55 w b g cap ws) (hi : inB at_ n ws.length = true) :
    Calls Try.prog 19 #[.pointer (some ⟨b, 0, none⟩), .int .i64 at_, .int .i64 n, .int .u64 v] w fun e w' => e = .returned (.int .i64 0) ∧
      Mem 55 w' b g cap (splice ws at_.toNat (List.replicate n.toNat v)) ∧ Kept (fun k => k = g) w w' := by
  have hc := hM.cell0
  have hl := hM.le
  have hcap := hM.cap_le
  obtain ⟨cur, hg, hcs, hct⟩ := hM.row.ex
  obtain ⟨a0, a1, a2⟩ : 0 ≤ at_ ∧ 0 ≤ n ∧ at_ + n ≤ ws.length := by simpa [inB] using hi
  obtain ⟨i0, hi0, hz0, hz1, hz2⟩ := info_parts info30
  by_cases hn0 : n = 0
  · subst hn0
    have hsp : splice ws at_.toNat (List.replicate (0 : Int).toNat v) = ws := by simp [splice]
    rw [hsp]
    clear hsp
    go_enter Try.func19, Try.ntmps19
    go_wp2_with (first | (go_at_call 24; refine (there_any _ _ _ _ _ _ _ hc hl (by omega) (by omega)).mono ?_; rintro e w' ⟨rfl, rfl⟩) | (refine wpList_clear_blk rfl (.tmp 25) 29 rfl 30 Try.underlying29 i0 (.int .u64 0) 1 hi0 hz0 rfl (by simp [Value.cells, Value.oneCell']) _ _ _ rfl g at_.toNat cur 30 hg (by intro h0; simp at h0) (by simp; omega) ?_; intro w' hg' hk))
    all_goals refine wp_loop_once ?_
    all_goals go_wp2
    all_goals go_ret
    all_goals refine ⟨rfl, ?_, hk⟩
    all_goals have hM1 := Mem.of_splice (off := at_.toNat) (cs := []) hM hg (by simpa [Builtin.zeroCells] using hg') hk (by simp; omega)
    all_goals simpa [splice] using hM1
  · have hne : ¬ cap = at_.toNat := by omega
    go_enter Try.func19, Try.ntmps19
    go_wp2_with (first | (go_at_call 24; refine (there_any _ _ _ _ _ _ _ hc hl (by omega) (by omega)).mono ?_; rintro e w' ⟨rfl, rfl⟩) | (refine wpList_clear_blk rfl (.tmp 25) 29 rfl 30 Try.underlying29 i0 (.int .u64 0) 1 hi0 hz0 rfl (by simp [Value.cells, Value.oneCell']) _ _ _ rfl g at_.toNat cur 30 hg (by intro h0; rfl) (by simp; omega) ?_; intro w' hg' hk))
    have en : (at_ + n).toNat - at_.toNat = n.toNat := by omega
    have hg2 : w'.heap[g]? = some (.cells (splice cur.toList at_.toNat ((List.replicate n.toNat 0).map (Value.int .u64))).toArray 30 (0, 0)) := by
      have h1 := zeroCells_one (.int .u64 0) n.toNat
      have h2 : (Value.int .u64 0).cells = #[.int .u64 0] := rfl
      rw [en, h2, h1] at hg'
      rw [hg']; simp
    have hM1 := Mem.of_splice (off := at_.toNat) (cs := List.replicate n.toNat 0) hM hg hg2 hk (by simp; omega)
    clear hg2 hg' hg hct
    have hnn : n.toNat ≤ 65536 := by omega
    go_loopw [28, 10] (fun i _ wr => ∃ k : Nat, k ≤ n.toNat ∧ i = .int .i64 k ∧ Mem 55 wr b g cap (splice ws at_.toNat (List.replicate k v ++ List.replicate (n.toNat - k) 0)) ∧ Kept (fun k => k = g) w wr) (fun i _ _ => n.toNat - (intOf i).toNat)
    case atStart => exact ⟨0, Nat.zero_le _, rfl, by simpa using hM1, hk⟩
    case round =>
      obtain ⟨k, hkn, rfl, hMr, hkr⟩ := hrel
      by_cases hlt : k < n.toNat
      · have hlen : (splice ws at_.toNat (List.replicate k v ++ List.replicate (n.toNat - k) 0)).length = ws.length := length_splice _ _ _ (by simp; omega)
        have hcw := hMr.cellAt (i := at_.toNat + k) (by rw [hlen]; omega)
        have hfw := hMr.free (at_.toNat + k)
        have hst := hMr.set (at_.toNat + k) v
        rw [splice_fill ws at_.toNat n.toNat k v (by omega) hlt] at hst
        generalize (splice ws at_.toNat (List.replicate k v ++ List.replicate (n.toNat - k) 0)).getD (at_.toNat + k) 0 = u at hcw
        have Hlen := Lib.hid hlen; clear hlen
        go_wp2
        go_roundw
        case rel => exact ⟨k + 1, by omega, by go_num, hst.1, hkr.trans hst.2⟩
        case measure => simp [intOf]; omega
      · obtain rfl : k = n.toNat := by omega
        go_wp2
        go_ret
        exact ⟨rfl, by simpa using hMr, hkr⟩

end Go.Proofs.Ytnfomlgjnckphaa

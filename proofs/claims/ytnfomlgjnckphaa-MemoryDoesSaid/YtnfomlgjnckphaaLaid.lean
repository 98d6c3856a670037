/- The laws' own 'laid': a memory of 32 words. -/
import Derived.Test.YtnfomlgjnckphaaFixed
import Derived.Test.YtnfomlgjnckphaaArgs
set_option linter.all false
namespace Go.Proofs.Ytnfomlgjnckphaa
open Go.RowKit

abbrev New (w w' : World) : Prop := Kept (fun _ => False) w w'
theorem none_below {w w' : World} (h : New w w') : Below w.heap.size w w' := h.below (Nat.le_refl _) (fun _ h => h.elim)
/-- Writes to blocks that are new since the first world. -/
theorem Kept.new {F : Nat → Prop} {a b c : World} (h : New a b) (k : Kept F b c) (hF : ∀ i, F i → a.heap.size ≤ i) : New a c := h.trans' k (fun i hi hf => by have := hF i hf; omega)

set_option maxHeartbeats 1000000 in
theorem laid_any (v : Value) (n : Nat) (zs : List Int) (w : World) (hs : Src w v n 1 (zs.map (Value.int .u64))) (hn : n ≤ 9223372036854775807) :
    Calls Try.prog 18 #[v] w fun e w' => ∃ b g cap ws, e = .returned (.pointer (some ⟨b, 0, none⟩)) ∧ Mem 55 w' b g cap ws ∧ ws.length = 32 ∧ w.heap.size ≤ b ∧ w.heap.size ≤ g ∧ New w w' := by
  obtain ⟨hl, ao, c, rfl, hc⟩ := hs.ints
  have Hc := Lib.hid hc
  have Hl := Lib.hid hl
  clear hc hl hs
  go_enter Try.func18, Try.ntmps18
  go_wp2_with fail
  refine (new_yes 32 _ (by decide) (by decide)).mono ?_
  rintro e w1 ⟨rfl, hM1, hk1⟩
  go_wp2_with fail
  go_loopw [5] (fun i wr => ∃ (k : Nat) (ws : List Int), k ≤ n ∧ k ≤ 32 ∧ i = .int .i64 k ∧ Mem 55 wr (w.heap.size + 1) w.heap.size 32 ws ∧ Hid (ws.length = 32) ∧ New w wr) (fun i _ => 32 - (intOf i).toNat)
  case atStart => exact ⟨0, _, Nat.zero_le _, by omega, rfl, hM1, by simp [Hid], hk1⟩
  case round =>
    obtain ⟨k, ws, hkn, hk32, rfl, hM, Hw, hk⟩ := hrel
    by_cases h1 : k < n
    · by_cases h2 : k < 32
      · obtain ⟨ad, rfl, hcell⟩ := Hc.out k h1
        have hcell' := cell_kept hk hcell (fun h => h)
        generalize zs.getD k 0 = u at hcell'
        clear hcell
        go_wp2_with fail
        refine (write_yes _ _ _ _ k u _ hM (by omega) (by have := Hw.out; omega)).mono ?_
        rintro e w2 ⟨rfl, hM2, hk2⟩
        go_wp2_with fail
        go_roundw
        case rel => exact ⟨k + 1, _, by omega, by omega, by go_num, hM2, by have := Hw.out; simpa [Hid] using this, hk.new hk2 (by intro i hi; omega)⟩
        case measure => simp [intOf]; omega
      · go_wp2_with fail
        go_ret
        exact ⟨_, _, _, ws, rfl, hM, Hw.out, by omega, by omega, hk⟩
    · go_wp2_with fail
      go_ret
      exact ⟨_, _, _, ws, rfl, hM, Hw.out, by omega, by omega, hk⟩

/-- All words of a memory that is not empty. -/
theorem words_all (b g cap : Nat) (ws : List Int) (n : Int) (w : World) (hM : Mem 55 w b g cap ws) (hn : n = ws.length) (h0 : 0 < ws.length) :
    Calls Try.prog 16 #[.pointer (some ⟨b, 0, none⟩), .int .i64 0, .int .i64 n] w fun e w' => ∃ g1 cap1, e = .returned (.tuple #[.slice (some ⟨g1, 0, none⟩) ws.length cap1, .int .i64 0]) ∧
      Row w' g1 cap1 30 (ws.map (Value.int .u64)) ∧ w.heap.size ≤ g1 ∧ New w w' := by
  subst hn
  refine (words_yes _ _ _ _ 0 ws.length _ hM (by simp [inB])).mono ?_
  rintro e w1 ⟨v, rfl, hown, hk⟩
  simp at hown
  obtain ⟨g1, cap1, rfl, hb, hrow⟩ := Row.of_own hown h0
  exact ⟨g1, cap1, rfl, hrow, hb, hk⟩

theorem Row.cellI {w : World} {g cap : Nat} {e : TypeId} {k : IntKind} {ws : List Int} (h : Row w g cap e (ws.map (Value.int k))) {i : Nat} (hi : i < ws.length) : w.cell? ⟨g, i, none⟩ = some (.int k (ws.getD i 0)) := by
  rw [h.cell (by simpa using hi)]; simp [List.getD, hi]
theorem Row.cap_le {w : World} {g cap : Nat} {e : TypeId} {k : IntKind} {ws : List Int} (h : Row w g cap e (ws.map (Value.int k))) : ws.length ≤ cap := by simpa using h.le
theorem Row.same {w w' : World} {g cap : Nat} {e : TypeId} {xs : List Value} (h : Row w g cap e xs) (k : New w w') : Row w' g cap e xs := h.kept k (fun h => h)

/-- An Op of the laws. -/
theorem op_open {cs : List Value} (hf : FlatOk [.int .i64, .int .i64, .int .i64, .int .i64, .int .u64] cs) : ∃ kind at_ frm n v : Int, cs = [.int .i64 kind, .int .i64 at_, .int .i64 frm, .int .i64 n, .int .u64 v] ∧
    (Lit.int .i64 kind).wf = true ∧ (Lit.int .i64 at_).wf = true ∧ (Lit.int .i64 frm).wf = true ∧ (Lit.int .i64 n).wf = true := by
  obtain ⟨kind, _, rfl, w0, hf⟩ := hf.int
  obtain ⟨oat, _, rfl, w1, hf⟩ := hf.int
  obtain ⟨ofrm, _, rfl, w2, hf⟩ := hf.int
  obtain ⟨on, _, rfl, w3, hf⟩ := hf.int
  obtain ⟨ov, _, rfl, w4, hf⟩ := hf.int
  obtain rfl := hf.nil
  exact ⟨kind, oat, ofrm, on, ov, rfl, w0, w1, w2, w3⟩
end Go.Proofs.Ytnfomlgjnckphaa

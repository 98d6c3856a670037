/- Package irq: New, Copy; the laws' own 'fixed'. -/
import Derived.Test.YtcblncdfppkhcaaLine
set_option linter.all false
namespace Go.Proofs.Ytcblncdfppkhcaa
open Go.RowKit

theorem made_enc {α : Type} {enc : α → List Value} {s : Nat} {no : α} (he : ∀ x, (enc x).length = s) (n : Nat) : (madeCells (enc no).toArray (n * s)).toList = (List.replicate n no).flatMap enc := by
  have h1 : (madeCells (enc no).toArray (n * s)).toList.length = n * s := by rw [Array.length_toList, size_madeCells]
  have h2 : ((List.replicate n no).flatMap enc).length = s * n := by rw [enc_length he]; simp
  apply List.ext_getElem?
  intro i
  rcases Nat.lt_or_ge i (n * s) with hi | hi
  · have hs : 0 < s := by
      rcases Nat.eq_zero_or_pos s with h | h
      · subst h; simp at hi
      · exact h
    have hj : i % s < s := Nat.mod_lt _ hs
    have hq : i / s < n := by rw [Nat.div_lt_iff_lt_mul hs]; exact hi
    have := enc_get he (L := List.replicate n no) (i := i / s) (j := i % s) (x := no) (by simp [hq]) hj
    rw [Nat.mul_comm, Nat.div_add_mod] at this
    rw [this]
    have hj' : i % s < (enc no).length := by rw [he]; exact hj
    rw [List.getElem?_eq_getElem hj']
    simp [madeCells, hi, he, hj', getElem!_pos]
    rw [List.getElem?_eq_getElem hj']; rfl
  · rw [List.getElem?_eq_none (by omega), List.getElem?_eq_none (by rw [h2, Nat.mul_comm]; exact hi)]

theorem new_lns {T E : TypeId} {enc : Ln → List Value} {s : Nat} (he : ∀ x, (enc x).length = s) (n : Nat) (w : World) (h1 : n ≤ 64) :
    Lns T E enc s ((w.alloc (.cells (madeCells (enc .no).toArray (n * s)) E)).alloc (.cells #[.slice (some ⟨w.heap.size, 0, none⟩) n n] T)) (w.heap.size + 1) w.heap.size n (List.replicate n .no) := by
  refine ⟨he, ?_, ⟨⟨madeCells (enc .no).toArray (n * s), ?_, ?_, ?_⟩, ?_⟩, by omega, by simpa using h1, by simp⟩
  · have := heap_alloc_new (w.alloc (.cells (madeCells (enc .no).toArray (n * s)) E)) (.cells #[.slice (some ⟨w.heap.size, 0, none⟩) n n] T)
    simpa using this
  · rw [Below.heap_alloc _ _ _ (by simp)]; exact heap_alloc_new _ _
  · exact size_madeCells _ _
  · rw [made_enc he, List.take_length]
  · rw [enc_length he]; simp [Nat.mul_comm]

theorem new_yes (n : Int) (w : World) (h0 : 1 ≤ n) (h1 : n ≤ 64) :
    Calls Try.prog 9 #[.int .i64 n] w fun e w' => e = .returned (.tuple #[.pointer (some ⟨w.heap.size + 1, 0, none⟩), .int .i64 0]) ∧
      LI w' (w.heap.size + 1) w.heap.size n.toNat (List.replicate n.toNat .no) ∧ New w w' := by
  obtain ⟨n, rfl⟩ := Int.eq_ofNat_of_zero_le (show 0 ≤ n by omega)
  obtain ⟨i0, hi, hz0, hz1, hz2⟩ := info_parts info56
  have hmk := run_make (P := Try.prog) w 50 56 i0 _ Try.underlying50 hi hz0 .i64 .i64 n n (by omega) (by omega) (by rw [hz2]; omega) (by omega)
  rw [hz1] at hmk
  go_enter Try.func9, Try.ntmps9
  go_wp2
  go_ret2
  exact ⟨rfl, by simpa [encI, St.code] using new_lns (T := 52) (E := 56) (enc := encI) (s := 3) (fun _ => rfl) n w (by omega), ((Kept.refl _ _).alloc _).alloc _⟩

theorem new_no (n : Int) (w : World) (h : n < 1 ∨ 64 < n) :
    Calls Try.prog 9 #[.int .i64 n] w fun e w' => e = .returned (.tuple #[.pointer none, .int .i64 1]) ∧ w = w' := by
  rcases h with h | h
  · go_enter Try.func9, Try.ntmps9
    go_wp2
    go_ret2
    exact ⟨rfl, rfl⟩
  · have h' : ¬ n < 1 := by omega
    go_enter Try.func9, Try.ntmps9
    go_wp2
    go_ret2
    exact ⟨rfl, rfl⟩

theorem Row.srcS {w : World} {g cap c : Nat} {e : TypeId} {xs : List Value} {n s : Nat} (h : Row w g cap e xs) (hl : xs.length = n * s) : Src w (.slice (some ⟨g, 0, none⟩) n c) n s xs := by
  refine ⟨_, _, rfl, by simp, hl, fun j u hj => ⟨_, rfl, ?_⟩⟩
  have hjl := (List.getElem?_eq_some_iff.1 hj).1
  rw [addr_add, Nat.zero_add, h.cell hjl]
  simpa [hjl] using hj

theorem clone_any (v : Value) (n : Nat) (xs : List Value) (w : World) (hn0 : 0 < n) (hs : Src w v n 3 xs) (h1 : ∀ u ∈ xs, u.oneCell' = true) (hn : n ≤ 65536) :
    Calls Try.prog 25 #[v] w fun e w' => ∃ g cap, e = .returned (.slice (some ⟨g, 0, none⟩) n cap) ∧ w.heap.size ≤ g ∧ Row w' g (cap * 3) 56 xs ∧ n ≤ cap ∧ New w w' := by
  obtain ⟨i0, hi0, hz0, hz1, hz2⟩ := info_parts info56
  have hs' := hs
  obtain ⟨ao, c, rfl, _, hxl, hc⟩ := hs'
  obtain ⟨ad, rfl⟩ : ∃ ad, ao = some ad := by
    cases xs with
    | nil => simp at hxl; omega
    | cons u l => obtain ⟨ad, h1, _⟩ := hc 0 u rfl; exact ⟨ad, h1⟩
  clear hc
  have heq := fun (w : World) (a : Option Addr) (n c n' c' : Nat) => Lib.run_eql_slice_nil (P := Try.prog) w 50 56 a n c n' c' Try.underlying50
  go_enter Try.func25, Try.ntmps25
  go_wp2_with (at_builtin; refine wpList_append_src rfl _ _ 50 rfl w.heap.size 56 i0 _ 3 24 Try.underlying50 hi0 hz0 hz1 hz2 rfl (by decide) (.slice (some ⟨w.heap.size, 0, none⟩) 0 0) 0 [] rfl (World.ownsRow_made w #[] 0 (Nat.le_refl _) (by unfold maxLen; omega) rfl) _ n xs rfl (hs.alloc _) h1 (by unfold maxLen; omega) (by omega) (by simp) ?_; intro v' w' hown hgr)
  go_ret
  obtain ⟨g, cap, rfl, hb, hrow, hle⟩ := Row.of_ownS (n := n) (xs := xs) (by simpa using hown) hn0
  exact ⟨g, cap, rfl, hb, hrow, hle, ((Kept.refl _ _).alloc _).grown hgr (by intro k hk; simp [Value.ownBlock] at hk; omega)⟩

theorem encI_one (L : List Ln) : ∀ u ∈ L.flatMap encI, u.oneCell' = true := by
  intro u hu
  obtain ⟨x, _, hx⟩ := List.mem_flatMap.1 hu
  simp [encI] at hx
  rcases hx with rfl | rfl | rfl <;> rfl

theorem copy_any (b g cap : Nat) (L : List Ln) (w : World) (hM : LI w b g cap L) (h0 : 0 < L.length) :
    Calls Try.prog 21 #[.pointer (some ⟨b, 0, none⟩)] w fun e w' => ∃ b' g' cap', e = .returned (.pointer (some ⟨b', 0, none⟩)) ∧ w.heap.size ≤ b' ∧ w.heap.size ≤ g' ∧
      LI w' b' g' cap' L ∧ New w w' := by
  have hc := hM.cell0
  have hl := hM.le
  go_enter Try.func21, Try.ntmps21
  go_wp2_with (go_at_call 25; refine (clone_any _ L.length _ _ h0 (hM.row.srcS (by rw [enc_length hM.len, Nat.mul_comm])) (encI_one L) (by omega)).mono ?_; rintro e w1 ⟨g1, cap1, rfl, hg1, hrow, hle, hk⟩)
  go_ret
  have hlt := hrow.lt
  have hk1 := hk.alloc (.cells #[.slice (some ⟨g1, 0, none⟩) L.length cap1] 52)
  exact ⟨w1.heap.size, g1, cap1, rfl, hk.size, hg1, ⟨hM.len, heap_alloc_new _ _, hrow.alloc _, by omega, hl, hle⟩, hk1⟩

set_option maxRecDepth 100000 in
set_option maxHeartbeats 2000000 in
theorem fixed_any (w : World) : Calls Try.prog 10 #[] w fun e w' => e = .returned (.bool true) ∧ New w w' := by
  go_enter Try.func10, Try.ntmps10
  go_wp2_with fail
  refine (new_yes 2 _ (by decide) (by decide)).mono ?_
  rintro e w1 ⟨rfl, hM, hk⟩
  replace hM : LI w1 (w.heap.size + 1) w.heap.size 2 [.no, .no] := hM
  go_wp2_with fail
  refine (raise_in _ _ _ _ 0 _ _ _ _ _ _ hM rfl rfl).mono ?_
  rintro e w2 ⟨rfl, hM2, hk2⟩
  replace hM2 : LI w2 (w.heap.size + 1) w.heap.size 2 [.no, .no] := hM2
  replace hk2 := hk.new hk2 (by intro i hi; omega)
  clear hM hk
  go_wp2_with fail
  refine (bind_in _ _ _ _ 0 _ 3 8 _ hM2 rfl rfl (by decide)).mono ?_
  rintro e w3 ⟨rfl, hM3, hk3⟩
  replace hM3 : LI w3 (w.heap.size + 1) w.heap.size 2 [⟨.opn, 3, 8⟩, .no] := hM3
  replace hk3 := hk2.new hk3 (by intro i hi; omega)
  clear hM2 hk2
  go_wp2_with fail
  refine (raise_in _ _ _ _ 0 _ _ _ _ _ _ hM3 rfl rfl).mono ?_
  rintro e w2 ⟨rfl, hM2, hk2⟩
  replace hM2 : LI w2 (w.heap.size + 1) w.heap.size 2 [⟨.shut, 3, 8⟩, .no] := hM2
  replace hk2 := hk3.new hk2 (by intro i hi; omega)
  clear hM3 hk3
  go_wp2_with fail
  refine (raise_in _ _ _ _ 0 _ _ _ _ _ _ hM2 rfl rfl).mono ?_
  rintro e w3 ⟨rfl, hM3, hk3⟩
  replace hM3 : LI w3 (w.heap.size + 1) w.heap.size 2 [⟨.again, 3, 8⟩, .no] := hM3
  replace hk3 := hk2.new hk3 (by intro i hi; omega)
  clear hM2 hk2
  go_wp2_with fail
  refine (ack_in _ _ _ _ 0 _ _ _ _ _ _ hM3 rfl rfl).mono ?_
  rintro e w2 ⟨rfl, hM2, hk2⟩
  replace hM2 : LI w2 (w.heap.size + 1) w.heap.size 2 [⟨.shut, 3, 8⟩, .no] := hM2
  replace hk2 := hk3.new hk2 (by intro i hi; omega)
  clear hM3 hk3
  go_wp2_with fail
  refine (ack_in _ _ _ _ 0 _ _ _ _ _ _ hM2 rfl rfl).mono ?_
  rintro e w3 ⟨rfl, hM3, hk3⟩
  replace hM3 : LI w3 (w.heap.size + 1) w.heap.size 2 [⟨.opn, 3, 8⟩, .no] := hM3
  replace hk3 := hk2.new hk3 (by intro i hi; omega)
  clear hM2 hk2
  go_wp2_with fail
  refine (open_in _ _ _ _ 0 _ _ hM3 rfl).mono ?_
  rintro e w2 ⟨rfl, hk2⟩
  have hM2 := hM3.same hk2
  replace hk2 := hk3.trans hk2
  clear hM3 hk3
  go_wp2_with fail
  refine (raise_in _ _ _ _ 0 _ _ _ _ _ _ hM2 rfl rfl).mono ?_
  rintro e w3 ⟨rfl, hM3, hk3⟩
  replace hM3 : LI w3 (w.heap.size + 1) w.heap.size 2 [⟨.shut, 3, 8⟩, .no] := hM3
  replace hk3 := hk2.new hk3 (by intro i hi; omega)
  clear hM2 hk2
  go_wp2_with fail
  refine (raise_out _ _ _ _ 2 _ hM3 (by decide) (by decide)).mono ?_
  rintro e w2 ⟨rfl, rfl⟩
  go_wp2_with fail
  refine (new_no 65 _ (by decide)).mono ?_
  rintro e w2 ⟨rfl, rfl⟩
  go_wp2_with fail
  refine (bind_busy _ _ _ _ 0 _ 1 1 _ hM3 rfl (by simp) (by decide)).mono ?_
  rintro e w2 ⟨rfl, rfl⟩
  go_wp2_with fail
  refine (free_busy _ _ _ _ 1 _ _ hM3 rfl rfl).mono ?_
  rintro e w2 ⟨rfl, rfl⟩
  go_wp2_with fail
  refine (free_in _ _ _ _ 0 _ _ hM3 rfl (by simp)).mono ?_
  rintro e w2 ⟨rfl, hM2, hk2⟩
  go_wp2
  go_ret
  exact ⟨rfl, hk3.new hk2 (by intro i hi; omega)⟩

/-- An Op of the laws. -/
theorem op_open {cs : List Value} (hf : FlatOk [.int .i64, .int .i64, .int .i64, .int .u64] cs) : ∃ kind line note badge : Int, cs = [.int .i64 kind, .int .i64 line, .int .i64 note, .int .u64 badge] ∧
    (Lit.int .i64 kind).wf = true ∧ (Lit.int .i64 line).wf = true ∧ (Lit.int .i64 note).wf = true ∧ (Lit.int .u64 badge).wf = true := by
  obtain ⟨kind, _, rfl, w0, hf⟩ := hf.int
  obtain ⟨line, _, rfl, w1, hf⟩ := hf.int
  obtain ⟨note, _, rfl, w2, hf⟩ := hf.int
  obtain ⟨badge, _, rfl, w3, hf⟩ := hf.int
  obtain rfl := hf.nil
  exact ⟨kind, line, note, badge, rfl, w0, w1, w2, w3⟩
end Go.Proofs.Ytcblncdfppkhcaa

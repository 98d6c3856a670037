/- Package lock, told of the list of cores alone. -/
import Derived.Test.YtjimjkfnpklhiaaOrdC
set_option linter.all false
namespace Go.Proofs.Ytjimjkfnpklhiaa
open Go.RowKit

theorem same_q (a b : Value) (n m : Nat) (xs ys : List Int) (w : World) (ha : Src w a n 1 (xs.map (Value.int .i64))) (hb : Src w b m 1 (ys.map (Value.int .i64))) (hn : n ≤ 65536) (hm : m ≤ 65536) :
    Calls Try.prog 13 #[a, b] w fun e w' => e = .returned (.bool (decide (xs = ys))) ∧ ∃ q, w' = w.drewN q := by
  obtain ⟨ao, ca, rfl, _, hxl, hca⟩ := ha
  obtain ⟨bo, cb, rfl, _, hyl, hcb⟩ := hb
  simp only [List.length_map, Nat.mul_one] at hxl hyl
  by_cases hnm : n = m
  · subst hnm
    by_cases h0 : n = 0
    · have e1 : xs = [] := List.eq_nil_of_length_eq_zero (by omega)
      have e2 : ys = [] := List.eq_nil_of_length_eq_zero (by omega)
      subst h0 e1 e2
      go_enter Try.func13, Try.ntmps13
      go_wp2
      refine wp_loop_once ?_
      go_wp2
      go_ret
      exact ⟨rfl, 0, rfl⟩
    · have hc1 : ∃ aa, ao = some aa := by
        obtain ⟨ad, h1, _⟩ := hca 0 (.int .i64 (xs.getD 0 0)) (by simp [List.getD, show 0 < xs.length by omega]); exact ⟨ad, h1⟩
      have hc2 : ∃ aa, bo = some aa := by
        obtain ⟨ad, h1, _⟩ := hcb 0 (.int .i64 (ys.getD 0 0)) (by simp [List.getD, show 0 < ys.length by omega]); exact ⟨ad, h1⟩
      obtain ⟨aa, rfl⟩ := hc1
      obtain ⟨ab, rfl⟩ := hc2
      have Ha : Hid (∀ k, k < n → w.cell? (aa.add k) = some (.int .i64 (xs.getD k 0))) := by
        intro k hk
        obtain ⟨ad, h1, h2⟩ := hca k (.int .i64 (xs.getD k 0)) (by simp [List.getD, show k < xs.length by omega])
        cases h1; exact h2
      have Hb : Hid (∀ k, k < n → w.cell? (ab.add k) = some (.int .i64 (ys.getD k 0))) := by
        intro k hk
        obtain ⟨ad, h1, h2⟩ := hcb k (.int .i64 (ys.getD k 0)) (by simp [List.getD, show k < ys.length by omega])
        cases h1; exact h2
      clear hca hcb
      have Hxl := Lib.hid hxl; have Hyl := Lib.hid hyl; clear hxl hyl
      go_enter Try.func13, Try.ntmps13
      go_wp2
      go_loopw [5] (fun i wr => ∃ k : Nat, k ≤ n ∧ i = .int .i64 k ∧ xs.take k = ys.take k ∧ (∃ q, wr = w.drewN q)) (fun i _ => n - (intOf i).toNat)
      case atStart => exact ⟨0, Nat.zero_le _, rfl, rfl, 0, rfl⟩
      case round =>
        obtain ⟨k, hk, rfl, hpre, q, rfl⟩ := hrel
        have Hpre := Lib.hid hpre; clear hpre
        by_cases hlt : k < n
        · have h1 := Ha.out k hlt
          have h2 := Hb.out k hlt
          generalize hu : xs.getD k 0 = u at h1
          generalize hv : ys.getD k 0 = v at h2
          have Hu := Lib.hid hu; have Hv := Lib.hid hv; clear hu hv
          go_wp2
          go_quiet (fail)
          go_wp2
          · have hne : (u != v) = true := by assumption
            go_ret
            refine ⟨ret_bool ?_, ⟨_, World.drewN_drewN _ _ _⟩⟩
            have : xs ≠ ys := by
              rintro rfl
              rw [← Hu.out, ← Hv.out] at hne; simp at hne
            simp [this]
          · have hne : (u != v) = false := by assumption
            go_roundw
            case rel => exact ⟨k + 1, by omega, by go_num, take_eq_snoc (by rw [Hxl.out]; omega) (by rw [Hyl.out]; omega) Hpre.out (by rw [Hu.out, Hv.out]; simpa using hne), _, rfl⟩
            case measure => simp [intOf]; omega
        · go_wp2
          go_ret
          refine ⟨ret_bool ?_, ⟨_, rfl⟩⟩
          have : xs = ys := by
            have h1 := Hpre.out
            rwa [List.take_of_length_le (by rw [Hxl.out]; omega), List.take_of_length_le (by rw [Hyl.out]; omega)] at h1
          simp [this]
  · have hne : ((n : Int) != (m : Int)) = true := by rw [bne_iff_ne]; omega
    have hxy : xs ≠ ys := by rintro rfl; omega
    clear hca hcb
    go_enter Try.func13, Try.ntmps13
    go_wp2
    go_ret
    exact ⟨ret_bool (by simp [hxy]), 0, rfl⟩

theorem nums_any (a b : Value) (n m : Nat) (xs ys : List Int) (w : World) (ha : Src w a n 1 (xs.map (Value.int .i64))) (hb : Src w b m 1 (ys.map (Value.int .i64))) (hn : n ≤ 65536) (hm : m ≤ 65536) :
    Calls Try.prog 13 #[a, b] w fun e w' => e = .returned (.bool (decide (xs = ys))) ∧ New w w' :=
  (same_q a b n m xs ys w ha hb hn hm).mono fun _ _ ⟨he, q, hq⟩ => ⟨he, by rw [hq]; exact (Kept.refl _ _).drewN _⟩

/-- A lock, told of who stands in line; all its blocks are in O. -/
def Lock (O : Nat → Prop) (w : World) (b g n : Nat) (L : List Int) : Prop := ∃ N : List (Int × Nat), N.map Prod.fst = L ∧ Lk w b g n N ∧ ∀ k, Own b g N k → O k

section
variable {O O' : Nat → Prop} {w w' : World} {b g n : Nat} {L : List Int}
theorem Lock.mono (h : Lock O w b g n L) (hO : ∀ k, O k → O' k) : Lock O' w b g n L := let ⟨N, h1, h2, h3⟩ := h; ⟨N, h1, h2, fun k hk => hO k (h3 k hk)⟩
theorem Lock.same (h : Lock O w b g n L) (k : New w w') : Lock O w' b g n L := let ⟨N, h1, h2, h3⟩ := h; ⟨N, h1, h2.same k, h3⟩
theorem Lock.alloc (h : Lock O w b g n L) (o : Obj) : Lock O (w.alloc o) b g n L := h.same ((Kept.refl _ _).alloc o)
theorem Lock.drewN (h : Lock O w b g n L) (q : Nat) : Lock O (w.drewN q) b g n L := h.same ((Kept.refl _ _).drewN q)
theorem Lock.nodup (h : Lock O w b g n L) : L.Nodup := let ⟨N, h1, h2, _⟩ := h; h1 ▸ h2.nodup
theorem Lock.core (h : Lock O w b g n L) : ∀ x ∈ L, 0 ≤ x ∧ x < n := by
  obtain ⟨N, rfl, h2, _⟩ := h
  intro x hx
  obtain ⟨y, hy, rfl⟩ := List.mem_map.1 hx
  exact h2.core y hy
theorem Lock.le (h : Lock O w b g n L) : n ≤ 8 := let ⟨_, _, h2, _⟩ := h; h2.le
theorem Lock.len (h : Lock O w b g n L) : L.length ≤ n := nodup_len h.nodup h.core
theorem Lock.cell0 (h : Lock O w b g n L) : w.cell? ⟨b, 0, none⟩ = some (.int .i64 n) := by
  obtain ⟨N, _, h2, _⟩ := h
  obtain ⟨t, h1, _⟩ := h2.blk
  exact cell_blk h1 0
theorem Lock.in_ (h : Lock O w b g n L) : O b ∧ O g := let ⟨_, _, _, h3⟩ := h; ⟨h3 _ (.inl rfl), h3 _ (.inr (.inl rfl))⟩
theorem not_lt {k : Nat} {c : Array Value} {T : TypeId} (h : w.heap[k]? = some (.cells c T (0, 0))) (h1 : T ≠ 62) (h2 : T ≠ 59) (h3 : T ≠ 64) : ¬ Lt w k := by
  rintro ⟨c', T', h', hT⟩
  rw [h] at h'
  simp at h'
  obtain ⟨_, rfl⟩ := h'
  rcases hT with h' | h' | h'
  · exact h1 h'
  · exact h2 h'
  · exact h3 h'
theorem own_not_lt {base : Nat} {v : Value} {m : Nat} {xs : List Value} (h : w.ownsRow base 3 1 v m xs) {k : Nat} (hk : v.ownBlock = some k) : ¬ Lt w k := by
  rcases h.2 with ⟨rfl, _⟩ | ⟨g, cap, cur, rfl, h2, h3, _⟩
  · simp [Value.ownBlock] at hk
  · simp [Value.ownBlock] at hk; subst hk; exact not_lt h3 (by decide) (by decide) (by decide)
end

theorem lock_new (n : Int) (w : World) (h0 : 1 ≤ n) (h1 : n ≤ 8) :
    Calls Try.prog 27 #[.int .i64 n] w fun e w' => e = .returned (.tuple #[.pointer (some ⟨w.heap.size + 1, 0, none⟩), .int .i64 0]) ∧
      Lock (fun k => w.heap.size ≤ k) w' (w.heap.size + 1) w.heap.size n.toNat [] ∧ New w w' := by
  refine (new_yes n w h0 h1).mono ?_
  rintro e w' ⟨rfl, h, k⟩
  refine ⟨rfl, ⟨[], rfl, h, ?_⟩, k⟩
  rintro i (rfl | rfl | ⟨x, hx, _⟩)
  · omega
  · omega
  · simp at hx

theorem lock_probe {O : Nat → Prop} (b g n : Nat) (L : List Int) (c : Int) (w : World) (h : Lock O w b g n L)  :
    Calls Try.prog 36 #[.pointer (some ⟨b, 0, none⟩), .int .i64 c] w fun e w' => e = .returned (.tuple #[.bool (probeE n L c).1, .int .i64 (probeE n L c).2]) ∧ w = w' := by
  obtain ⟨N, rfl, h, _⟩ := h
  exact probe_any _ _ _ _ _ _ h

theorem lock_enter {O : Nat → Prop} (b g n : Nat) (L : List Int) (c : Int) (w : World) (h : Lock O w b g n L)  :
    Calls Try.prog 32 #[.pointer (some ⟨b, 0, none⟩), .int .i64 c] w fun e w' => e = .returned (.int .i64 (enterE n L c).1) ∧
      Lock (fun k => O k ∨ w.heap.size ≤ k) w' b g n (enterE n L c).2 ∧ Kept (fun k => O k ∧ Lt w k) w w' := by
  obtain ⟨N, rfl, h, hO⟩ := h
  refine (enter_any _ _ _ _ _ _ h).mono ?_
  rintro e w' ⟨N', rfl, h1, h2, h3, h4⟩
  refine ⟨rfl, ⟨N', h1, h2, fun k hk => (h4 k hk).imp (hO k) (fun h => h)⟩, h3.mono fun k _ hk => ⟨hO k hk, h.own_lt hk⟩⟩

theorem lock_leave {O : Nat → Prop} (b g n : Nat) (L : List Int) (c : Int) (w : World) (h : Lock O w b g n L)  :
    Calls Try.prog 39 #[.pointer (some ⟨b, 0, none⟩), .int .i64 c] w fun e w' => e = .returned (.int .i64 (leaveE n L c).1) ∧
      Lock O w' b g n (leaveE n L c).2 ∧ Kept (fun k => O k ∧ Lt w k) w w' := by
  obtain ⟨N, rfl, h, hO⟩ := h
  refine (leave_any _ _ _ _ _ _ h).mono ?_
  rintro e w' ⟨N', rfl, h1, h2, h3, h4⟩
  refine ⟨rfl, ⟨N', h1, h2, fun k hk => hO k (h4 k hk)⟩, h3.mono fun k _ hk => ⟨hO k hk, h.own_lt hk⟩⟩

theorem lock_line {O : Nat → Prop} (b g n : Nat) (L : List Int) (w : World) (h : Lock O w b g n L)  :
    Calls Try.prog 23 #[.pointer (some ⟨b, 0, none⟩)] w fun e w' => ∃ v, e = .returned v ∧ w'.ownsRow w.heap.size 3 1 v L.length (L.map (Value.int .i64)) ∧ New w w' := by
  obtain ⟨N, rfl, h, _⟩ := h
  rw [List.length_map]
  exact line_any _ _ _ _ _ h

end Go.Proofs.Ytjimjkfnpklhiaa

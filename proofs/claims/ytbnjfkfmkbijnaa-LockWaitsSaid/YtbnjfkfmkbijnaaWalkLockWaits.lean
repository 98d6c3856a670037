/- The walk of the law LockWaits. -/
import Derived.Test.YtbnjfkfmkbijnaaLockF
set_option linter.all false
namespace Go.Proofs.Ytbnjfkfmkbijnaa
open Go.RowKit

theorem enter_mem {n : Nat} {L : List Int} {c : Int} (h0 : 0 ≤ c) (h1 : c < n) : c ∈ (enterE n L c).2 := by
  rw [enterE, if_neg (fun h => h ⟨h0, h1⟩)]
  split
  · assumption
  · simp

set_option maxRecDepth 100000 in
set_option maxHeartbeats 4000000 in
theorem walkLockWaits (w : World) (v : Value) (rows : List (List Value)) (hs : Src w v rows.length 1 rows.flatten) (hr : ∀ x ∈ rows, FlatOk [.int .i64] x) (hm : rows.length ≤ maxLen) (core : Int) (_ : (Lit.int .i64 core).wf = true) :
    Calls Try.prog 4 #[v, .int .i64 core] w fun e w' => e = .returned (.bool true) ∧ Below w.heap.size w w' := by
  obtain ⟨zs, hz, _⟩ := ints_of_rows hr
  rw [hz] at hs
  generalize rows.length = n at hs hm
  clear hz hr
  unfold maxLen at hm
  obtain ⟨hl, ao, c, rfl, hc⟩ := hs.ints
  have Hc := Lib.hid hc
  clear hc hl hs
  obtain ⟨t, ht, a0, a1⟩ := and_small core 3 (by decide)
  simp only [Int.reducePow, Int.reduceSub] at ht a1
  go_enter Try.func4, Try.ntmps4
  go_wp2_with fail
  refine (lock_new 8 _ (by decide) (by decide)).mono ?_
  rintro e w1 ⟨rfl, hM, hk⟩
  replace hM : LK w.heap.size w1 (w.heap.size + 1) w.heap.size 8 [] := hM
  go_wp2_with fail
  obtain ⟨b, hb⟩ : ∃ b, b = w.heap.size + 1 := ⟨_, rfl⟩
  rw [← hb] at hM ⊢
  clear hb
  go_loopw [7] (fun i wr => ∃ (k : Nat) (L : List Int), k ≤ n ∧ k ≤ 40 ∧ i = .int .i64 k ∧ LK w.heap.size wr b w.heap.size 8 L ∧ New w wr) (fun i _ => 40 - (intOf i).toNat)
  case atStart => exact ⟨0, [], by omega, by omega, rfl, hM, hk⟩
  case round =>
    clear hM hk
    obtain ⟨k, L, hkn, hk40, rfl, hM, hk⟩ := hrel
    by_cases h12 : k < n ∧ k < 40
    · obtain ⟨h1, h2⟩ := h12
      obtain ⟨ad, rfl, hcell⟩ := Hc.out k h1
      replace hcell := cell_kept hk hcell (fun h => h)
      generalize zs.getD k 0 = u at hcell
      obtain ⟨x, hx, c0, c1⟩ := and_small u 3 (by decide)
      simp only [Int.reducePow, Int.reduceSub] at hx c1
      go_wp2_with fail
      refine (enter1 _ _ _ _ _ x _ _ hM hk.size rfl).mono ?_
      rintro e w2 ⟨rfl, hM2, hk2⟩
      replace hk2 := hk.new hk2 (fun i hi => hi.1)
      clear hM hk hcell
      go_wp2_with fail
      go_roundw
      case rel => exact ⟨k + 1, _, by omega, by omega, by go_num, hM2, hk2⟩
      case measure => simp [intOf]; omega
    · have hcase : ¬ k < n ∨ (k < n ∧ ¬ k < 40) := by
        by_cases h : k < n
        · exact .inr ⟨h, fun h' => h12 ⟨h, h'⟩⟩
        · exact .inl h
      clear h12
      have hmem := enter_mem (n := 8) (L := L) a0 a1
      obtain ⟨r, hE⟩ : ∃ r, enterE 8 L t = r := ⟨_, rfl⟩
      rw [hE] at hmem
      obtain ⟨r, L1⟩ := r
      simp only at hmem
      rcases hcase with h | ⟨h, h'⟩
      all_goals
        go_wp2_with fail
        refine (enter1 _ _ _ _ _ t r _ hM hk.size hE).mono ?_
        rintro e w2 ⟨rfl, hM2, hk2⟩
        replace hk2 := hk.new hk2 (fun i hi => hi.1)
        have hp := pos_mem hmem
        have hlen := hM2.len
        clear hM hk hE hmem
        obtain ⟨p, hpp⟩ := Int.eq_ofNat_of_zero_le hp.1
        have hp7 : p ≤ 7 := by omega
        clear hp hlen
        go_wp2_with fail
        refine (ahead1 _ _ _ _ t p _ hM2 hpp).mono ?_
        rintro e w3 ⟨rfl, hk3⟩
        have hM3 := hM2.same hk3
        replace hk3 := hk2.trans hk3
        clear hM2 hk2
        have Hp : Hid (pos t L1 = ((p - 0 : Nat) : Int)) := hpp
        clear hpp
        go_wp2_with fail
        go_loopw [10] (fun i wr => ∃ (q : Nat) (L : List Int), q ≤ p ∧ i = .int .i64 q ∧ LK w.heap.size wr b w.heap.size 8 L ∧ Hid (pos t L = ((p - q : Nat) : Int)) ∧ New w wr) (fun i _ => p - (intOf i).toNat)
        case atStart => exact ⟨0, _, by omega, rfl, hM3, Hp, hk3⟩
        case round =>
          clear hM3 hk3 Hp
          obtain ⟨q, L2, hq, rfl, hM, Hp, hk⟩ := hrel
          by_cases hqp : q < p
          · obtain ⟨d, hd⟩ : ∃ d : Nat, d = p - 1 - q := ⟨_, rfl⟩
            obtain ⟨p1, hp1⟩ : ∃ p1 : Nat, p1 = p - 1 := ⟨_, rfl⟩
            have hw1 : IntKind.i64.wrap ((p : Int) - 1) = (p1 : Int) := by rw [IntKind.wrap_i64]; omega
            have hw2 : IntKind.i64.wrap ((p1 : Int) - (q : Int)) = (d : Int) := by rw [IntKind.wrap_i64]; omega
            have hpos := Hp.out
            have hnd := hM.nodup
            have hcr := hM.core
            cases L2 with
            | nil => simp [pos] at hpos
            | cons a l =>
              obtain ⟨hne, hpl⟩ := pos_cons_ne (q := d) (by rw [hpos]; omega)
              obtain ⟨hca0, hca1⟩ := hcr a (by simp)
              have hnm : a ∉ l := (List.nodup_cons.1 hnd).1
              have hA : pos t (l ++ [a]) = (d : Int) := by rw [pos_append (by omega)]; exact hpl
              have Hd : Hid (d = p - (q + 1)) := by show d = p - (q + 1); omega
              clear hpos hpl hnd hcr hd hp1
              go_wp2_with fail
              refine (holder1 _ _ _ _ _ _ _ hM rfl).mono ?_
              rintro e w4 ⟨rfl, rfl⟩
              go_wp2_with fail
              refine (leave1 _ _ _ _ l a 0 _ hM (by rw [leaveE, if_neg (fun h => h ⟨hca0, hca1⟩), if_pos (by simp)]; rfl)).mono ?_
              rintro e w4 ⟨rfl, hM4, hk4⟩
              replace hk4 := hk.new hk4 (fun i hi => hi.1)
              clear hM hk
              go_wp2_with fail
              refine (enter1 _ _ _ _ (l ++ [a]) a 0 _ hM4 hk4.size (by rw [enterE, if_neg (fun h => h ⟨hca0, hca1⟩), if_neg hnm])).mono ?_
              rintro e w5 ⟨rfl, hM5, hk5⟩
              replace hk5 := hk4.new hk5 (fun i hi => hi.1)
              clear hM4 hk4
              go_wp2_with fail
              refine (ahead1 _ _ _ _ t d _ hM5 hA).mono ?_
              rintro e w6 ⟨rfl, hk6⟩
              have hM6 := hM5.same hk6
              replace hk6 := hk5.trans hk6
              have Hp' : Hid (pos t (l ++ [a]) = ((p - (q + 1) : Nat) : Int)) := by show _ = _; rw [hA, ← Hd.out]
              clear hM5 hk5 hA
              go_wp2_with fail
              go_roundw
              case rel => exact ⟨q + 1, _, by omega, by go_num, hM6, Hp', hk6⟩
              case measure => simp [intOf]; omega
          · have hpos := Hp.out
            have hh := pos_zero (x := t) (l := L2) (by rw [hpos]; omega)
            have hmm : t ∈ L2 := List.mem_of_head? hh
            clear hpos
            go_wp2_with fail
            refine (probe1 _ _ _ _ t 0 true _ hM (by rw [probeE, if_neg (fun h => h ⟨a0, a1⟩), if_pos hmm]; simp [hh])).mono ?_
            rintro e w4 ⟨rfl, rfl⟩
            go_wp2_with fail
            refine (fixed_any _).mono ?_
            rintro e wf ⟨rfl, hkf⟩
            go_wp2
            go_ret
            exact ⟨rfl, none_below (hk.trans hkf)⟩
end Go.Proofs.Ytbnjfkfmkbijnaa

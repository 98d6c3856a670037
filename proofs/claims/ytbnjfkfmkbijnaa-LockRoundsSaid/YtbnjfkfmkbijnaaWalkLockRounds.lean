/- The walk of the law LockRounds. -/
import Derived.Test.YtbnjfkfmkbijnaaLockE
set_option linter.all false
namespace Go.Proofs.Ytbnjfkfmkbijnaa
open Go.RowKit

/-- m cores, one behind the other round the ring of n, from s on. -/
def rot (n s m : Nat) : List Int := (List.range m).map fun j => (((s + j) % n : Nat) : Int)
theorem rot_len (n s m : Nat) : (rot n s m).length = m := by simp [rot]
theorem rot_not {n s m : Nat} (hm : m < n) : (((s + m) % n : Nat) : Int) ∉ rot n s m := by
  intro h
  obtain ⟨j, hj, he⟩ := List.mem_map.1 h
  have hj' : j < m := by simpa using hj
  have he' : (s + m) % n = (s + j) % n := by exact_mod_cast he.symm
  have h1 := Nat.sub_mod_eq_zero_of_mod_eq he'
  rw [show s + m - (s + j) = m - j by omega, Nat.mod_eq_of_lt (by omega)] at h1
  omega
theorem rot_enter {n s m : Nat} (hm : m < n) : enterE n (rot n s m) (((s + m) % n : Nat) : Int) = (0, rot n s (m + 1)) := by
  have h1 : (s + m) % n < n := Nat.mod_lt _ (by omega)
  rw [enterE, if_neg (fun h => h ⟨Int.natCast_nonneg _, Int.ofNat_lt.2 h1⟩), if_neg (rot_not hm)]
  simp [rot, List.range_succ]
theorem rot_head {n s m : Nat} (hm : 0 < m) : rot n s m = ((s % n : Nat) : Int) :: rot n (s + 1) (m - 1) := by
  obtain ⟨m, rfl⟩ : ∃ k, m = k + 1 := ⟨m - 1, by omega⟩
  rw [rot, List.range_succ_eq_map]
  simp only [List.map_cons, Nat.add_zero, Nat.add_sub_cancel, rot, List.map_map]
  congr 1
  apply List.map_congr_left
  intro j _
  show (((s + (j + 1)) % n : Nat) : Int) = _
  rw [show s + (j + 1) = s + 1 + j by omega]
theorem rot_leave {n s m : Nat} (hm : 0 < m) (hn : 0 < n) : leaveE n (rot n s m) ((s % n : Nat) : Int) = (0, rot n (s + 1) (m - 1)) := by
  have h1 : s % n < n := Nat.mod_lt _ hn
  rw [rot_head hm, leaveE, if_neg (fun h => h ⟨Int.natCast_nonneg _, Int.ofNat_lt.2 h1⟩), if_pos (by simp)]
  rfl
theorem rot_again {n s : Nat} (hn : 0 < n) : enterE n (rot n (s + 1) (n - 1)) ((s % n : Nat) : Int) = (0, rot n (s + 1) n) := by
  have := rot_enter (n := n) (s := s + 1) (m := n - 1) (by omega)
  rw [show s + 1 + (n - 1) = s + n by omega, Nat.add_mod_right, show n - 1 + 1 = n by omega] at this
  exact this

set_option maxRecDepth 100000 in
set_option maxHeartbeats 4000000 in
theorem walkLockRounds (w : World) (cores : Int) (_ : (Lit.int .i64 cores).wf = true) (first : Int) (_ : (Lit.int .i64 first).wf = true) :
    Calls Try.prog 6 #[.int .i64 cores, .int .i64 first] w fun e w' => e = .returned (.bool true) ∧ Below w.heap.size w w' := by
  obtain ⟨m, hm, a0, a1⟩ := and_small cores 3 (by decide)
  obtain ⟨l, hl, b0, b1⟩ := and_small first 16 (by decide)
  simp only [Int.reducePow, Int.reduceSub] at hm a1 hl b1
  obtain ⟨m, rfl⟩ := Int.eq_ofNat_of_zero_le a0
  obtain ⟨l, rfl⟩ := Int.eq_ofNat_of_zero_le b0
  obtain ⟨n, hn⟩ : ∃ n : Nat, n = 1 + m := ⟨_, rfl⟩
  have hw1 : IntKind.i64.wrap (1 + (m : Int)) = (n : Int) := by rw [IntKind.wrap_i64]; omega
  have hn1 : 1 ≤ n := by omega
  have hn2 : n ≤ 8 := by omega
  clear hn
  obtain ⟨k, hk⟩ : ∃ k, k = l % n := ⟨_, rfl⟩
  have hkn : k < n := by rw [hk]; exact Nat.mod_lt _ (by omega)
  have hrem : Int.tmod (l : Int) (n : Int) = (k : Int) := by rw [hk]; rfl
  have hw3 : IntKind.i64.wrap (k : Int) = (k : Int) := by rw [IntKind.wrap_i64]; omega
  have hnz : ¬ (n : Int) = 0 := by omega
  clear hk
  go_enter Try.func6, Try.ntmps6
  go_wp2_with fail
  refine (lock_new n _ (by omega) (by omega)).mono ?_
  rintro e w1 ⟨rfl, hM, hk⟩
  rw [Int.toNat_natCast] at hM
  go_wp2_with fail
  obtain ⟨b, hb⟩ : ∃ b, b = w.heap.size + 1 := ⟨_, rfl⟩
  rw [← hb] at hM ⊢
  clear hb
  go_loopw [9] (fun i wr => ∃ j : Nat, j ≤ n ∧ i = .int .i64 j ∧ LK w.heap.size wr b w.heap.size n (rot n k j) ∧ New w wr) (fun i _ => n - (intOf i).toNat)
  case atStart => exact ⟨0, by omega, rfl, hM, hk⟩
  case round =>
    clear hM hk hw1 hrem hw3 hm hl
    obtain ⟨j, hj, rfl, hM, hk⟩ := hrel
    by_cases h1 : j < n
    · obtain ⟨t, ht⟩ : ∃ t, t = k + j := ⟨_, rfl⟩
      obtain ⟨u, hu⟩ : ∃ u, u = t % n := ⟨_, rfl⟩
      have hw4 : IntKind.i64.wrap ((k : Int) + (j : Int)) = (t : Int) := by rw [IntKind.wrap_i64]; omega
      have hrem4 : Int.tmod (t : Int) (n : Int) = (u : Int) := by rw [hu]; rfl
      have hun : u < n := by rw [hu]; exact Nat.mod_lt _ (by omega)
      have hw5 : IntKind.i64.wrap (u : Int) = (u : Int) := by rw [IntKind.wrap_i64]; omega
      have hE := rot_enter (s := k) h1
      rw [← ht, ← hu] at hE
      clear ht hu
      go_wp2_with fail
      refine (enter1 _ _ _ _ _ u 0 _ hM hk.size hE).mono ?_
      rintro e w2 ⟨rfl, hM2, hk2⟩
      replace hk2 := hk.new hk2 (fun i hi => hi.1)
      clear hM hk hw4 hrem4 hw5 hE
      go_wp2_with fail
      go_roundw
      case rel => exact ⟨j + 1, by omega, by go_num, hM2, hk2⟩
      case measure => simp [intOf]; omega
    · obtain rfl : j = n := by omega
      clear hj h1
      go_wp2_with fail
      go_loopw [10] (fun i wr => ∃ q : Nat, q ≤ 60 ∧ i = .int .i64 q ∧ LK w.heap.size wr b w.heap.size j (rot j (k + q) j) ∧ New w wr) (fun i _ => 60 - (intOf i).toNat)
      case atStart => exact ⟨0, by omega, rfl, hM, hk⟩
      case round =>
        clear hM hk
        obtain ⟨q, hq, rfl, hM, hk⟩ := hrel
        by_cases h1 : q < 60
        · obtain ⟨t, ht⟩ : ∃ t, t = k + q := ⟨_, rfl⟩
          obtain ⟨u, hu⟩ : ∃ u, u = t % j := ⟨_, rfl⟩
          have hw4 : IntKind.i64.wrap ((k : Int) + (q : Int)) = (t : Int) := by rw [IntKind.wrap_i64]; omega
          have hrem4 : Int.tmod (t : Int) (j : Int) = (u : Int) := by rw [hu]; rfl
          have hun : u < j := by rw [hu]; exact Nat.mod_lt _ (by omega)
          have hw5 : IntKind.i64.wrap (u : Int) = (u : Int) := by rw [IntKind.wrap_i64]; omega
          have hL := rot_leave (n := j) (s := t) (m := j) (by omega) (by omega)
          have hA := rot_again (n := j) (s := t) (by omega)
          have hH : holderE (rot j t j) = ((u : Int), true) := by rw [rot_head (by omega), ← hu]; rfl
          rw [← hu] at hL hA
          have Ht : Hid (t + 1 = k + (q + 1)) := by show t + 1 = k + (q + 1); omega
          rw [← ht] at hM
          clear ht hu
          have h60 : (q : Int) < 60 := by omega
          go_wp2_with fail
          refine (holder1 _ _ _ _ _ _ _ hM hH).mono ?_
          rintro e w2 ⟨rfl, rfl⟩
          go_wp2_with fail
          refine (leave1 _ _ _ _ _ u 0 _ hM hL).mono ?_
          rintro e w2 ⟨rfl, hM2, hk2⟩
          replace hk2 := hk.new hk2 (fun i hi => hi.1)
          clear hM hk hL hH hw4 hrem4 hw5
          go_wp2_with fail
          refine (enter1 _ _ _ _ _ u 0 _ hM2 hk2.size hA).mono ?_
          rintro e w3 ⟨rfl, hM3, hk3⟩
          replace hk3 := hk2.new hk3 (fun i hi => hi.1)
          clear hM2 hk2 hA
          go_wp2_with fail
          refine (lock_line _ _ _ _ _ hM3).mono ?_
          rintro e w4 ⟨v, rfl, hown, hk4⟩
          have hM4 := hM3.same hk4
          replace hk4 := hk3.trans hk4
          rw [rot_len] at hown
          obtain ⟨_, ao, c, rfl, _⟩ := (Src.of_own hown).ints
          clear hM3 hk3 hown
          go_wp2_with fail
          go_roundw
          case rel => exact ⟨q + 1, by omega, by go_num, by rw [← Ht.out]; exact hM4, hk4⟩
          case measure => simp [intOf]; omega
        · have h60 : ¬ ((q : Int) < 60) := by omega
          go_wp2_with fail
          refine (fixed_any _).mono ?_
          rintro e wf ⟨rfl, hkf⟩
          go_wp2
          go_ret
          exact ⟨rfl, none_below (hk.trans hkf)⟩
end Go.Proofs.Ytbnjfkfmkbijnaa

/- The walk of the law LockOne. -/
import Derived.Test.YtbnjfkfmkbijnaaLockF
set_option linter.all false
namespace Go.Proofs.Ytbnjfkfmkbijnaa
open Go.RowKit

/-- How many of the first q cores hold the lock. -/
def holdsN (L : List Int) (q : Nat) : Int := match L with | [] => 0 | a :: _ => if a < q then 1 else 0
theorem holdsN_zero {L : List Int} {n : Nat} (h : ∀ x ∈ L, 0 ≤ x ∧ x < n) : holdsN L 0 = 0 := by
  cases L with
  | nil => rfl
  | cons a l => have := h a (by simp); rw [holdsN, if_neg (by simp; omega)]
theorem holdsN_hit {L : List Int} {q : Nat} (h : L.head? = some (q : Int)) : holdsN L q = 0 ∧ holdsN L (q + 1) = 1 := by
  cases L with
  | nil => simp at h
  | cons a l => simp at h; subst h; exact ⟨by simp [holdsN], by simp [holdsN]; omega⟩
theorem holdsN_miss {L : List Int} {q : Nat} (h : ¬ L.head? = some (q : Int)) : holdsN L (q + 1) = holdsN L q := by
  cases L with
  | nil => rfl
  | cons a l =>
    simp at h
    simp only [holdsN]
    by_cases h1 : a < (q : Int)
    · rw [if_pos h1, if_pos (by simp; omega)]
    · rw [if_neg h1, if_neg (by simp; omega)]
theorem holdsN_all {L : List Int} {n : Nat} (h : ∀ x ∈ L, 0 ≤ x ∧ x < n) : (L = [] → holdsN L n = 0) ∧ (L ≠ [] → holdsN L n = 1) := by
  cases L with
  | nil => exact ⟨fun _ => rfl, fun h => (h rfl).elim⟩
  | cons a l => have := h a (by simp); exact ⟨by simp, fun _ => by rw [holdsN, if_pos (by omega)]⟩

set_option maxRecDepth 100000 in
set_option maxHeartbeats 8000000 in
theorem walkLockOne (w : World) (cores : Int) (_ : (Lit.int .i64 cores).wf = true) (v : Value) (rows : List (List Value)) (hs : Src w v rows.length 2 rows.flatten) (hr : ∀ x ∈ rows, FlatOk [.int .i64, .int .i64] x) (hm : rows.length ≤ maxLen) :
    Calls Try.prog 3 #[.int .i64 cores, v] w fun e w' => e = .returned (.bool true) ∧ Below w.heap.size w w' := by
  unfold maxLen at hm
  obtain ⟨ao, c, rfl, hc⟩ := hs.rows rfl rfl hr (by decide)
  have Hc := Lib.hid hc
  clear hc hs
  generalize rows.length = len at *
  obtain ⟨m, hmm, a0, a1⟩ := and_small cores 3 (by decide)
  simp only [Int.reducePow, Int.reduceSub] at hmm a1
  obtain ⟨m, rfl⟩ := Int.eq_ofNat_of_zero_le a0
  obtain ⟨n, hn⟩ : ∃ n : Nat, n = 1 + m := ⟨_, rfl⟩
  have hw1 : IntKind.i64.wrap (1 + (m : Int)) = (n : Int) := by rw [IntKind.wrap_i64]; omega
  have hn1 : 1 ≤ n := by omega
  have hn2 : n ≤ 8 := by omega
  clear hn
  obtain ⟨i0, hi0, hz0, hz1, hz2⟩ := info_parts info3
  go_enter Try.func3, Try.ntmps3
  go_wp2_with fail
  refine (lock_new n _ (by omega) (by omega)).mono ?_
  rintro e w1 ⟨rfl, hM, hk⟩
  rw [Int.toNat_natCast] at hM
  go_wp2_with fail
  obtain ⟨b, hb⟩ : ∃ b, b = w.heap.size + 1 := ⟨_, rfl⟩
  rw [← hb] at hM ⊢
  clear hb hmm hw1
  have hsz1 := hk.size
  have hE0 : ((w1.alloc (.cells #[] 3)).alloc (.cells #[] 3)).ownsRow w.heap.size 3 1 (.slice (some ⟨w1.heap.size, 0, none⟩) 0 0) 0 (([] : List Int).map (Value.int .i64)) := own_same (World.ownsRow_made w1 #[] 0 hsz1 (by unfold maxLen; omega) rfl) ((Kept.refl _ _).alloc _)
  have hH0 : ((w1.alloc (.cells #[] 3)).alloc (.cells #[] 3)).ownsRow w.heap.size 3 1 (.slice (some ⟨w1.heap.size + 1, 0, none⟩) 0 0) 0 (([] : List Int).map (Value.int .i64)) := by
    have := World.ownsRow_made (base := w.heap.size) (e := 3) (size := 1) (w1.alloc (.cells #[] 3)) #[] 0 (by simp; omega) (by unfold maxLen; omega) rfl
    simpa using this
  go_loopw [8, 9, 10] (fun se sh i wr => ∃ (j : Nat) (ve vh : Value) (xe xh L : List Int), j ≤ len ∧ j ≤ 100 ∧ ve = se ∧ vh = sh ∧ i = .int .i64 j ∧ LK w.heap.size wr b w.heap.size n L ∧ wr.ownsRow w.heap.size 3 1 ve xe.length (xe.map (Value.int .i64)) ∧ wr.ownsRow w.heap.size 3 1 vh xh.length (xh.map (Value.int .i64)) ∧
    Hid (xe.length ≤ j ∧ xe = xh ++ L) ∧ Hid (∀ k, ve.ownBlock = some k → vh.ownBlock ≠ some k) ∧ New w wr) (fun _ _ i _ => 100 - (intOf i).toNat)
  case atStart => exact ⟨0, _, _, [], [], [], by omega, by omega, rfl, rfl, rfl, (hM.alloc _).alloc _, hE0, hH0, ⟨by simp, rfl⟩, (by intro k h1 h2; simp [Value.ownBlock] at h1 h2; omega), (hk.alloc _).alloc _⟩
  case round =>
    clear hM hE0 hH0 hk hsz1
    obtain ⟨j, ve, vh, xe, xh, L, hjl, hj100, rfl, rfl, rfl, hM, hE, hH, Hx, Hd, hk⟩ := hrel
    by_cases h1 : j < len
    · by_cases h2 : j < 100
      · have h2z : (j : Int) < 100 := by omega
        obtain ⟨B, O, x, rfl, hx, _, hcell⟩ := Hc.out j h1
        obtain ⟨kind, _, rfl, wk, hx⟩ := hx.int
        obtain ⟨core, _, rfl, wc, hx⟩ := hx.int
        obtain rfl := hx.nil
        have e0 := hcell 0 (.int .i64 kind) rfl
        have e1 := hcell 1 (.int .i64 core) rfl
        clear hcell hx
        simp only [Nat.add_zero] at e0
        replace e0 := cell_kept hk e0 (fun h => h)
        replace e1 := cell_kept hk e1 (fun h => h)
        by_cases hkind : kind = 2
        · subst hkind
          by_cases hhd : L.head? = some core
          · obtain ⟨l, rfl⟩ : ∃ l, L = core :: l := by
              cases L with
              | nil => simp at hhd
              | cons a l => simp at hhd; subst hhd; exact ⟨l, rfl⟩
            have hcc := hM.core core (by simp)
            go_wp2_with fail
            refine (holder1 _ _ _ _ core true _ (hM.alloc _) rfl).mono ?_
            rintro e w3 ⟨rfl, rfl⟩
            go_wp2_with fail
            refine (leave1 _ _ _ _ l core 0 _ (hM.alloc _) (by rw [leaveE, if_neg (fun h => h hcc), if_pos (by simp)]; rfl)).mono ?_
            rintro e w4 ⟨rfl, hM4, hk3⟩
            have hB4 : w4.heap[wr.heap.size]? = some (.cells #[.int .i64 2, .int .i64 core] 29 (0, 0)) := hk3.heap (heap_alloc_new _ _) (fun h => not_lt (heap_alloc_new wr _) (by decide) (by decide) (by decide) h.2)
            have c1 : w4.cell? ⟨wr.heap.size, 1, none⟩ = some (.int .i64 core) := cell_blk hB4 1
            clear hB4
            have hE4 := own_kept (own_same hE ((Kept.refl _ _).alloc _)) hk3 (fun i hi hF => own_not_lt (own_same hE ((Kept.refl _ _).alloc _)) hi hF.2)
            have hH4 := own_kept (own_same hH ((Kept.refl _ _).alloc _)) hk3 (fun i hi hF => own_not_lt (own_same hH ((Kept.refl _ _).alloc _)) hi hF.2)
            have hk4 : New w w4 := (hk.alloc _).new hk3 (fun i hi => hi.1)
            clear hM hE hH hk hk3
            have hlit := Src.lit w4 #[.int .i64 core] 3 1 1 rfl
            have hA4 : (w4.alloc (.cells #[.int .i64 core] 3)).ownsRow w.heap.size 3 1 vh xh.length (xh.map (Value.int .i64)) := own_same hH4 ((Kept.refl _ _).alloc _)
            have hB4 : (w4.alloc (.cells #[.int .i64 core] 3)).ownsRow w.heap.size 3 1 ve xe.length (xe.map (Value.int .i64)) := own_same hE4 ((Kept.refl _ _).alloc _)
            have hl1 : xh.length ≤ 100 := by
              have h5 := Hx.out.1
              have h6 := congrArg List.length Hx.out.2
              simp only [List.length_append] at h6
              omega
            have hs4 := hk4.size
            go_wp2_with (at_builtin; refine wpList_append_src2 rfl _ _ 27 rfl w.heap.size 3 i0 _ 1 8 Try.underlying27 hi0 hz0 hz1 hz2 rfl (by decide) vh xh.length _ rfl hA4 _ 1 _ rfl hlit (by simp [Value.oneCell']) (by unfold maxLen; omega) (by omega) (by simp; omega) ?_; intro v' w5 hown' hgr hid; have hkg := Kept.of_grown hgr; have hM5 := (hM4.alloc (.cells #[.int .i64 core] 3)).kept3 hkg (fun i hi => (own_type hA4 hi).elim fun c hc => ⟨c, 3, hc, by decide, by decide, by decide⟩); have hN5 := own_kept hB4 hkg (fun i hi hF => Hd.out i hi hF); have hk5 : New w w5 := (hk4.alloc _).new hkg (fun i hi => own_block hA4 hi); have hown5 : w5.ownsRow w.heap.size 3 1 v' (xh ++ [core]).length ((xh ++ [core]).map (Value.int .i64)) := by { rw [List.length_append, List.map_append]; exact hown' }; have hvd := (fun (i : Nat) (hi : ve.ownBlock = some i) (hF : v'.ownBlock = some i) => (hid i hF).elim (fun h => Hd.out i hi h) (fun h => by have := own_size hE4 hi; simp at h; omega)); clear hkg hgr hown' hA4 hB4 hlit hl1)
            have Hlen : Hid (xe.length ≤ j + 1 ∧ xe = (xh ++ [core]) ++ l) := ⟨by have := Hx.out.1; omega, by rw [Hx.out.2]; simp⟩
            have Hdis : Hid (∀ k, ve.ownBlock = some k → v'.ownBlock ≠ some k) := hvd
            have hlL := hM5.len
            go_wp2_with fail
            go_loopw [14, 15] (fun s q wi => ∃ k : Nat, k ≤ n ∧ s = .int .i64 (holdsN l k) ∧ q = .int .i64 k ∧ LK w.heap.size wi b w.heap.size n l ∧ wi.ownsRow w.heap.size 3 1 ve xe.length (xe.map (Value.int .i64)) ∧ wi.ownsRow w.heap.size 3 1 v' (xh ++ [core]).length ((xh ++ [core]).map (Value.int .i64)) ∧ New w wi) (fun _ q _ => n - (intOf q).toNat)
            case atStart => exact ⟨0, by omega, by rw [holdsN_zero hM5.core], rfl, hM5, hN5, hown5, hk5⟩
            case round =>
              clear hM5 hN5 hown5 hk5 hvd hM4 hE4 hH4 hk4 Hx Hd
              obtain ⟨q, hq, rfl, rfl, hMi, hEi, hHi, hki⟩ := hrel
              by_cases hqn : q < n
              · have hqz : (q : Int) < n := by omega
                by_cases hhd : l.head? = some (q : Int)
                · have hp0 : pos (q : Int) l = 0 := pos_zero_iff.2 hhd
                  have hmem : (q : Int) ∈ l := List.mem_of_head? hhd
                  have hpr : probeE n l (q : Int) = (true, 0) := by rw [probeE, if_neg (fun h => h ⟨Int.natCast_nonneg _, hqz⟩), if_pos hmem]; simp [hhd]
                  have hh0 : holdsN l q = 0 ∧ holdsN l (q + 1) = 1 := holdsN_hit hhd
                  obtain ⟨hh0, hh1⟩ := hh0
                  rw [hh0]
                  have Hh1 := Lib.hid hh1
                  clear hh1 hh0 hhd hmem
                  go_wp2_with fail
                  refine (probe1 _ _ _ _ q 0 true _ hMi hpr).mono ?_
                  rintro e w7 ⟨rfl, rfl⟩
                  go_wp2_with fail
                  refine (ahead1 _ _ _ _ q 0 _ hMi hp0).mono ?_
                  rintro e w8 ⟨rfl, hk8⟩
                  have hM8 := hMi.same hk8
                  have hE8 := own_same hEi hk8
                  have hH8 := own_same hHi hk8
                  replace hk8 := hki.trans hk8
                  clear hMi hEi hHi hki hpr hp0
                  go_wp2_with fail
                  go_roundw
                  case rel => exact ⟨q + 1, by omega, by rw [Hh1.out], by go_num, hM8, hE8, hH8, hk8⟩
                  case measure => simp [intOf]; omega
                · obtain ⟨r, hpr⟩ : ∃ r, probeE n l (q : Int) = (false, r) := by
                    rw [probeE, if_neg (fun h => h ⟨Int.natCast_nonneg _, hqz⟩)]
                    split
                    · exact ⟨0, by rw [decide_eq_false hhd]⟩
                    · exact ⟨_, rfl⟩
                  obtain ⟨p, hp⟩ : ∃ p, pos (q : Int) l = p := ⟨_, rfl⟩
                  have hp0 : ¬ p = 0 := by rw [← hp]; exact fun h => hhd (pos_zero_iff.1 h)
                  have hh1 : holdsN l (q + 1) = holdsN l q := holdsN_miss hhd
                  generalize holdsN l q = hq0 at hh1
                  have Hh1 := Lib.hid hh1
                  clear hh1 hhd
                  go_wp2_with fail
                  refine (probe1 _ _ _ _ q r false _ hMi hpr).mono ?_
                  rintro e w7 ⟨rfl, rfl⟩
                  go_wp2_with fail
                  refine (ahead1 _ _ _ _ q p _ hMi hp).mono ?_
                  rintro e w8 ⟨rfl, hk8⟩
                  have hM8 := hMi.same hk8
                  have hE8 := own_same hEi hk8
                  have hH8 := own_same hHi hk8
                  replace hk8 := hki.trans hk8
                  clear hMi hEi hHi hki hpr hp
                  go_wp2_with fail
                  go_roundw
                  case rel => exact ⟨q + 1, by omega, by rw [Hh1.out], by go_num, hM8, hE8, hH8, hk8⟩
                  case measure => simp [intOf]; omega
              · obtain rfl : q = n := by omega
                obtain ⟨hs1, hs2⟩ := holdsN_all hMi.core
                generalize hso : holdsN l q = so at hs1 hs2
                clear hso
                cases hLc : l with
                | nil =>
                  obtain rfl : so = 0 := hs1 hLc
                  have hMi' := hMi
                  rw [hLc] at hMi'
                  go_wp2_with fail
                  refine (lock_line _ _ _ _ _ hMi').mono ?_
                  rintro e w8 ⟨v8, rfl, hown8, hk8⟩
                  obtain ⟨_, ao8, c8, rfl, _⟩ := (Src.of_own hown8).ints
                  have hM8 := hMi.same hk8
                  have hE8 := own_same hEi hk8
                  have hH8 := own_same hHi hk8
                  replace hk8 := hki.trans hk8
                  clear hMi hMi' hEi hHi hki hown8 hLc hs1 hs2
                  go_wp2_with fail
                  go_roundw
                  case rel => exact ⟨j + 1, ve, v', xe, (xh ++ [core]), l, by omega, by omega, rfl, rfl, by go_num, hM8, hE8, hH8, Hlen, Hdis, hk8⟩
                  case measure => simp [intOf]; omega
                | cons a8 l8 =>
                  obtain rfl : so = 1 := hs2 (by rw [hLc]; simp)
                  have hMi' := hMi
                  rw [hLc] at hMi'
                  go_wp2_with fail
                  refine (lock_line _ _ _ _ _ hMi').mono ?_
                  rintro e w8 ⟨v8, rfl, hown8, hk8⟩
                  rw [List.length_cons] at hown8
                  obtain ⟨_, ao8, c8, rfl, _⟩ := (Src.of_own hown8).ints
                  have hM8 := hMi.same hk8
                  have hE8 := own_same hEi hk8
                  have hH8 := own_same hHi hk8
                  replace hk8 := hki.trans hk8
                  clear hMi hMi' hEi hHi hki hown8 hLc hs1 hs2
                  go_wp2_with fail
                  go_roundw
                  case rel => exact ⟨j + 1, ve, v', xe, (xh ++ [core]), l, by omega, by omega, rfl, rfl, by go_num, hM8, hE8, hH8, Hlen, Hdis, hk8⟩
                  case measure => simp [intOf]; omega
          · obtain ⟨r, hlv, hr0⟩ : ∃ r, leaveE n L core = (r, L) ∧ ¬ r = 0 := by
              by_cases hin : 0 ≤ core ∧ core < n
              · exact ⟨161, by rw [leaveE, if_neg (fun h => h hin), if_neg hhd], by decide⟩
              · exact ⟨1, by rw [leaveE, if_pos hin], by decide⟩
            have hrb : (r == 0) = false := by simpa using hr0
            obtain ⟨hr1, hr2, hho⟩ : ∃ hr1 hr2, holderE L = (hr1, hr2) := ⟨_, _, rfl⟩
            go_wp2_with fail
            refine (holder1 _ _ _ _ hr1 hr2 _ (hM.alloc _) hho).mono ?_
            rintro e w3 ⟨rfl, rfl⟩
            go_wp2_with fail
            refine (leave1 _ _ _ _ L core r _ (hM.alloc _) hlv).mono ?_
            rintro e w4 ⟨rfl, hM4, hk3⟩
            have hE4 := own_kept (own_same hE ((Kept.refl _ _).alloc _)) hk3 (fun i hi hF => own_not_lt (own_same hE ((Kept.refl _ _).alloc _)) hi hF.2)
            have hH4 := own_kept (own_same hH ((Kept.refl _ _).alloc _)) hk3 (fun i hi hF => own_not_lt (own_same hH ((Kept.refl _ _).alloc _)) hi hF.2)
            have hk4 : New w w4 := (hk.alloc _).new hk3 (fun i hi => hi.1)
            clear hM hE hH hk hk3
            have Hlen : Hid (xe.length ≤ j + 1 ∧ xe = xh ++ L) := ⟨by have := Hx.out.1; omega, Hx.out.2⟩
            have Hdis : Hid (∀ k, ve.ownBlock = some k → vh.ownBlock ≠ some k) := Hd.out
            have hlL := hM4.len
            go_wp2_with fail
            go_loopw [14, 15] (fun s q wi => ∃ k : Nat, k ≤ n ∧ s = .int .i64 (holdsN L k) ∧ q = .int .i64 k ∧ LK w.heap.size wi b w.heap.size n L ∧ wi.ownsRow w.heap.size 3 1 ve xe.length (xe.map (Value.int .i64)) ∧ wi.ownsRow w.heap.size 3 1 vh xh.length (xh.map (Value.int .i64)) ∧ New w wi) (fun _ q _ => n - (intOf q).toNat)
            case atStart => exact ⟨0, by omega, by rw [holdsN_zero hM4.core], rfl, hM4, hE4, hH4, hk4⟩
            case round =>
              clear hM4 hE4 hH4 hk4 Hx Hd
              obtain ⟨q, hq, rfl, rfl, hMi, hEi, hHi, hki⟩ := hrel
              by_cases hqn : q < n
              · have hqz : (q : Int) < n := by omega
                by_cases hhd : L.head? = some (q : Int)
                · have hp0 : pos (q : Int) L = 0 := pos_zero_iff.2 hhd
                  have hmem : (q : Int) ∈ L := List.mem_of_head? hhd
                  have hpr : probeE n L (q : Int) = (true, 0) := by rw [probeE, if_neg (fun h => h ⟨Int.natCast_nonneg _, hqz⟩), if_pos hmem]; simp [hhd]
                  have hh0 : holdsN L q = 0 ∧ holdsN L (q + 1) = 1 := holdsN_hit hhd
                  obtain ⟨hh0, hh1⟩ := hh0
                  rw [hh0]
                  have Hh1 := Lib.hid hh1
                  clear hh1 hh0 hhd hmem
                  go_wp2_with fail
                  refine (probe1 _ _ _ _ q 0 true _ hMi hpr).mono ?_
                  rintro e w7 ⟨rfl, rfl⟩
                  go_wp2_with fail
                  refine (ahead1 _ _ _ _ q 0 _ hMi hp0).mono ?_
                  rintro e w8 ⟨rfl, hk8⟩
                  have hM8 := hMi.same hk8
                  have hE8 := own_same hEi hk8
                  have hH8 := own_same hHi hk8
                  replace hk8 := hki.trans hk8
                  clear hMi hEi hHi hki hpr hp0
                  go_wp2_with fail
                  go_roundw
                  case rel => exact ⟨q + 1, by omega, by rw [Hh1.out], by go_num, hM8, hE8, hH8, hk8⟩
                  case measure => simp [intOf]; omega
                · obtain ⟨r, hpr⟩ : ∃ r, probeE n L (q : Int) = (false, r) := by
                    rw [probeE, if_neg (fun h => h ⟨Int.natCast_nonneg _, hqz⟩)]
                    split
                    · exact ⟨0, by rw [decide_eq_false hhd]⟩
                    · exact ⟨_, rfl⟩
                  obtain ⟨p, hp⟩ : ∃ p, pos (q : Int) L = p := ⟨_, rfl⟩
                  have hp0 : ¬ p = 0 := by rw [← hp]; exact fun h => hhd (pos_zero_iff.1 h)
                  have hh1 : holdsN L (q + 1) = holdsN L q := holdsN_miss hhd
                  generalize holdsN L q = hq0 at hh1
                  have Hh1 := Lib.hid hh1
                  clear hh1 hhd
                  go_wp2_with fail
                  refine (probe1 _ _ _ _ q r false _ hMi hpr).mono ?_
                  rintro e w7 ⟨rfl, rfl⟩
                  go_wp2_with fail
                  refine (ahead1 _ _ _ _ q p _ hMi hp).mono ?_
                  rintro e w8 ⟨rfl, hk8⟩
                  have hM8 := hMi.same hk8
                  have hE8 := own_same hEi hk8
                  have hH8 := own_same hHi hk8
                  replace hk8 := hki.trans hk8
                  clear hMi hEi hHi hki hpr hp
                  go_wp2_with fail
                  go_roundw
                  case rel => exact ⟨q + 1, by omega, by rw [Hh1.out], by go_num, hM8, hE8, hH8, hk8⟩
                  case measure => simp [intOf]; omega
              · obtain rfl : q = n := by omega
                obtain ⟨hs1, hs2⟩ := holdsN_all hMi.core
                generalize hso : holdsN L q = so at hs1 hs2
                clear hso
                cases hLc : L with
                | nil =>
                  obtain rfl : so = 0 := hs1 hLc
                  have hMi' := hMi
                  rw [hLc] at hMi'
                  go_wp2_with fail
                  refine (lock_line _ _ _ _ _ hMi').mono ?_
                  rintro e w8 ⟨v8, rfl, hown8, hk8⟩
                  obtain ⟨_, ao8, c8, rfl, _⟩ := (Src.of_own hown8).ints
                  have hM8 := hMi.same hk8
                  have hE8 := own_same hEi hk8
                  have hH8 := own_same hHi hk8
                  replace hk8 := hki.trans hk8
                  clear hMi hMi' hEi hHi hki hown8 hLc hs1 hs2
                  go_wp2_with fail
                  go_roundw
                  case rel => exact ⟨j + 1, ve, vh, xe, xh, L, by omega, by omega, rfl, rfl, by go_num, hM8, hE8, hH8, Hlen, Hdis, hk8⟩
                  case measure => simp [intOf]; omega
                | cons a8 l8 =>
                  obtain rfl : so = 1 := hs2 (by rw [hLc]; simp)
                  have hMi' := hMi
                  rw [hLc] at hMi'
                  go_wp2_with fail
                  refine (lock_line _ _ _ _ _ hMi').mono ?_
                  rintro e w8 ⟨v8, rfl, hown8, hk8⟩
                  rw [List.length_cons] at hown8
                  obtain ⟨_, ao8, c8, rfl, _⟩ := (Src.of_own hown8).ints
                  have hM8 := hMi.same hk8
                  have hE8 := own_same hEi hk8
                  have hH8 := own_same hHi hk8
                  replace hk8 := hki.trans hk8
                  clear hMi hMi' hEi hHi hki hown8 hLc hs1 hs2
                  go_wp2_with fail
                  go_roundw
                  case rel => exact ⟨j + 1, ve, vh, xe, xh, L, by omega, by omega, rfl, rfl, by go_num, hM8, hE8, hH8, Hlen, Hdis, hk8⟩
                  case measure => simp [intOf]; omega
        · have hkf : (kind == 2) = false := by simpa using hkind
          by_cases hin : (0 ≤ core ∧ core < n) ∧ core ∉ L
          · obtain ⟨hc0, hcm⟩ := hin
            go_wp2_with fail
            refine (enter1 _ _ _ _ (L ++ [core]) core 0 _ (hM.alloc _) (hk.alloc (.cells #[.int .i64 kind, .int .i64 core] 29)).size (by rw [enterE, if_neg (fun h => h hc0), if_neg hcm])).mono ?_
            rintro e w4 ⟨rfl, hM4, hk3⟩
            have hB4 : w4.heap[wr.heap.size]? = some (.cells #[.int .i64 kind, .int .i64 core] 29 (0, 0)) := hk3.heap (heap_alloc_new _ _) (fun h => not_lt (heap_alloc_new wr _) (by decide) (by decide) (by decide) h.2)
            have c1 : w4.cell? ⟨wr.heap.size, 1, none⟩ = some (.int .i64 core) := cell_blk hB4 1
            clear hB4
            have hE4 := own_kept (own_same hE ((Kept.refl _ _).alloc _)) hk3 (fun i hi hF => own_not_lt (own_same hE ((Kept.refl _ _).alloc _)) hi hF.2)
            have hH4 := own_kept (own_same hH ((Kept.refl _ _).alloc _)) hk3 (fun i hi hF => own_not_lt (own_same hH ((Kept.refl _ _).alloc _)) hi hF.2)
            have hk4 : New w w4 := (hk.alloc _).new hk3 (fun i hi => hi.1)
            clear hM hE hH hk hk3
            have hlit := Src.lit w4 #[.int .i64 core] 3 1 1 rfl
            have hA4 : (w4.alloc (.cells #[.int .i64 core] 3)).ownsRow w.heap.size 3 1 ve xe.length (xe.map (Value.int .i64)) := own_same hE4 ((Kept.refl _ _).alloc _)
            have hB4 : (w4.alloc (.cells #[.int .i64 core] 3)).ownsRow w.heap.size 3 1 vh xh.length (xh.map (Value.int .i64)) := own_same hH4 ((Kept.refl _ _).alloc _)
            have hl1 : xe.length ≤ 100 := by
              have h5 := Hx.out.1
              have h6 := congrArg List.length Hx.out.2
              simp only [List.length_append] at h6
              omega
            have hs4 := hk4.size
            go_wp2_with (at_builtin; refine wpList_append_src2 rfl _ _ 27 rfl w.heap.size 3 i0 _ 1 8 Try.underlying27 hi0 hz0 hz1 hz2 rfl (by decide) ve xe.length _ rfl hA4 _ 1 _ rfl hlit (by simp [Value.oneCell']) (by unfold maxLen; omega) (by omega) (by simp; omega) ?_; intro v' w5 hown' hgr hid; have hkg := Kept.of_grown hgr; have hM5 := (hM4.alloc (.cells #[.int .i64 core] 3)).kept3 hkg (fun i hi => (own_type hA4 hi).elim fun c hc => ⟨c, 3, hc, by decide, by decide, by decide⟩); have hN5 := own_kept hB4 hkg (fun i hi hF => Hd.out i hF hi); have hk5 : New w w5 := (hk4.alloc _).new hkg (fun i hi => own_block hA4 hi); have hown5 : w5.ownsRow w.heap.size 3 1 v' (xe ++ [core]).length ((xe ++ [core]).map (Value.int .i64)) := by { rw [List.length_append, List.map_append]; exact hown' }; have hvd := (fun (i : Nat) (hi : v'.ownBlock = some i) (hF : vh.ownBlock = some i) => (hid i hi).elim (fun h => Hd.out i h hF) (fun h => by have := own_size hH4 hF; simp at h; omega)); clear hkg hgr hown' hA4 hB4 hlit hl1)
            have Hlen : Hid ((xe ++ [core]).length ≤ j + 1 ∧ (xe ++ [core]) = xh ++ (L ++ [core])) := ⟨by have := Hx.out.1; simp; omega, by rw [Hx.out.2]; simp⟩
            have Hdis : Hid (∀ k, v'.ownBlock = some k → vh.ownBlock ≠ some k) := hvd
            have hlL := hM5.len
            go_wp2_with fail
            go_loopw [14, 15] (fun s q wi => ∃ k : Nat, k ≤ n ∧ s = .int .i64 (holdsN (L ++ [core]) k) ∧ q = .int .i64 k ∧ LK w.heap.size wi b w.heap.size n (L ++ [core]) ∧ wi.ownsRow w.heap.size 3 1 v' (xe ++ [core]).length ((xe ++ [core]).map (Value.int .i64)) ∧ wi.ownsRow w.heap.size 3 1 vh xh.length (xh.map (Value.int .i64)) ∧ New w wi) (fun _ q _ => n - (intOf q).toNat)
            case atStart => exact ⟨0, by omega, by rw [holdsN_zero hM5.core], rfl, hM5, hown5, hN5, hk5⟩
            case round =>
              clear hM5 hN5 hown5 hk5 hvd hM4 hE4 hH4 hk4 Hx Hd
              obtain ⟨q, hq, rfl, rfl, hMi, hEi, hHi, hki⟩ := hrel
              by_cases hqn : q < n
              · have hqz : (q : Int) < n := by omega
                by_cases hhd : (L ++ [core]).head? = some (q : Int)
                · have hp0 : pos (q : Int) (L ++ [core]) = 0 := pos_zero_iff.2 hhd
                  have hmem : (q : Int) ∈ (L ++ [core]) := List.mem_of_head? hhd
                  have hpr : probeE n (L ++ [core]) (q : Int) = (true, 0) := by rw [probeE, if_neg (fun h => h ⟨Int.natCast_nonneg _, hqz⟩), if_pos hmem]; simp [hhd]
                  have hh0 : holdsN (L ++ [core]) q = 0 ∧ holdsN (L ++ [core]) (q + 1) = 1 := holdsN_hit hhd
                  obtain ⟨hh0, hh1⟩ := hh0
                  rw [hh0]
                  have Hh1 := Lib.hid hh1
                  clear hh1 hh0 hhd hmem
                  go_wp2_with fail
                  refine (probe1 _ _ _ _ q 0 true _ hMi hpr).mono ?_
                  rintro e w7 ⟨rfl, rfl⟩
                  go_wp2_with fail
                  refine (ahead1 _ _ _ _ q 0 _ hMi hp0).mono ?_
                  rintro e w8 ⟨rfl, hk8⟩
                  have hM8 := hMi.same hk8
                  have hE8 := own_same hEi hk8
                  have hH8 := own_same hHi hk8
                  replace hk8 := hki.trans hk8
                  clear hMi hEi hHi hki hpr hp0
                  go_wp2_with fail
                  go_roundw
                  case rel => exact ⟨q + 1, by omega, by rw [Hh1.out], by go_num, hM8, hE8, hH8, hk8⟩
                  case measure => simp [intOf]; omega
                · obtain ⟨r, hpr⟩ : ∃ r, probeE n (L ++ [core]) (q : Int) = (false, r) := by
                    rw [probeE, if_neg (fun h => h ⟨Int.natCast_nonneg _, hqz⟩)]
                    split
                    · exact ⟨0, by rw [decide_eq_false hhd]⟩
                    · exact ⟨_, rfl⟩
                  obtain ⟨p, hp⟩ : ∃ p, pos (q : Int) (L ++ [core]) = p := ⟨_, rfl⟩
                  have hp0 : ¬ p = 0 := by rw [← hp]; exact fun h => hhd (pos_zero_iff.1 h)
                  have hh1 : holdsN (L ++ [core]) (q + 1) = holdsN (L ++ [core]) q := holdsN_miss hhd
                  generalize holdsN (L ++ [core]) q = hq0 at hh1
                  have Hh1 := Lib.hid hh1
                  clear hh1 hhd
                  go_wp2_with fail
                  refine (probe1 _ _ _ _ q r false _ hMi hpr).mono ?_
                  rintro e w7 ⟨rfl, rfl⟩
                  go_wp2_with fail
                  refine (ahead1 _ _ _ _ q p _ hMi hp).mono ?_
                  rintro e w8 ⟨rfl, hk8⟩
                  have hM8 := hMi.same hk8
                  have hE8 := own_same hEi hk8
                  have hH8 := own_same hHi hk8
                  replace hk8 := hki.trans hk8
                  clear hMi hEi hHi hki hpr hp
                  go_wp2_with fail
                  go_roundw
                  case rel => exact ⟨q + 1, by omega, by rw [Hh1.out], by go_num, hM8, hE8, hH8, hk8⟩
                  case measure => simp [intOf]; omega
              · obtain rfl : q = n := by omega
                obtain ⟨hs1, hs2⟩ := holdsN_all hMi.core
                generalize hso : holdsN (L ++ [core]) q = so at hs1 hs2
                clear hso
                cases hLc : (L ++ [core]) with
                | nil =>
                  obtain rfl : so = 0 := hs1 hLc
                  have hMi' := hMi
                  rw [hLc] at hMi'
                  go_wp2_with fail
                  refine (lock_line _ _ _ _ _ hMi').mono ?_
                  rintro e w8 ⟨v8, rfl, hown8, hk8⟩
                  obtain ⟨_, ao8, c8, rfl, _⟩ := (Src.of_own hown8).ints
                  have hM8 := hMi.same hk8
                  have hE8 := own_same hEi hk8
                  have hH8 := own_same hHi hk8
                  replace hk8 := hki.trans hk8
                  clear hMi hMi' hEi hHi hki hown8 hLc hs1 hs2
                  go_wp2_with fail
                  go_roundw
                  case rel => exact ⟨j + 1, v', vh, (xe ++ [core]), xh, (L ++ [core]), by omega, by omega, rfl, rfl, by go_num, hM8, hE8, hH8, Hlen, Hdis, hk8⟩
                  case measure => simp [intOf]; omega
                | cons a8 l8 =>
                  obtain rfl : so = 1 := hs2 (by rw [hLc]; simp)
                  have hMi' := hMi
                  rw [hLc] at hMi'
                  go_wp2_with fail
                  refine (lock_line _ _ _ _ _ hMi').mono ?_
                  rintro e w8 ⟨v8, rfl, hown8, hk8⟩
                  rw [List.length_cons] at hown8
                  obtain ⟨_, ao8, c8, rfl, _⟩ := (Src.of_own hown8).ints
                  have hM8 := hMi.same hk8
                  have hE8 := own_same hEi hk8
                  have hH8 := own_same hHi hk8
                  replace hk8 := hki.trans hk8
                  clear hMi hMi' hEi hHi hki hown8 hLc hs1 hs2
                  go_wp2_with fail
                  go_roundw
                  case rel => exact ⟨j + 1, v', vh, (xe ++ [core]), xh, (L ++ [core]), by omega, by omega, rfl, rfl, by go_num, hM8, hE8, hH8, Hlen, Hdis, hk8⟩
                  case measure => simp [intOf]; omega
          · obtain ⟨r, hev, hr0⟩ : ∃ r, enterE n L core = (r, L) ∧ ¬ r = 0 := by
              by_cases hin' : 0 ≤ core ∧ core < n
              · exact ⟨160, by rw [enterE, if_neg (fun h => h hin'), if_pos (Decidable.not_not.1 (fun h8 => hin ⟨hin', h8⟩))], by decide⟩
              · exact ⟨1, by rw [enterE, if_pos hin'], by decide⟩
            have hrb : (r == 0) = false := by simpa using hr0
            go_wp2_with fail
            refine (enter1 _ _ _ _ L core r _ (hM.alloc _) (hk.alloc (.cells #[.int .i64 kind, .int .i64 core] 29)).size hev).mono ?_
            rintro e w4 ⟨rfl, hM4, hk3⟩
            have hE4 := own_kept (own_same hE ((Kept.refl _ _).alloc _)) hk3 (fun i hi hF => own_not_lt (own_same hE ((Kept.refl _ _).alloc _)) hi hF.2)
            have hH4 := own_kept (own_same hH ((Kept.refl _ _).alloc _)) hk3 (fun i hi hF => own_not_lt (own_same hH ((Kept.refl _ _).alloc _)) hi hF.2)
            have hk4 : New w w4 := (hk.alloc _).new hk3 (fun i hi => hi.1)
            clear hM hE hH hk hk3
            have Hlen : Hid (xe.length ≤ j + 1 ∧ xe = xh ++ L) := ⟨by have := Hx.out.1; omega, Hx.out.2⟩
            have Hdis : Hid (∀ k, ve.ownBlock = some k → vh.ownBlock ≠ some k) := Hd.out
            have hlL := hM4.len
            go_wp2_with fail
            go_loopw [14, 15] (fun s q wi => ∃ k : Nat, k ≤ n ∧ s = .int .i64 (holdsN L k) ∧ q = .int .i64 k ∧ LK w.heap.size wi b w.heap.size n L ∧ wi.ownsRow w.heap.size 3 1 ve xe.length (xe.map (Value.int .i64)) ∧ wi.ownsRow w.heap.size 3 1 vh xh.length (xh.map (Value.int .i64)) ∧ New w wi) (fun _ q _ => n - (intOf q).toNat)
            case atStart => exact ⟨0, by omega, by rw [holdsN_zero hM4.core], rfl, hM4, hE4, hH4, hk4⟩
            case round =>
              clear hM4 hE4 hH4 hk4 Hx Hd
              obtain ⟨q, hq, rfl, rfl, hMi, hEi, hHi, hki⟩ := hrel
              by_cases hqn : q < n
              · have hqz : (q : Int) < n := by omega
                by_cases hhd : L.head? = some (q : Int)
                · have hp0 : pos (q : Int) L = 0 := pos_zero_iff.2 hhd
                  have hmem : (q : Int) ∈ L := List.mem_of_head? hhd
                  have hpr : probeE n L (q : Int) = (true, 0) := by rw [probeE, if_neg (fun h => h ⟨Int.natCast_nonneg _, hqz⟩), if_pos hmem]; simp [hhd]
                  have hh0 : holdsN L q = 0 ∧ holdsN L (q + 1) = 1 := holdsN_hit hhd
                  obtain ⟨hh0, hh1⟩ := hh0
                  rw [hh0]
                  have Hh1 := Lib.hid hh1
                  clear hh1 hh0 hhd hmem
                  go_wp2_with fail
                  refine (probe1 _ _ _ _ q 0 true _ hMi hpr).mono ?_
                  rintro e w7 ⟨rfl, rfl⟩
                  go_wp2_with fail
                  refine (ahead1 _ _ _ _ q 0 _ hMi hp0).mono ?_
                  rintro e w8 ⟨rfl, hk8⟩
                  have hM8 := hMi.same hk8
                  have hE8 := own_same hEi hk8
                  have hH8 := own_same hHi hk8
                  replace hk8 := hki.trans hk8
                  clear hMi hEi hHi hki hpr hp0
                  go_wp2_with fail
                  go_roundw
                  case rel => exact ⟨q + 1, by omega, by rw [Hh1.out], by go_num, hM8, hE8, hH8, hk8⟩
                  case measure => simp [intOf]; omega
                · obtain ⟨r, hpr⟩ : ∃ r, probeE n L (q : Int) = (false, r) := by
                    rw [probeE, if_neg (fun h => h ⟨Int.natCast_nonneg _, hqz⟩)]
                    split
                    · exact ⟨0, by rw [decide_eq_false hhd]⟩
                    · exact ⟨_, rfl⟩
                  obtain ⟨p, hp⟩ : ∃ p, pos (q : Int) L = p := ⟨_, rfl⟩
                  have hp0 : ¬ p = 0 := by rw [← hp]; exact fun h => hhd (pos_zero_iff.1 h)
                  have hh1 : holdsN L (q + 1) = holdsN L q := holdsN_miss hhd
                  generalize holdsN L q = hq0 at hh1
                  have Hh1 := Lib.hid hh1
                  clear hh1 hhd
                  go_wp2_with fail
                  refine (probe1 _ _ _ _ q r false _ hMi hpr).mono ?_
                  rintro e w7 ⟨rfl, rfl⟩
                  go_wp2_with fail
                  refine (ahead1 _ _ _ _ q p _ hMi hp).mono ?_
                  rintro e w8 ⟨rfl, hk8⟩
                  have hM8 := hMi.same hk8
                  have hE8 := own_same hEi hk8
                  have hH8 := own_same hHi hk8
                  replace hk8 := hki.trans hk8
                  clear hMi hEi hHi hki hpr hp
                  go_wp2_with fail
                  go_roundw
                  case rel => exact ⟨q + 1, by omega, by rw [Hh1.out], by go_num, hM8, hE8, hH8, hk8⟩
                  case measure => simp [intOf]; omega
              · obtain rfl : q = n := by omega
                obtain ⟨hs1, hs2⟩ := holdsN_all hMi.core
                generalize hso : holdsN L q = so at hs1 hs2
                clear hso
                cases hLc : L with
                | nil =>
                  obtain rfl : so = 0 := hs1 hLc
                  have hMi' := hMi
                  rw [hLc] at hMi'
                  go_wp2_with fail
                  refine (lock_line _ _ _ _ _ hMi').mono ?_
                  rintro e w8 ⟨v8, rfl, hown8, hk8⟩
                  obtain ⟨_, ao8, c8, rfl, _⟩ := (Src.of_own hown8).ints
                  have hM8 := hMi.same hk8
                  have hE8 := own_same hEi hk8
                  have hH8 := own_same hHi hk8
                  replace hk8 := hki.trans hk8
                  clear hMi hMi' hEi hHi hki hown8 hLc hs1 hs2
                  go_wp2_with fail
                  go_roundw
                  case rel => exact ⟨j + 1, ve, vh, xe, xh, L, by omega, by omega, rfl, rfl, by go_num, hM8, hE8, hH8, Hlen, Hdis, hk8⟩
                  case measure => simp [intOf]; omega
                | cons a8 l8 =>
                  obtain rfl : so = 1 := hs2 (by rw [hLc]; simp)
                  have hMi' := hMi
                  rw [hLc] at hMi'
                  go_wp2_with fail
                  refine (lock_line _ _ _ _ _ hMi').mono ?_
                  rintro e w8 ⟨v8, rfl, hown8, hk8⟩
                  rw [List.length_cons] at hown8
                  obtain ⟨_, ao8, c8, rfl, _⟩ := (Src.of_own hown8).ints
                  have hM8 := hMi.same hk8
                  have hE8 := own_same hEi hk8
                  have hH8 := own_same hHi hk8
                  replace hk8 := hki.trans hk8
                  clear hMi hMi' hEi hHi hki hown8 hLc hs1 hs2
                  go_wp2_with fail
                  go_roundw
                  case rel => exact ⟨j + 1, ve, vh, xe, xh, L, by omega, by omega, rfl, rfl, by go_num, hM8, hE8, hH8, Hlen, Hdis, hk8⟩
                  case measure => simp [intOf]; omega
      · have h2z : ¬ ((j : Int) < 100) := by omega
        obtain ⟨hx1, hx2⟩ := Hx.out
        have hx3 := congrArg List.length hx2
        rw [List.length_append] at hx3
        have hs0 := hk.size
        clear Hx Hd
        go_wp2_with (at_builtin; refine wpList_append_src2 rfl _ _ 27 rfl wr.heap.size 3 i0 _ 1 8 Try.underlying27 hi0 hz0 hz1 hz2 rfl (by decide) _ 0 _ rfl (World.ownsRow_made wr #[] 0 (Nat.le_refl _) (by unfold maxLen; omega) rfl) _ xh.length _ rfl ((Src.of_own hH).alloc _) (ints_oneCell _ _) (by unfold maxLen; omega) (by omega) (by simp) ?_; intro v3 w3 hown3 hgr3 hid3; have hk3 := Kept.of_grown hgr3; have hM3 := (hM.alloc (.cells #[] 3)).kept3 hk3 (fun i hi => ⟨#[], 3, (Option.some.inj hi : wr.heap.size = i) ▸ heap_alloc_new _ _, by decide, by decide, by decide⟩); have hE3 := own_kept (own_same hE ((Kept.refl _ _).alloc (.cells #[] 3))) hk3 (fun i hi hF => by have h8 : wr.heap.size = i := Option.some.inj hF; have := own_size hE hi; omega); have hk4 : New w w3 := (hk.alloc _).new hk3 (fun i hi => by have h8 : wr.heap.size = i := Option.some.inj hi; omega); have hw3sz : wr.heap.size ≤ w3.heap.size := (by have := hk3.size; simp at this; omega); clear hgr3 hid3 hk3)
        rw [Nat.zero_add, List.nil_append] at hown3
        have hlv : ∀ i, ve.ownBlock = some i → i < wr.heap.size := fun i hi => own_size hE hi
        refine (lock_line _ _ _ _ _ hM3).mono ?_
        rintro e w4 ⟨v4, rfl, hown4, hk5⟩
        have hown3' := own_same hown3 hk5
        have hE4 := own_same hE3 hk5
        have hk6 := hk4.trans hk5
        have hsz4 := hk6.size
        have hwr4 : wr.heap.size ≤ w4.heap.size := by have := hw3sz; have := hk5.size; omega
        clear hM3 hE3 hk4 hk5 hown3 hM hH
        go_wp2_with (at_builtin; refine wpList_append_src2 rfl _ _ 27 rfl wr.heap.size 3 i0 _ 1 8 Try.underlying27 hi0 hz0 hz1 hz2 rfl (by decide) v3 xh.length _ rfl hown3' _ L.length _ rfl (Src.of_own hown4) (ints_oneCell _ _) (by unfold maxLen; omega) (by omega) hwr4 ?_; intro v5 w5 hown5 hgr5 hid5; have hk7 := Kept.of_grown hgr5; have hE5 := own_kept hE4 hk7 (fun i hi hF => by have h9 := own_block hown3' hF; have h8 := hlv i hi; omega); have hk8 : New w w5 := hk6.new hk7 (fun i hi => by have h9 := own_block hown3' hi; omega); clear hgr5 hid5 hk7)
        rw [← List.map_append] at hown5
        refine (nums_any v5 ve (xh.length + L.length) xe.length (xh ++ L) xe _ (Src.of_own hown5) (Src.of_own hE5) (by omega) (by omega)).mono ?_
        rintro e w6 ⟨rfl, hk9⟩
        rw [show decide (xh ++ L = xe) = true by simp [hx2]]
        go_wp2_with fail
        refine (fixed_any _).mono ?_
        rintro e wf ⟨rfl, hkf⟩
        go_wp2
        go_ret
        exact ⟨rfl, none_below ((hk8.trans hk9).trans hkf)⟩
    · obtain ⟨hx1, hx2⟩ := Hx.out
      have hx3 := congrArg List.length hx2
      rw [List.length_append] at hx3
      have hs0 := hk.size
      clear Hx Hd
      go_wp2_with (at_builtin; refine wpList_append_src2 rfl _ _ 27 rfl wr.heap.size 3 i0 _ 1 8 Try.underlying27 hi0 hz0 hz1 hz2 rfl (by decide) _ 0 _ rfl (World.ownsRow_made wr #[] 0 (Nat.le_refl _) (by unfold maxLen; omega) rfl) _ xh.length _ rfl ((Src.of_own hH).alloc _) (ints_oneCell _ _) (by unfold maxLen; omega) (by omega) (by simp) ?_; intro v3 w3 hown3 hgr3 hid3; have hk3 := Kept.of_grown hgr3; have hM3 := (hM.alloc (.cells #[] 3)).kept3 hk3 (fun i hi => ⟨#[], 3, (Option.some.inj hi : wr.heap.size = i) ▸ heap_alloc_new _ _, by decide, by decide, by decide⟩); have hE3 := own_kept (own_same hE ((Kept.refl _ _).alloc (.cells #[] 3))) hk3 (fun i hi hF => by have h8 : wr.heap.size = i := Option.some.inj hF; have := own_size hE hi; omega); have hk4 : New w w3 := (hk.alloc _).new hk3 (fun i hi => by have h8 : wr.heap.size = i := Option.some.inj hi; omega); have hw3sz : wr.heap.size ≤ w3.heap.size := (by have := hk3.size; simp at this; omega); clear hgr3 hid3 hk3)
      rw [Nat.zero_add, List.nil_append] at hown3
      have hlv : ∀ i, ve.ownBlock = some i → i < wr.heap.size := fun i hi => own_size hE hi
      refine (lock_line _ _ _ _ _ hM3).mono ?_
      rintro e w4 ⟨v4, rfl, hown4, hk5⟩
      have hown3' := own_same hown3 hk5
      have hE4 := own_same hE3 hk5
      have hk6 := hk4.trans hk5
      have hsz4 := hk6.size
      have hwr4 : wr.heap.size ≤ w4.heap.size := by have := hw3sz; have := hk5.size; omega
      clear hM3 hE3 hk4 hk5 hown3 hM hH
      go_wp2_with (at_builtin; refine wpList_append_src2 rfl _ _ 27 rfl wr.heap.size 3 i0 _ 1 8 Try.underlying27 hi0 hz0 hz1 hz2 rfl (by decide) v3 xh.length _ rfl hown3' _ L.length _ rfl (Src.of_own hown4) (ints_oneCell _ _) (by unfold maxLen; omega) (by omega) hwr4 ?_; intro v5 w5 hown5 hgr5 hid5; have hk7 := Kept.of_grown hgr5; have hE5 := own_kept hE4 hk7 (fun i hi hF => by have h9 := own_block hown3' hF; have h8 := hlv i hi; omega); have hk8 : New w w5 := hk6.new hk7 (fun i hi => by have h9 := own_block hown3' hi; omega); clear hgr5 hid5 hk7)
      rw [← List.map_append] at hown5
      refine (nums_any v5 ve (xh.length + L.length) xe.length (xh ++ L) xe _ (Src.of_own hown5) (Src.of_own hE5) (by omega) (by omega)).mono ?_
      rintro e w6 ⟨rfl, hk9⟩
      rw [show decide (xh ++ L = xe) = true by simp [hx2]]
      go_wp2_with fail
      refine (fixed_any _).mono ?_
      rintro e wf ⟨rfl, hkf⟩
      go_wp2
      go_ret
      exact ⟨rfl, none_below ((hk8.trans hk9).trans hkf)⟩
end Go.Proofs.Ytbnjfkfmkbijnaa

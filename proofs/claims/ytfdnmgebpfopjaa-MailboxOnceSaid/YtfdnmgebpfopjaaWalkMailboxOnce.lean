/- The walk of the law MailboxOnce. -/
import Derived.Test.YtfdnmgebpfopjaaBoxF
set_option linter.all false
namespace Go.Proofs.Ytfdnmgebpfopjaa
open Go.RowKit

/-- Of four boxes: in each the kinds grow, all under k; none is from its owner. -/
structure Inv (X : List (List Ml)) (k : Nat) : Prop where
  four : X.length = 4
  size : ∀ L ∈ X, L.length ≤ 64
  up : ∀ (c : Nat) (L : List Ml), X[c]? = some L → L.Pairwise (fun a b => a.kd < b.kd)
  kd : ∀ (c : Nat) (L : List Ml), X[c]? = some L → ∀ m ∈ L, 0 ≤ m.kd ∧ m.kd < k
  fr : ∀ (c : Nat) (L : List Ml), X[c]? = some L → ∀ m ∈ L, ¬ m.fr = c
theorem Inv.next {X : List (List Ml)} {k : Nat} (h : Inv X k) : Inv X (k + 1) := ⟨h.four, h.size, h.up, fun c L hL m hm => by have := h.kd c L hL m hm; omega, h.fr⟩
theorem Inv.put {X : List (List Ml)} {k i j : Nat} {L : List Ml} {a : Int} (h : Inv X k) (hL : X[j]? = some L) (hl : L.length < 64) (hij : i ≠ j) : Inv (X.set j (L ++ [⟨i, k, a⟩])) (k + 1) := by
  have hj := lt_of_some hL
  have key : ∀ (c : Nat) (M : List Ml), (X.set j (L ++ [⟨i, k, a⟩]))[c]? = some M → (c = j ∧ M = L ++ [⟨i, k, a⟩]) ∨ X[c]? = some M := by
    intro c M hM
    by_cases hc : c = j
    · subst hc
      rw [List.getElem?_set_self hj] at hM
      exact .inl ⟨rfl, (Option.some.inj hM).symm⟩
    · rw [List.getElem?_set_ne (fun e => hc e.symm)] at hM
      exact .inr hM
  refine ⟨by rw [List.length_set]; exact h.four, fun M hM => set_mem h.size (by rw [List.length_append]; simp; omega) hM, ?_, ?_, ?_⟩
  · intro c M hM
    rcases key c M hM with ⟨rfl, rfl⟩ | h1
    · rw [List.pairwise_append]
      refine ⟨h.up c L hL, List.pairwise_singleton _ _, fun x hx y hy => ?_⟩
      rw [List.mem_singleton.1 hy]
      exact (h.kd c L hL x hx).2
    · exact h.up c M h1
  · intro c M hM m hm
    rcases key c M hM with ⟨rfl, rfl⟩ | h1
    · rcases List.mem_append.1 hm with h2 | h2
      · have := h.kd c L hL m h2; omega
      · rw [List.mem_singleton.1 h2]; constructor
        · show (0 : Int) ≤ k; omega
        · show (k : Int) < ((k + 1 : Nat) : Int); omega
    · have := h.kd c M h1 m hm; omega
  · intro c M hM m hm
    rcases key c M hM with ⟨rfl, rfl⟩ | h1
    · rcases List.mem_append.1 hm with h2 | h2
      · exact h.fr c L hL m h2
      · rw [List.mem_singleton.1 h2]
        show ¬ (i : Int) = c
        omega
    · exact h.fr c M h1 m hm
theorem Inv.take {X : List (List Ml)} {k c : Nat} {x : Ml} {l : List Ml} (h : Inv X k) (hL : X[c]? = some (x :: l)) : Inv (X.set c l) k := by
  have hj := lt_of_some hL
  have key : ∀ (d : Nat) (M : List Ml), (X.set c l)[d]? = some M → (d = c ∧ M = l) ∨ X[d]? = some M := by
    intro d M hM
    by_cases hc : d = c
    · subst hc
      rw [List.getElem?_set_self hj] at hM
      exact .inl ⟨rfl, (Option.some.inj hM).symm⟩
    · rw [List.getElem?_set_ne (fun e => hc e.symm)] at hM
      exact .inr hM
  refine ⟨by rw [List.length_set]; exact h.four, fun M hM => set_mem h.size (by have := h.size _ (List.mem_of_getElem? hL); simp at this; omega) hM, ?_, ?_, ?_⟩
  · intro d M hM
    rcases key d M hM with ⟨rfl, rfl⟩ | h1
    · exact (List.pairwise_cons.1 (h.up d _ hL)).2
    · exact h.up d M h1
  · intro d M hM m hm
    rcases key d M hM with ⟨rfl, rfl⟩ | h1
    · exact h.kd d _ hL m (by simp [hm])
    · exact h.kd d M h1 m hm
  · intro d M hM m hm
    rcases key d M hM with ⟨rfl, rfl⟩ | h1
    · exact h.fr d _ hL m (by simp [hm])
    · exact h.fr d M h1 m hm
theorem Inv.none (k : Nat) : Inv (List.replicate 4 []) k := by
  have hh : ∀ (c : Nat) (L : List Ml), (List.replicate 4 ([] : List Ml))[c]? = some L → L = [] := fun c L h => List.eq_of_mem_replicate (List.mem_of_getElem? h)
  refine ⟨rfl, fun L hL => by rw [List.eq_of_mem_replicate hL]; simp, ?_, ?_, ?_⟩
  · intro c L h; rw [hh c L h]; exact List.Pairwise.nil
  · intro c L h m hm; rw [hh c L h] at hm; cases hm
  · intro c L h m hm; rw [hh c L h] at hm; cases hm
theorem tot_le {X : List (List Ml)} : ∀ (q : Nat), (∀ L ∈ X, L.length ≤ q) → tot X ≤ X.length * q := by
  induction X with
  | nil => intro q _; simp [tot]
  | cons L X ih =>
    intro q h
    have h1 := ih q (fun L hL => h L (by simp [hL]))
    have h3 := h L (by simp)
    have h4 : tot (L :: X) = L.length + tot X := by simp [tot]
    rw [h4, List.length_cons, Nat.add_mul]
    omega

set_option maxRecDepth 100000 in
set_option maxHeartbeats 8000000 in
theorem walkMailboxOnce (w : World) (v : Value) (rows : List (List Value)) (hs : Src w v rows.length 5 rows.flatten) (hr : ∀ x ∈ rows, FlatOk [.int .i64, .int .i64, .int .i64, .int .i64, .int .i64] x) (hm : rows.length ≤ maxLen) :
    Calls Try.prog 4 #[v] w fun e w' => e = .returned (.bool true) ∧ Below w.heap.size w w' := by
  obtain ⟨L, hfl, hll⟩ := mos_of_rows hr
  rw [hfl] at hs
  obtain ⟨len, hlen⟩ : ∃ len, len = rows.length := ⟨_, rfl⟩
  rw [← hlen] at hs hm hll
  clear hr hfl hlen
  have Hs := Lib.hid hs
  obtain ⟨-, ao, c, rfl, hcells⟩ := Src.mos hs
  have Hll := Lib.hid hll
  have hlenm : len ≤ 9223372036854775807 := by have : maxLen = 9223372036854775807 := rfl; omega
  have hnew : Calls Try.prog 8 #[.int .i64 4] w _ := new_any 4 w (by decide) (by decide)
  have Hnew := Lib.hid hnew
  clear hs hll hcells hm hnew
  go_enter Try.func4, Try.ntmps4
  go_wp2_with fail
  refine Hnew.out.mono ?_
  rintro e w1 ⟨b, rfl, -, hB0, hk⟩
  clear Hnew
  go_wp2_with fail
  go_loopw [5, 6] (fun p i wr => ∃ (k : Nat) (X : List (List Ml)) (t : Nat), k ≤ 100 ∧ k ≤ len ∧ i = .int .i64 k ∧ p = .int .i64 t ∧ Hid (t = tot X) ∧ Hid (Inv X k) ∧ New w wr ∧ Bs (fun k => w.heap.size ≤ k) wr b X) (fun _ i _ => 100 - (intOf i).toNat)
  case atStart => exact ⟨0, List.replicate 4 [], 0, by omega, by omega, rfl, rfl, (by decide : 0 = tot (List.replicate 4 [])), Inv.none 0, hk, hB0⟩
  case round =>
    clear hB0 hk
    obtain ⟨k, X, t, hk6, hk, rfl, rfl, Ht, HI, hkr, hB⟩ := hrel
    have hX4 : X.length ≤ 8 := by rw [HI.out.four]; decide
    have Hsz := Lib.hid HI.out.size
    have ht256 : t ≤ 256 := by
      rw [Ht.out]
      have := tot_le 64 HI.out.size
      rw [HI.out.four] at this
      exact this
    by_cases h1 : k < len ∧ k < 100
    · obtain ⟨h1, h2⟩ := h1
      have h2' : (k : Int) < 100 := by omega
      obtain ⟨z, hz⟩ : ∃ z, L[k]? = some z := ⟨_, List.getElem?_eq_getElem (by have := Hll.out; omega)⟩
      obtain ⟨ao', c', he, hcl⟩ := (Src.mos (Hs.out.same hkr)).2
      cases he
      obtain ⟨B, Of, rfl, c0, c1, c2, c3, c4⟩ := hcl k z hz
      have kA : New wr (wr.alloc (.cells #[.int .i64 z.kind, .int .i64 z.fr, .int .i64 z.to, .int .i64 z.wh, .int .i64 z.ab] 37)) := (Kept.refl _ _).alloc _
      obtain ⟨e0, e1, e2, e3, e4⟩ := op5 (heap_alloc_new wr (blkQ z))
      obtain ⟨⟨er, X'⟩, hsE⟩ : ∃ r, sendE X z.fr z.to k 0 = r := ⟨_, rfl⟩
      have hcall := Send_any b X X' z.fr z.to k 0 er _ (hB.same kA) hX4 Hsz.out hsE
      have Hcall := Lib.hid hcall
      have Hca := Lib.hid (sendE_cases hsE)
      have hkrA := hkr.trans kA
      have htw : IntKind.i64.wrap ((t : Int) + 1) = ((t + 1 : Nat) : Int) := by rw [IntKind.wrap_i64]; omega
      clear hcl hz hB hcall hsE kA
      go_wp2_with fail
      refine Hcall.out.mono ?_
      rintro e w3 ⟨rfl, hB3, hk3⟩
      have hB3' := Bs.mono (O' := fun k => w.heap.size ≤ k) hB3 (fun k h => h.elim id (fun h => Nat.le_trans hkrA.size h))
      have hkr3 := hkrA.new hk3 (fun i hi => hi)
      clear hB3 hk3 Hcall c0 c1 c2 c3 c4 e0 e1 e2 e3 e4
      rcases Hca.out with ⟨h9, hXX⟩ | ⟨rfl, i, j, hfi, htj, hi, hj, hij, M, hM, hM64, hXX⟩
      · have hI' := HI.out.next
        rw [← hXX] at hI'
        have ht' : t = tot X' := by rw [hXX]; exact Ht.out
        have HI' := Lib.hid hI'
        have Ht' := Lib.hid ht'
        clear hI' hXX ht' Hca
        rcases h9 with rfl | rfl | rfl
        all_goals go_wp2_with fail
        all_goals go_roundw
        all_goals first
          | exact ⟨k + 1, X', t, by omega, by omega, by go_num, rfl, Ht'.out, HI'.out, hkr3, hB3'⟩
          | (simp [intOf]; omega)
      · have hI' := HI.out.put (i := i) (a := 0) hM hM64 hij
        rw [hfi] at hXX
        rw [← hXX] at hI'
        have ht' : t + 1 = tot X' := by
          have h8 := tot_set (L' := M ++ [⟨(i : Int), (k : Int), 0⟩]) hM
          rw [← hXX, List.length_append] at h8
          have h7 := Ht.out
          simp only [List.length_cons, List.length_nil] at h8
          omega
        have HI' := Lib.hid hI'
        have Ht' := Lib.hid ht'
        clear hI' hXX ht' Hca hfi htj hi hj hij hM hM64
        go_wp2_with fail
        go_roundw
        case rel => exact ⟨k + 1, X', t + 1, by omega, by omega, by go_num, by go_num, Ht'.out, HI'.out, hkr3, hB3'⟩
        case measure => simp [intOf]; omega
    · by_cases h3 : k < len
      · have h2' : ¬ ((k : Int) < 100) := by omega
        go_wp2_with fail
        go_loopw [5, 8] (fun p i wr => ∃ (c : Nat) (X : List (List Ml)) (t : Nat), c ≤ 4 ∧ i = .int .i64 c ∧ p = .int .i64 t ∧ Hid (t = tot X) ∧ Hid (Inv X k) ∧ Hid (∀ j, j < c → X[j]? = some []) ∧ New w wr ∧ Bs (fun k => w.heap.size ≤ k) wr b X) (fun _ i _ => 4 - (intOf i).toNat)
        case atStart => exact ⟨0, X, t, by omega, rfl, rfl, Ht.out, HI.out, fun j hj => by omega, hkr, hB⟩
        case round =>
          clear hB hkr HI Ht ht256 hX4 Hsz
          obtain ⟨c, X, t, hc, rfl, rfl, Ht, HI, HE, hkr, hB⟩ := hrel
          by_cases h5 : c < 4
          · have h5' : (c : Int) < 4 := by omega
            obtain ⟨W, hW⟩ : ∃ W, W = wr := ⟨_, rfl⟩
            rw [← hW] at hkr hB ⊢
            clear hW
            go_wp2_with fail
            go_loopw [5, 9] (fun p v9 wr => ∃ (X : List (List Ml)) (t : Nat) (la : Int), p = .int .i64 t ∧ v9 = .int .i64 la ∧ Hid (t = tot X) ∧ Hid (Inv X k) ∧ Hid (∀ j, j < c → X[j]? = some []) ∧ Hid (∀ L, X[c]? = some L → ∀ m ∈ L, la < m.kd) ∧ New w wr ∧ Bs (fun k => w.heap.size ≤ k) wr b X) (fun p _ _ => (intOf p).toNat)
            case atStart => exact ⟨X, t, -1, rfl, rfl, Ht.out, HI.out, HE.out, fun L hL m hm => by have := HI.out.kd c L hL m hm; omega, hkr, hB⟩
            case round =>
              clear hB hkr HI Ht HE
              obtain ⟨X, t, la, rfl, rfl, Ht, HI, HE, Hla, hkr, hB⟩ := hrel
              have hX4 : X.length ≤ 8 := by rw [HI.out.four]; decide
              have Hsz := Lib.hid HI.out.size
              obtain ⟨L, hL⟩ : ∃ L, X[c]? = some L := ⟨_, List.getElem?_eq_getElem (by rw [HI.out.four]; exact h5)⟩
              have hbox := Box_any b X c L wr hB hX4 Hsz.out (boxE_at hL)
              have ht0 : (0 : Int) ≤ t := by omega
              cases L with
              | nil =>
                have HL := Lib.hid hL
                have Hbox := Lib.hid hbox
                clear hL hbox
                go_wp2_with fail
                refine Hbox.out.mono ?_
                rintro e w2 ⟨v, rfl, hown, -, hk2⟩
                obtain ⟨ao2, c2, hv, -⟩ := Src.of_own hown
                replace hv : v = .slice ao2 0 c2 := hv
                subst hv
                have hB2 := hB.same hk2
                have hkr2 := hkr.trans hk2
                clear hown hk2 Hbox hB hkr
                go_wp2_with fail
                go_roundw
                case rel => exact ⟨c + 1, X, t, by omega, by go_num, rfl, Ht.out, HI.out, fun j hj => by
                  by_cases hjc : j = c
                  · rw [hjc]; exact HL.out
                  · exact HE.out j (by omega), hkr2, hB2⟩
                case measure => simp [intOf]; omega
              | cons x l =>
                have hI' := HI.out.take hL
                have htt := tot_set (L' := l) hL
                have ht1 : 1 ≤ t := by have := Ht.out; simp only [List.length_cons] at htt; omega
                have ht2 : t - 1 = tot (X.set c l) := by have := Ht.out; simp only [List.length_cons] at htt; omega
                have hxla := Hla.out _ hL x (by simp)
                have hxla2 : ¬ (x.kd ≤ la) := by omega
                have hxfr := HI.out.fr c _ hL x (by simp)
                have hxb : decide (x.kd ≤ la) = false := decide_eq_false hxla2
                have hfb : (x.fr == (c : Int)) = false := by simpa using hxfr
                have hup := (List.pairwise_cons.1 (HI.out.up c _ hL)).1
                have hcl := lt_of_some hL
                have hla' : ∀ M, (X.set c l)[c]? = some M → ∀ m ∈ M, x.kd < m.kd := fun M hM m hm => by
                  rw [List.getElem?_set_self hcl] at hM
                  cases hM
                  exact hup m hm
                have hE' : ∀ j, j < c → (X.set c l)[j]? = some [] := fun j hj => by
                  rw [List.getElem?_set_ne (by omega)]; exact HE.out j hj
                have htake := fun (W' : World) (hk' : New wr W') => Take_any b X (X.set c l) c x true W' (hB.same hk') hX4 Hsz.out (takeE_at hL)
                have ht256 : t ≤ 256 := by
                  rw [Ht.out]
                  have := tot_le 64 HI.out.size
                  rw [HI.out.four] at this
                  exact this
                have htw : IntKind.i64.wrap ((t : Int) - 1) = ((t - 1 : Nat) : Int) := by rw [IntKind.wrap_i64]; omega
                have Hbox := Lib.hid hbox
                have Htake := Lib.hid htake
                have HI' := Lib.hid hI'
                have Ht' := Lib.hid ht2
                have Hla' := Lib.hid hla'
                have HE' := Lib.hid hE'
                obtain ⟨ll, hll2⟩ : ∃ ll, ll = l.length := ⟨_, rfl⟩
                have Hll2 := Lib.hid hll2
                have hllz : (0 : Int) < (ll : Int) + 1 := by omega
                clear hL hbox hI' htt ht2 hup hla' hE' htake hB hxla hll2 HE Hla
                go_wp2_with fail
                refine Hbox.out.mono ?_
                rintro e w2 ⟨v, rfl, hown, -, hk2⟩
                obtain ⟨ao2, c2, hv, -⟩ := Src.of_own hown
                replace hv : v = .slice ao2 (ll + 1) c2 := by rw [hv, Hll2.out]; rfl
                subst hv
                clear hown Hbox
                go_wp2_with fail
                refine (Htake.out _ hk2).mono ?_
                rintro e w3 ⟨rfl, hB3, hk3⟩
                have hkr2 := hkr.trans hk2
                have hB3' := Bs.mono (O' := fun k => w.heap.size ≤ k) hB3 (fun k h => h.elim id (fun h => Nat.le_trans hkr2.size h))
                have hkr3 := hkr2.new hk3 (fun i hi => hi)
                have kA : New w3 (w3.alloc (blkM x)) := (Kept.refl _ _).alloc _
                have hB4 := hB3'.same kA
                have hkr4 := hkr3.trans kA
                obtain ⟨y0, y1, y2⟩ := of3 (heap_alloc_new w3 (blkM x))
                clear hB3 hB3' hk3 hk2 Htake hkr hkr2 hkr3 kA
                go_wp2_with fail
                go_roundw
                case rel => exact ⟨X.set c l, t - 1, x.kd, by go_num, rfl, Ht'.out, HI'.out, HE'.out, Hla'.out, hkr4, hB4⟩
                case measure => simp [intOf]; omega
          · obtain rfl : c = 4 := by omega
            have hX0 : X = [[], [], [], []] := by
              have h4 := HI.out.four
              have e0 := HE.out 0 (by omega)
              have e1 := HE.out 1 (by omega)
              have e2 := HE.out 2 (by omega)
              have e3 := HE.out 3 (by omega)
              match X, h4 with
              | [a, b, c, d], _ => simp at e0 e1 e2 e3; rw [e0, e1, e2, e3]
            subst hX0
            have ht0 : t = 0 := Ht.out
            subst ht0
            have ho := fun (c : Int) (W' : World) (hk' : New wr W') => owed_any b [[], [], [], []] c 0 W' (hB.same hk') (by decide) (by decide) rfl
            have Ho := Lib.hid ho
            clear ho hB
            go_wp2_with fail
            refine (Ho.out 0 _ (Kept.refl _ _)).mono ?_
            rintro e w2 ⟨rfl, k2⟩
            go_wp2_with fail
            refine (Ho.out 1 _ k2).mono ?_
            rintro e w3 ⟨rfl, k3⟩
            replace k3 := k2.trans k3
            clear k2
            go_wp2_with fail
            refine (Ho.out 2 _ k3).mono ?_
            rintro e w4 ⟨rfl, k4⟩
            replace k4 := k3.trans k4
            clear k3
            go_wp2_with fail
            refine (Ho.out 3 _ k4).mono ?_
            rintro e w5 ⟨rfl, k5⟩
            replace k5 := k4.trans k5
            clear k4
            go_wp2_with fail
            refine (fixed_any _).mono ?_
            rintro e w11 ⟨rfl, hk11⟩
            go_wp2_with fail
            go_ret
            exact ⟨rfl, none_below ((hkr.trans k5).trans hk11)⟩
      · have h3' : ¬ ((k : Int) < len) := by omega
        go_wp2_with fail
        go_loopw [5, 8] (fun p i wr => ∃ (c : Nat) (X : List (List Ml)) (t : Nat), c ≤ 4 ∧ i = .int .i64 c ∧ p = .int .i64 t ∧ Hid (t = tot X) ∧ Hid (Inv X k) ∧ Hid (∀ j, j < c → X[j]? = some []) ∧ New w wr ∧ Bs (fun k => w.heap.size ≤ k) wr b X) (fun _ i _ => 4 - (intOf i).toNat)
        case atStart => exact ⟨0, X, t, by omega, rfl, rfl, Ht.out, HI.out, fun j hj => by omega, hkr, hB⟩
        case round =>
          clear hB hkr HI Ht ht256 hX4 Hsz
          obtain ⟨c, X, t, hc, rfl, rfl, Ht, HI, HE, hkr, hB⟩ := hrel
          by_cases h5 : c < 4
          · have h5' : (c : Int) < 4 := by omega
            obtain ⟨W, hW⟩ : ∃ W, W = wr := ⟨_, rfl⟩
            rw [← hW] at hkr hB ⊢
            clear hW
            go_wp2_with fail
            go_loopw [5, 9] (fun p v9 wr => ∃ (X : List (List Ml)) (t : Nat) (la : Int), p = .int .i64 t ∧ v9 = .int .i64 la ∧ Hid (t = tot X) ∧ Hid (Inv X k) ∧ Hid (∀ j, j < c → X[j]? = some []) ∧ Hid (∀ L, X[c]? = some L → ∀ m ∈ L, la < m.kd) ∧ New w wr ∧ Bs (fun k => w.heap.size ≤ k) wr b X) (fun p _ _ => (intOf p).toNat)
            case atStart => exact ⟨X, t, -1, rfl, rfl, Ht.out, HI.out, HE.out, fun L hL m hm => by have := HI.out.kd c L hL m hm; omega, hkr, hB⟩
            case round =>
              clear hB hkr HI Ht HE
              obtain ⟨X, t, la, rfl, rfl, Ht, HI, HE, Hla, hkr, hB⟩ := hrel
              have hX4 : X.length ≤ 8 := by rw [HI.out.four]; decide
              have Hsz := Lib.hid HI.out.size
              obtain ⟨L, hL⟩ : ∃ L, X[c]? = some L := ⟨_, List.getElem?_eq_getElem (by rw [HI.out.four]; exact h5)⟩
              have hbox := Box_any b X c L wr hB hX4 Hsz.out (boxE_at hL)
              have ht0 : (0 : Int) ≤ t := by omega
              cases L with
              | nil =>
                have HL := Lib.hid hL
                have Hbox := Lib.hid hbox
                clear hL hbox
                go_wp2_with fail
                refine Hbox.out.mono ?_
                rintro e w2 ⟨v, rfl, hown, -, hk2⟩
                obtain ⟨ao2, c2, hv, -⟩ := Src.of_own hown
                replace hv : v = .slice ao2 0 c2 := hv
                subst hv
                have hB2 := hB.same hk2
                have hkr2 := hkr.trans hk2
                clear hown hk2 Hbox hB hkr
                go_wp2_with fail
                go_roundw
                case rel => exact ⟨c + 1, X, t, by omega, by go_num, rfl, Ht.out, HI.out, fun j hj => by
                  by_cases hjc : j = c
                  · rw [hjc]; exact HL.out
                  · exact HE.out j (by omega), hkr2, hB2⟩
                case measure => simp [intOf]; omega
              | cons x l =>
                have hI' := HI.out.take hL
                have htt := tot_set (L' := l) hL
                have ht1 : 1 ≤ t := by have := Ht.out; simp only [List.length_cons] at htt; omega
                have ht2 : t - 1 = tot (X.set c l) := by have := Ht.out; simp only [List.length_cons] at htt; omega
                have hxla := Hla.out _ hL x (by simp)
                have hxla2 : ¬ (x.kd ≤ la) := by omega
                have hxfr := HI.out.fr c _ hL x (by simp)
                have hxb : decide (x.kd ≤ la) = false := decide_eq_false hxla2
                have hfb : (x.fr == (c : Int)) = false := by simpa using hxfr
                have hup := (List.pairwise_cons.1 (HI.out.up c _ hL)).1
                have hcl := lt_of_some hL
                have hla' : ∀ M, (X.set c l)[c]? = some M → ∀ m ∈ M, x.kd < m.kd := fun M hM m hm => by
                  rw [List.getElem?_set_self hcl] at hM
                  cases hM
                  exact hup m hm
                have hE' : ∀ j, j < c → (X.set c l)[j]? = some [] := fun j hj => by
                  rw [List.getElem?_set_ne (by omega)]; exact HE.out j hj
                have htake := fun (W' : World) (hk' : New wr W') => Take_any b X (X.set c l) c x true W' (hB.same hk') hX4 Hsz.out (takeE_at hL)
                have ht256 : t ≤ 256 := by
                  rw [Ht.out]
                  have := tot_le 64 HI.out.size
                  rw [HI.out.four] at this
                  exact this
                have htw : IntKind.i64.wrap ((t : Int) - 1) = ((t - 1 : Nat) : Int) := by rw [IntKind.wrap_i64]; omega
                have Hbox := Lib.hid hbox
                have Htake := Lib.hid htake
                have HI' := Lib.hid hI'
                have Ht' := Lib.hid ht2
                have Hla' := Lib.hid hla'
                have HE' := Lib.hid hE'
                obtain ⟨ll, hll2⟩ : ∃ ll, ll = l.length := ⟨_, rfl⟩
                have Hll2 := Lib.hid hll2
                have hllz : (0 : Int) < (ll : Int) + 1 := by omega
                clear hL hbox hI' htt ht2 hup hla' hE' htake hB hxla hll2 HE Hla
                go_wp2_with fail
                refine Hbox.out.mono ?_
                rintro e w2 ⟨v, rfl, hown, -, hk2⟩
                obtain ⟨ao2, c2, hv, -⟩ := Src.of_own hown
                replace hv : v = .slice ao2 (ll + 1) c2 := by rw [hv, Hll2.out]; rfl
                subst hv
                clear hown Hbox
                go_wp2_with fail
                refine (Htake.out _ hk2).mono ?_
                rintro e w3 ⟨rfl, hB3, hk3⟩
                have hkr2 := hkr.trans hk2
                have hB3' := Bs.mono (O' := fun k => w.heap.size ≤ k) hB3 (fun k h => h.elim id (fun h => Nat.le_trans hkr2.size h))
                have hkr3 := hkr2.new hk3 (fun i hi => hi)
                have kA : New w3 (w3.alloc (blkM x)) := (Kept.refl _ _).alloc _
                have hB4 := hB3'.same kA
                have hkr4 := hkr3.trans kA
                obtain ⟨y0, y1, y2⟩ := of3 (heap_alloc_new w3 (blkM x))
                clear hB3 hB3' hk3 hk2 Htake hkr hkr2 hkr3 kA
                go_wp2_with fail
                go_roundw
                case rel => exact ⟨X.set c l, t - 1, x.kd, by go_num, rfl, Ht'.out, HI'.out, HE'.out, Hla'.out, hkr4, hB4⟩
                case measure => simp [intOf]; omega
          · obtain rfl : c = 4 := by omega
            have hX0 : X = [[], [], [], []] := by
              have h4 := HI.out.four
              have e0 := HE.out 0 (by omega)
              have e1 := HE.out 1 (by omega)
              have e2 := HE.out 2 (by omega)
              have e3 := HE.out 3 (by omega)
              match X, h4 with
              | [a, b, c, d], _ => simp at e0 e1 e2 e3; rw [e0, e1, e2, e3]
            subst hX0
            have ht0 : t = 0 := Ht.out
            subst ht0
            have ho := fun (c : Int) (W' : World) (hk' : New wr W') => owed_any b [[], [], [], []] c 0 W' (hB.same hk') (by decide) (by decide) rfl
            have Ho := Lib.hid ho
            clear ho hB
            go_wp2_with fail
            refine (Ho.out 0 _ (Kept.refl _ _)).mono ?_
            rintro e w2 ⟨rfl, k2⟩
            go_wp2_with fail
            refine (Ho.out 1 _ k2).mono ?_
            rintro e w3 ⟨rfl, k3⟩
            replace k3 := k2.trans k3
            clear k2
            go_wp2_with fail
            refine (Ho.out 2 _ k3).mono ?_
            rintro e w4 ⟨rfl, k4⟩
            replace k4 := k3.trans k4
            clear k3
            go_wp2_with fail
            refine (Ho.out 3 _ k4).mono ?_
            rintro e w5 ⟨rfl, k5⟩
            replace k5 := k4.trans k5
            clear k4
            go_wp2_with fail
            refine (fixed_any _).mono ?_
            rintro e w11 ⟨rfl, hk11⟩
            go_wp2_with fail
            go_ret
            exact ⟨rfl, none_below ((hkr.trans k5).trans hk11)⟩
end Go.Proofs.Ytfdnmgebpfopjaa

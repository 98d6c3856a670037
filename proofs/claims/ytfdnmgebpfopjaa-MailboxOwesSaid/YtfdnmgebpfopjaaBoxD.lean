/- Package mailbox: Send, All, Take, Box. -/
import Derived.Test.YtfdnmgebpfopjaaBoxC
set_option linter.all false
namespace Go.Proofs.Ytfdnmgebpfopjaa
open Go.RowKit

theorem src1 {W : World} {q : Nat} {x : Int} (h : W.heap[q]? = some (.cells #[.int .i64 x] 3 (0, 0))) : Src W (.slice (some ⟨q, 0, none⟩) 1 1) 1 1 [.int .i64 x] := by
  refine ⟨_, _, rfl, by simp, rfl, fun j u hj => ⟨_, rfl, ?_⟩⟩
  have hj0 : j = 0 := by have := lt_of_some hj; simpa using this
  subst hj0
  cases hj
  rw [addr_add]
  exact cell_blk h 0
def inR (X : List (List Ml)) (c : Int) : Bool := decide (0 ≤ c ∧ c < X.length)
def sendE (X : List (List Ml)) (f t kd ab : Int) : Int × List (List Ml) := if inR X f = false ∨ inR X t = false then (1, X) else if f = t then (170, X) else sendB X ⟨f, kd, ab⟩ [t.toNat]
def allE (X : List (List Ml)) (f kd ab : Int) : Int × List (List Ml) := if inR X f = false then (1, X) else sendB X ⟨f, kd, ab⟩ ((List.range X.length).filter (fun i => !((i : Int) == f)))
set_option maxRecDepth 100000 in
theorem Send_any {O : Nat → Prop} (b : Nat) (X X' : List (List Ml)) (f t kd ab er : Int) (w : World) (h : Bs O w b X) (hX : X.length ≤ 8) (hs : ∀ L ∈ X, L.length ≤ 64) (he : sendE X f t kd ab = (er, X')) :
    Calls Try.prog 9 #[.pointer (some ⟨b, 0, none⟩), .int .i64 f, .int .i64 t, .int .i64 kd, .int .i64 ab] w fun e w' => e = .returned (.int .i64 er) ∧ Bs (fun k => O k ∨ w.heap.size ≤ k) w' b X' ∧ Kept O w w' := by
  have hf := is_any b X f _ w h hX rfl
  have ht := is_any b X t _ w h hX rfl
  unfold sendE at he
  cases hrf : inR X f with
  | false =>
    rw [if_pos (.inl hrf)] at he
    simp only [Prod.mk.injEq] at he
    obtain ⟨rfl, rfl⟩ := he
    have hf2 : Calls Try.prog 16 #[.pointer (some ⟨b, 0, none⟩), .int .i64 f] w fun e w' => e = .returned (.bool false) ∧ w = w' := by rw [← hrf]; exact hf
    have Hf := Lib.hid hf2
    have Hh := Lib.hid h
    clear hf hf2 ht hrf h hs
    go_enter Try.func9, Try.ntmps9
    go_wp2_with fail
    refine Hf.out.mono ?_
    rintro e w1 ⟨rfl, rfl⟩
    go_wp2_with fail
    go_ret
    exact ⟨rfl, Hh.out.mono (fun _ h => .inl h), Kept.refl _ _⟩
  | true =>
    have hf2 : Calls Try.prog 16 #[.pointer (some ⟨b, 0, none⟩), .int .i64 f] w fun e w' => e = .returned (.bool true) ∧ w = w' := by rw [← hrf]; exact hf
    have Hf := Lib.hid hf2
    cases hrt : inR X t with
    | false =>
      rw [if_pos (.inr hrt)] at he
      simp only [Prod.mk.injEq] at he
      obtain ⟨rfl, rfl⟩ := he
      have ht2 : Calls Try.prog 16 #[.pointer (some ⟨b, 0, none⟩), .int .i64 t] w fun e w' => e = .returned (.bool false) ∧ w = w' := by rw [← hrt]; exact ht
      have Ht := Lib.hid ht2
      have Hh := Lib.hid h
      clear hf hf2 ht ht2 hrf hrt h hs
      go_enter Try.func9, Try.ntmps9
      go_wp2_with fail
      refine Hf.out.mono ?_
      rintro e w1 ⟨rfl, rfl⟩
      go_wp2_with fail
      refine Ht.out.mono ?_
      rintro e w1 ⟨rfl, rfl⟩
      go_wp2_with fail
      go_ret
      exact ⟨rfl, Hh.out.mono (fun _ h => .inl h), Kept.refl _ _⟩
    | true =>
      rw [if_neg (by rw [hrf, hrt]; simp)] at he
      have ht2 : Calls Try.prog 16 #[.pointer (some ⟨b, 0, none⟩), .int .i64 t] w fun e w' => e = .returned (.bool true) ∧ w = w' := by rw [← hrt]; exact ht
      have Ht := Lib.hid ht2
      by_cases hft : f = t
      · rw [if_pos hft] at he
        simp only [Prod.mk.injEq] at he
        obtain ⟨rfl, rfl⟩ := he
        subst hft
        have Hh := Lib.hid h
        clear hf hf2 ht ht2 hrf hrt h hs
        go_enter Try.func9, Try.ntmps9
        go_wp2_with fail
        refine Hf.out.mono ?_
        rintro e w1 ⟨rfl, rfl⟩
        go_wp2_with fail
        refine Ht.out.mono ?_
        rintro e w1 ⟨rfl, rfl⟩
        go_wp2_with fail
        go_ret
        exact ⟨rfl, Hh.out.mono (fun _ h => .inl h), Kept.refl _ _⟩
      · rw [if_neg hft] at he
        have hrt2 : 0 ≤ t ∧ t < X.length := by simpa [inR] using hrt
        obtain ⟨tn, rfl⟩ := Int.eq_ofNat_of_zero_le hrt2.1
        have hk1 : New w (w.alloc (.cells #[.int .i64 (tn : Int)] 3)) := (Kept.refl _ _).alloc _
        have hsz : (w.alloc (.cells #[.int .i64 (tn : Int)] 3)).heap.size = w.heap.size + 1 := Array.size_push ..
        have hB := h.sized.same hk1
        have hcall := send_any b X X' ⟨f, kd, ab⟩ (.slice (some ⟨w.heap.size, 0, none⟩) 1 1) 1 [tn] er _ hB hX hs (by omega) (fun W hW => src1 (hW.heap (heap_alloc_new _ _) (fun h => by rw [hsz] at h; rcases h with h | h <;> omega))) (fun i hi => by rw [List.mem_singleton.1 hi]; omega) he
        have Hcall := Lib.hid hcall
        have Hsz := Lib.hid hsz
        have Hk1 := Lib.hid hk1
        clear hf hf2 ht ht2 hrf hrt hcall h hB hs he hrt2 hsz hk1
        go_enter Try.func9, Try.ntmps9
        go_wp2_with fail
        refine Hf.out.mono ?_
        rintro e w1 ⟨rfl, rfl⟩
        go_wp2_with fail
        refine Ht.out.mono ?_
        rintro e w1 ⟨rfl, rfl⟩
        go_wp2_with fail
        refine Hcall.out.mono ?_
        rintro e w2 ⟨rfl, hB2, hk2⟩
        go_wp2_with fail
        go_ret
        exact ⟨rfl, hB2.mono (fun k h => h.imp (fun h => h.1) (fun h => Nat.le_trans Hk1.out.size h)), (Hk1.out.mono (fun _ _ h => h.elim)).trans' hk2 (fun k _ h => h.1)⟩

theorem toT_snoc {f : Int} {j : Nat} : (List.range (j + 1)).filter (fun i : Nat => !((i : Int) == f)) = (List.range j).filter (fun i : Nat => !((i : Int) == f)) ++ (if (j : Int) = f then [] else [j]) := by
  rw [List.range_succ, List.filter_append]
  by_cases h : (j : Int) = f
  · rw [if_pos h]; simp [h]
  · rw [if_neg h]; simp [h]
set_option maxRecDepth 100000 in
set_option maxHeartbeats 1000000 in
theorem All_any {O : Nat → Prop} (b : Nat) (X X' : List (List Ml)) (f kd ab er : Int) (w : World) (h : Bs O w b X) (hX : X.length ≤ 8) (hs : ∀ L ∈ X, L.length ≤ 64) (he : allE X f kd ab = (er, X')) :
    Calls Try.prog 10 #[.pointer (some ⟨b, 0, none⟩), .int .i64 f, .int .i64 kd, .int .i64 ab] w fun e w' => e = .returned (.int .i64 er) ∧ Bs (fun k => O k ∨ w.heap.size ≤ k) w' b X' ∧ Kept O w w' := by
  have hf := is_any b X f _ w h hX rfl
  unfold allE at he
  cases hrf : inR X f with
  | false =>
    rw [if_pos hrf] at he
    simp only [Prod.mk.injEq] at he
    obtain ⟨rfl, rfl⟩ := he
    have hf2 : Calls Try.prog 16 #[.pointer (some ⟨b, 0, none⟩), .int .i64 f] w fun e w' => e = .returned (.bool false) ∧ w = w' := by rw [← hrf]; exact hf
    have Hf := Lib.hid hf2
    have Hh := Lib.hid h
    clear hf hf2 hrf h hs
    go_enter Try.func10, Try.ntmps10
    go_wp2_with fail
    refine Hf.out.mono ?_
    rintro e w1 ⟨rfl, rfl⟩
    go_wp2_with fail
    go_ret
    exact ⟨rfl, Hh.out.mono (fun _ h => .inl h), Kept.refl _ _⟩
  | true =>
    rw [if_neg (by rw [hrf]; decide)] at he
    have hf2 : Calls Try.prog 16 #[.pointer (some ⟨b, 0, none⟩), .int .i64 f] w fun e w' => e = .returned (.bool true) ∧ w = w' := by rw [← hrf]; exact hf
    have Hf := Lib.hid hf2
    have Hh := Lib.hid h
    obtain ⟨n, hn⟩ : ∃ n, n = X.length := ⟨_, rfl⟩
    have hc0 : w.cell? ⟨b, 0, none⟩ = some (.slice (some ⟨(Classical.choose h), 0, none⟩) n n) := by rw [hn]; exact cell_blk (Classical.choose_spec h).choose_spec.hb 0
    have hbl : b < w.heap.size := lt_of_heap (Classical.choose_spec h).choose_spec.hb
    obtain ⟨g, hg⟩ : ∃ g, g = Classical.choose h := ⟨_, rfl⟩
    rw [← hg] at hc0
    have Hn := Lib.hid hn
    have Hs := Lib.hid hs
    have hn8 : n ≤ 8 := by omega
    obtain ⟨i3, hi, hz0, hz1, hz2⟩ := info_parts info3
    have He := Lib.hid he
    clear hf hf2 hrf h hs hg hn he
    go_enter Try.func10, Try.ntmps10
    go_wp2_with fail
    refine Hf.out.mono ?_
    rintro e w1 ⟨rfl, rfl⟩
    go_wp2_with fail
    go_loopw [9, 20] (fun v9 i wr => ∃ (j : Nat) (a : Option Addr) (c : Nat), j ≤ n ∧ i = .int .i64 j ∧ v9 = .slice a ((List.range j).filter (fun i : Nat => !((i : Int) == f))).length c ∧ New w wr ∧ wr.ownsRow w.heap.size 3 1 (.slice a ((List.range j).filter (fun i : Nat => !((i : Int) == f))).length c) ((List.range j).filter (fun i : Nat => !((i : Int) == f))).length (vN ((List.range j).filter (fun i : Nat => !((i : Int) == f))))) (fun _ i _ => n - (intOf i).toNat)
    case atStart => exact ⟨0, none, 0, by omega, rfl, rfl, Kept.refl _ _, ⟨rfl, .inl ⟨rfl, rfl⟩⟩⟩
    case round =>
      obtain ⟨j, a, c, hj, rfl, rfl, hkr, hown⟩ := hrel
      obtain ⟨Tj, hTj⟩ : ∃ Tj, Tj = (List.range j).filter (fun i : Nat => !((i : Int) == f)) := ⟨_, rfl⟩
      have hsn := toT_snoc (f := f) (j := j)
      rw [← hTj] at hown hsn ⊢
      obtain ⟨tl, htl⟩ : ∃ tl, tl = Tj.length := ⟨_, rfl⟩
      have htl8 : tl ≤ 8 := by
        rw [htl, hTj]
        have h1 := List.length_filter_le (fun i : Nat => !((i : Int) == f)) (List.range j)
        rw [List.length_range] at h1
        omega
      rw [← htl] at hown ⊢
      have Hsn := Lib.hid hsn
      have HTj := Lib.hid hTj
      have Htl := Lib.hid htl
      clear hsn hTj htl
      by_cases h1 : j < n
      · by_cases hjf : (j : Int) = f
        · have hjf2 := Hsn.out
          rw [if_pos hjf, List.append_nil] at hjf2
          have Hjf2 := Lib.hid hjf2
          have Hown := Lib.hid hown
          have hjfn : ¬ ((j : Int) ≠ f) := by omega
          clear hjf2 hown Hsn
          subst hjf
          go_wp2_with fail
          go_roundw
          case rel => exact ⟨j + 1, a, c, by omega, by go_num, by rw [Hjf2.out, ← Htl.out], hkr, by rw [Hjf2.out, ← Htl.out]; exact Hown.out⟩
          case measure => simp [intOf]; omega
        · have hjf2 := Hsn.out
          rw [if_neg hjf] at hjf2
          have Hjf2 := Lib.hid hjf2
          have kL : New wr (wr.alloc (.cells #[.int .i64 (j : Int)] 3)) := (Kept.refl _ _).alloc _
          have Hown := Lib.hid (own_same hown kL)
          have Hlit := Lib.hid (Src.lit wr #[.int .i64 (j : Int)] 3 1 1 rfl)
          have hszr := hkr.size
          clear hjf2 hown Hsn
          go_wp2_with (at_builtin; refine wpList_append_src2 rfl _ _ 43 rfl w.heap.size 3 i3 (.int .i64 0) 1 8 Try.underlying43 hi hz0 hz1 hz2 rfl (by decide) (.slice a tl c) tl (vN Tj) rfl Hown.out _ 1 _ rfl Hlit.out (by simp [Value.oneCell']) (by unfold maxLen; omega) (by omega) (by simp; omega) ?_; intro v' w5 hown' hgr hid; obtain ⟨ao5, c5, hv5, _⟩ := Src.of_own hown'; rw [hv5])
          subst hv5
          have kg : New w w5 := (hkr.alloc (.cells #[.int .i64 (j : Int)] 3)).grown hgr (fun k hk => .inl (own_block Hown.out hk))
          have l1 : (Tj ++ [j]).length = tl + 1 := by rw [List.length_append, ← Htl.out]; rfl
          have L1 := Lib.hid l1
          have Hown5 := Lib.hid hown'
          clear l1 hown' hgr hid
          go_roundw
          case rel => exact ⟨j + 1, ao5, c5, by omega, by go_num, by rw [Hjf2.out, L1.out], kg, by rw [Hjf2.out, L1.out]; simpa [vN] using Hown5.out⟩
          case measure => simp [intOf]; omega
      · have hjn : j = X.length := by have := Hn.out; omega
        have hcall := send_any b X X' ⟨f, kd, ab⟩ (.slice a tl c) tl Tj er wr (Hh.out.sized.same hkr) hX Hs.out (by omega) (fun W hW => by
          have h9 := own_kept hown hW (fun k hk => by
            have h8 := own_block hown hk
            have h7 := own_size hown hk
            rintro (h6 | h6)
            · have := h6.1.2; omega
            · omega)
          exact Src.of_own h9) (fun i hi => by
          rw [HTj.out, List.mem_filter, List.mem_range] at hi
          omega) (by rw [HTj.out, hjn]; exact He.out)
        have Hcall := Lib.hid hcall
        clear hcall hown hjn Hsn
        go_wp2_with fail
        refine Hcall.out.mono ?_
        rintro e w2 ⟨rfl, hB2, hk2⟩
        go_wp2_with fail
        go_ret
        exact ⟨rfl, hB2.mono (fun k h => h.imp (fun h => h.1) (fun h => Nat.le_trans hkr.size h)), (hkr.mono (fun _ _ h => h.elim)).trans' hk2 (fun k _ h => h.1)⟩

/-- A core's box. -/
def boxE (X : List (List Ml)) (c : Int) : List Ml := if inR X c then X.getD c.toNat [] else []
theorem Box_any {O : Nat → Prop} (b : Nat) (X : List (List Ml)) (c : Int) (L : List Ml) (w : World) (h : Bs O w b X) (hX : X.length ≤ 8) (hs : ∀ L ∈ X, L.length ≤ 64) (he : boxE X c = L) :
    Calls Try.prog 14 #[.pointer (some ⟨b, 0, none⟩), .int .i64 c] w fun e w' => ∃ v, e = .returned v ∧ w'.ownsRow 0 30 3 v L.length (L.flatMap encM) ∧ (∀ k, v.ownBlock = some k → w.heap.size ≤ k) ∧ New w w' := by
  have hf := is_any b X c _ w h hX rfl
  unfold boxE at he
  cases hrf : inR X c with
  | false =>
    rw [if_neg (by rw [hrf]; decide)] at he
    subst he
    have hf2 : Calls Try.prog 16 #[.pointer (some ⟨b, 0, none⟩), .int .i64 c] w fun e w' => e = .returned (.bool false) ∧ w = w' := by rw [← hrf]; exact hf
    have Hf := Lib.hid hf2
    clear hf hf2 hrf h hs
    go_enter Try.func14, Try.ntmps14
    go_wp2_with fail
    refine Hf.out.mono ?_
    rintro e w1 ⟨rfl, rfl⟩
    go_wp2_with fail
    go_ret
    exact ⟨.slice none 0 0, rfl, ⟨rfl, .inl ⟨rfl, rfl⟩⟩, fun k hk => (by cases hk), Kept.refl _ _⟩
  | true =>
    rw [if_pos hrf] at he
    have hf2 : Calls Try.prog 16 #[.pointer (some ⟨b, 0, none⟩), .int .i64 c] w fun e w' => e = .returned (.bool true) ∧ w = w' := by rw [← hrf]; exact hf
    have Hf := Lib.hid hf2
    have hrt2 : 0 ≤ c ∧ c < X.length := by simpa [inR] using hrf
    obtain ⟨i, rfl⟩ := Int.eq_ofNat_of_zero_le hrt2.1
    obtain ⟨g, vs, hw⟩ := h
    obtain ⟨L', hL⟩ : ∃ L', X[i]? = some L' := ⟨_, List.getElem?_eq_getElem (by omega)⟩
    obtain rfl : L' = L := by rw [← he, show ((i : Int)).toNat = i by omega, getD_at hL]
    obtain ⟨aL, cL, hvi, ci, hown⟩ := hw.at hL
    have c0 := cell_blk hw.hb 0
    have hbl := lt_of_heap hw.hb
    have hcl := clone_any _ L' w hown (by have := hs L' (List.mem_of_getElem? hL); omega)
    obtain ⟨n, hn⟩ : ∃ n, n = X.length := ⟨_, rfl⟩
    obtain ⟨l, hl⟩ : ∃ l, l = L'.length := ⟨_, rfl⟩
    rw [← hn] at c0 hrt2
    rw [← hl] at ci hcl ⊢
    obtain ⟨-, hin⟩ := hrt2
    have Hcl := Lib.hid hcl
    clear hf hf2 hrf hs hw hL hvi hown hcl hn hl he
    go_enter Try.func14, Try.ntmps14
    go_wp2_with fail
    refine Hf.out.mono ?_
    rintro e w1 ⟨rfl, rfl⟩
    go_wp2_with fail
    refine Hcl.out.mono ?_
    rintro e w1 ⟨v', rfl, h1, h2, h3⟩
    go_wp2_with fail
    go_ret
    exact ⟨v', rfl, h1, h2, h3⟩

/-- The first one of a core, heard. -/
def takeE (X : List (List Ml)) (c : Int) : (Ml × Bool) × List (List Ml) := match boxE X c with
  | [] => ((⟨0, 0, 0⟩, false), X)
  | x :: l => ((x, true), X.set c.toNat l)
theorem take_no {O : Nat → Prop} (b : Nat) (X : List (List Ml)) (c : Int) (w : World) (h : Bs O w b X) (hX : X.length ≤ 8) (he : boxE X c = []) :
    Calls Try.prog 12 #[.pointer (some ⟨b, 0, none⟩), .int .i64 c] w fun e w' => e = .returned (.tuple #[aggM ⟨0, 0, 0⟩, .bool false]) ∧ New w w' := by
  have kA : New w (w.alloc (blkM ⟨0, 0, 0⟩)) := (Kept.refl _ _).alloc _
  have hf := is_any b X c _ _ (h.same kA) hX rfl
  have z0 := heap_alloc_new w (blkM ⟨0, 0, 0⟩)
  obtain ⟨t0, t1, t2⟩ := of3 z0
  have f0 := free_blk z0 0
  have f1 := free_blk z0 1
  have f2 := free_blk z0 2
  unfold boxE at he
  cases hrf : inR X c with
  | false =>
    have hf2 : Calls Try.prog 16 #[.pointer (some ⟨b, 0, none⟩), .int .i64 c] (w.alloc (blkM ⟨0, 0, 0⟩)) fun e w' => e = .returned (.bool false) ∧ w.alloc (blkM ⟨0, 0, 0⟩) = w' := by rw [← hrf]; exact hf
    have Hf := Lib.hid hf2
    clear hf hf2 hrf h he z0
    go_enter Try.func12, Try.ntmps12
    go_wp2_with fail
    refine Hf.out.mono ?_
    rintro e w1 ⟨rfl, rfl⟩
    go_wp2_with fail
    refine bodyPost_ret (v := .tuple #[aggM ⟨0, 0, 0⟩, .bool false]) (by rw [results_cell_tmp rfl]; go_simp) rfl ⟨rfl, ?_⟩
    exact kA
  | true =>
    rw [if_pos hrf] at he
    have hf2 : Calls Try.prog 16 #[.pointer (some ⟨b, 0, none⟩), .int .i64 c] (w.alloc (blkM ⟨0, 0, 0⟩)) fun e w' => e = .returned (.bool true) ∧ w.alloc (blkM ⟨0, 0, 0⟩) = w' := by rw [← hrf]; exact hf
    have Hf := Lib.hid hf2
    have hrt2 : 0 ≤ c ∧ c < X.length := by simpa [inR] using hrf
    obtain ⟨i, rfl⟩ := Int.eq_ofNat_of_zero_le hrt2.1
    obtain ⟨g, vs, hw⟩ := h.same kA
    obtain ⟨L', hL⟩ : ∃ L', X[i]? = some L' := ⟨_, List.getElem?_eq_getElem (by omega)⟩
    obtain rfl : L' = [] := by rw [← he, show ((i : Int)).toNat = i by omega, getD_at hL]
    obtain ⟨aL, cL, hvi, ci, hown⟩ := hw.at hL
    have c0 := cell_blk hw.hb 0
    have hbl := lt_of_heap hw.hb
    obtain ⟨n, hn⟩ : ∃ n, n = X.length := ⟨_, rfl⟩
    rw [← hn] at c0 hrt2
    replace ci : (w.alloc (blkM ⟨0, 0, 0⟩)).cell? ⟨g, i, none⟩ = some (.slice aL 0 cL) := ci
    obtain ⟨-, hin⟩ := hrt2
    clear hf hf2 hrf h hw hL hvi hown hn he z0
    go_enter Try.func12, Try.ntmps12
    go_wp2_with fail
    refine Hf.out.mono ?_
    rintro e w1 ⟨rfl, rfl⟩
    go_wp2_with fail
    refine bodyPost_ret (v := .tuple #[aggM ⟨0, 0, 0⟩, .bool false]) (by rw [results_cell_tmp rfl]; go_simp) rfl ⟨rfl, ?_⟩
    exact kA
set_option maxRecDepth 100000 in
set_option maxHeartbeats 1000000 in
theorem take_yes {O : Nat → Prop} (b : Nat) (X : List (List Ml)) (i : Nat) (x : Ml) (lt : List Ml) (w : World) (h : Bs O w b X) (hX : X.length ≤ 8) (hs : ∀ L ∈ X, L.length ≤ 64) (hL : X[i]? = some (x :: lt)) :
    Calls Try.prog 12 #[.pointer (some ⟨b, 0, none⟩), .int .i64 i] w fun e w' => e = .returned (.tuple #[aggM x, .bool true]) ∧ Bs (fun k => O k ∨ w.heap.size ≤ k) w' b (X.set i lt) ∧ Kept O w w' := by
  have kA : New w (w.alloc (blkM ⟨0, 0, 0⟩)) := (Kept.refl _ _).alloc _
  have hsA : (w.alloc (blkM ⟨0, 0, 0⟩)).heap.size = w.heap.size + 1 := Array.size_push ..
  have kB : New w ((w.alloc (blkM ⟨0, 0, 0⟩)).alloc (blkM x)) := kA.alloc _
  obtain ⟨g, vs, h0⟩ := h.sized
  have hin : i < X.length := lt_of_some hL
  have hlt9 : lt.length ≤ 1000 := by have := hs _ (List.mem_of_getElem? hL); simp at this; omega
  have hf2 : Calls Try.prog 16 #[.pointer (some ⟨b, 0, none⟩), .int .i64 i] (w.alloc (blkM ⟨0, 0, 0⟩)) fun e w' => e = .returned (.bool true) ∧ w.alloc (blkM ⟨0, 0, 0⟩) = w' :=
    is_any b X i true _ (Bs.same (O := fun k => O k ∧ k < w.heap.size) ⟨g, vs, h0⟩ kA) hX (by simp; omega)
  have Hf := Lib.hid hf2
  obtain ⟨aL, cL, hvi, ci, hown⟩ := h0.at hL
  obtain ⟨n, hn⟩ : ∃ n, n = X.length := ⟨_, rfl⟩
  have hl1 : (x :: lt).length = lt.length + 1 := rfl
  rw [hl1] at ci hown hvi
  have c0 := cell_blk h0.hb 0
  rw [← hn] at c0 hin
  have hgl := h0.hg.lt
  have hbl := lt_of_heap h0.hb
  have cA0 := cell_kept kA c0 (fun h => h)
  have cAi := cell_kept kA ci (fun h => h)
  have hvg : ∃ gL, aL = some ⟨gL, 0, none⟩ := by
    obtain ⟨gL, cap, hv, -⟩ := Row.of_ownS hown (by omega)
    simp only [Value.slice.injEq] at hv
    exact ⟨gL, hv.1⟩
  obtain ⟨gL, rfl⟩ := hvg
  obtain ⟨x0, x1, x2⟩ := own_mail (own_same hown kA) (k := 0) rfl
  simp only [Nat.zero_mul, Nat.zero_add] at x0 x1 x2
  obtain ⟨wr, hwr⟩ : ∃ wr, wr = (w.alloc (blkM ⟨0, 0, 0⟩)).alloc (blkM x) := ⟨_, rfl⟩
  rw [← hwr] at kB
  have hq4 : wr.heap[w.heap.size]? = some (blkM ⟨0, 0, 0⟩) := by rw [hwr]; exact ((Kept.refl (fun _ => False) _).alloc _).heap (heap_alloc_new _ _) (fun h => h)
  have hq6 : wr.heap[w.heap.size + 1]? = some (blkM x) := by rw [hwr, ← hsA]; exact heap_alloc_new _ _
  have hsB : wr.heap.size = w.heap.size + 2 := by rw [hwr, show ((w.alloc (blkM ⟨0, 0, 0⟩)).alloc (blkM x)).heap.size = (w.alloc (blkM ⟨0, 0, 0⟩)).heap.size + 1 from Array.size_push .., hsA]
  have hB := (h0.kept kB (fun _ _ h => h))
  have hownB := own_same hown kB
  obtain ⟨l, hl⟩ : ∃ l, l = lt.length := ⟨_, rfl⟩
  obtain ⟨curg, hgh, -, -⟩ := hB.hg.ex
  have hciB := cell_kept kB ci (fun h => h)
  have hc0B := cell_kept kB c0 (fun h => h)
  have hnb := fun k (hk : (Value.slice (some ⟨gL, 0, none⟩) (lt.length + 1) cL).ownBlock = some k) => hB.nb hvi hk
  have hszv := fun k (hk : (Value.slice (some ⟨gL, 0, none⟩) (lt.length + 1) cL).ownBlock = some k) => h0.size hvi hk
  have hgb := hB.bg
  have q1 : Kept (fun k => (Value.slice (some ⟨gL, 0, none⟩) (lt.length + 1) cL).ownBlock = some k ∨ k = g) wr wr.drew := (Kept.refl _ _).drew
  have hsk : ∀ W', Kept (fun k => (Value.slice (some ⟨gL, 0, none⟩) (lt.length + 1) cL).ownBlock = some k ∨ k = g) wr W' → W'.cell? ⟨b, 0, none⟩ = some (.slice (some ⟨g, 0, none⟩) n n) := fun W' hk => cell_kept hk hc0B (fun h => h.elim (fun e => (hnb b e).1 rfl) (fun e => hgb e.symm))
  have Hsk := Lib.hid hsk
  have Hown := Lib.hid (show wr.drew.ownsRow 0 30 3 (.slice (some ⟨gL, 0, none⟩) (lt.length + 1) cL) (lt.length + 1) ((x :: lt).flatMap encM) from own_same hownB (Kept.refl _ _).drew)
  have Hnb := Lib.hid hnb
  have Hszv := Lib.hid hszv
  have HB := Lib.hid hB
  have Hvi := Lib.hid hvi
  have HL := Lib.hid hL
  have Hwr := Lib.hid hwr
  have HsB := Lib.hid hsB
  have HsA := Lib.hid hsA
  have Hq4 := Lib.hid hq4
  have Hq6 := Lib.hid hq6
  have KB := Lib.hid kB
  have hi0 : (i : Int) < n := by omega
  rw [← hl] at ci cAi hciB q1 Hsk Hown Hnb Hszv Hvi hlt9
  have ci := hciB
  have Hl := Lib.hid hl
  clear h0 h hs hX hL hown hvi hn hl1 hwr hsB hsA hB hownB hnb hszv hsk hf2 hq4 hq6 kB hgb hl c0
  go_enter Try.func12, Try.ntmps12
  go_wp2_with fail
  refine Hf.out.mono ?_
  rintro e w1 ⟨rfl, rfl⟩
  go_wp2_with fail
  have hwr2 := Hwr.out
  simp only [blkM] at hwr2
  rw [← hwr2]
  clear hwr2
  refine wp_region_held_drew (S := fun W' => W'.cell? ⟨b, 0, none⟩ = some (.slice (some ⟨g, 0, none⟩) n n)) (by kernel_rfl) (Hsk.out _ q1) (fun hHeld => ?_)
  refine wpAnyH_take (i := 0) (v := .pointer (some ⟨b, 0, none⟩)) rfl (by kernel_rfl) (by kernel_rfl) (by kernel_rfl) (fun _ _ _ h => h) (Or.inl ⟨by rfl, ?_⟩) hHeld ?_
  · intro W' hSW; clear hHeld; go_simp
  try simp only [Act.put, List.getElem_toArray, List.getElem_cons_zero, List.getElem_cons_succ, List.setIfInBounds_toArray, List.set_cons_zero, List.set_cons_succ]
  refine wpAnyH_take (i := 1) (v := .pointer (some ⟨b, 0, none⟩)) rfl (by kernel_rfl) (by kernel_rfl) (by kernel_rfl) (fun _ _ _ h => h) (Or.inl ⟨by rfl, ?_⟩) hHeld ?_
  · intro W' hSW; clear hHeld; go_simp
  try simp only [Act.put, List.getElem_toArray, List.getElem_cons_zero, List.getElem_cons_succ, List.setIfInBounds_toArray, List.set_cons_zero, List.set_cons_succ]
  refine wpAnyH_take (i := 2) (v := .pointer (some ⟨b, 0, none⟩)) rfl (by kernel_rfl) (by kernel_rfl) (by kernel_rfl) (fun _ _ _ h => h) (Or.inl ⟨by rfl, ?_⟩) hHeld ?_
  · intro W' hSW; clear hHeld; go_simp
  try simp only [Act.put, List.getElem_toArray, List.getElem_cons_zero, List.getElem_cons_succ, List.setIfInBounds_toArray, List.set_cons_zero, List.set_cons_succ]
  refine wpAnyH_take (i := 3) (v := .slice (some ⟨g, 0, none⟩) n n) rfl (by kernel_rfl) (by kernel_rfl) (by kernel_rfl) (fun _ _ _ h => h) (Or.inl ⟨by rfl, ?_⟩) hHeld ?_
  · intro W' hSW; clear hHeld; go_simp
  try simp only [Act.put, List.getElem_toArray, List.getElem_cons_zero, List.getElem_cons_succ, List.setIfInBounds_toArray, List.set_cons_zero, List.set_cons_succ]
  refine wpAnyH_take (i := 4) (v := .int .i64 (i : Int)) rfl (by kernel_rfl) (by kernel_rfl) (by kernel_rfl) (fun _ _ _ h => h) (Or.inl ⟨by rfl, ?_⟩) hHeld ?_
  · intro W' hSW; clear hHeld; go_simp
  try simp only [Act.put, List.getElem_toArray, List.getElem_cons_zero, List.getElem_cons_succ, List.setIfInBounds_toArray, List.set_cons_zero, List.set_cons_succ]
  refine wpAnyH_take (i := 5) (v := .pointer (some ⟨b, 0, none⟩)) rfl (by kernel_rfl) (by kernel_rfl) (by kernel_rfl) (fun _ _ _ h => h) (Or.inl ⟨by rfl, ?_⟩) hHeld ?_
  · intro W' hSW; clear hHeld; go_simp
  try simp only [Act.put, List.getElem_toArray, List.getElem_cons_zero, List.getElem_cons_succ, List.setIfInBounds_toArray, List.set_cons_zero, List.set_cons_succ]
  refine wpAnyH_take (i := 6) (v := .pointer (some ⟨b, 0, none⟩)) rfl (by kernel_rfl) (by kernel_rfl) (by kernel_rfl) (fun _ _ _ h => h) (Or.inl ⟨by rfl, ?_⟩) hHeld ?_
  · intro W' hSW; clear hHeld; go_simp
  try simp only [Act.put, List.getElem_toArray, List.getElem_cons_zero, List.getElem_cons_succ, List.setIfInBounds_toArray, List.set_cons_zero, List.set_cons_succ]
  refine wpAnyH_take (i := 7) (v := .pointer (some ⟨b, 0, none⟩)) rfl (by kernel_rfl) (by kernel_rfl) (by kernel_rfl) (fun _ _ _ h => h) (Or.inl ⟨by rfl, ?_⟩) hHeld ?_
  · intro W' hSW; clear hHeld; go_simp
  try simp only [Act.put, List.getElem_toArray, List.getElem_cons_zero, List.getElem_cons_succ, List.setIfInBounds_toArray, List.set_cons_zero, List.set_cons_succ]
  refine wpAnyH_take (i := 8) (v := .slice (some ⟨g, 0, none⟩) n n) rfl (by kernel_rfl) (by kernel_rfl) (by kernel_rfl) (fun _ _ _ h => h) (Or.inl ⟨by rfl, ?_⟩) hHeld ?_
  · intro W' hSW; clear hHeld; go_simp
  try simp only [Act.put, List.getElem_toArray, List.getElem_cons_zero, List.getElem_cons_succ, List.setIfInBounds_toArray, List.set_cons_zero, List.set_cons_succ]
  refine wpAnyH_take (i := 9) (v := .int .i64 (i : Int)) rfl (by kernel_rfl) (by kernel_rfl) (by kernel_rfl) (fun _ _ _ h => h) (Or.inl ⟨by rfl, ?_⟩) hHeld ?_
  · intro W' hSW; clear hHeld; go_simp
  try simp only [Act.put, List.getElem_toArray, List.getElem_cons_zero, List.getElem_cons_succ, List.setIfInBounds_toArray, List.set_cons_zero, List.set_cons_succ]
  refine wpAnyH_take (i := 10) (v := .pointer (some ⟨g, i, none⟩)) rfl (by kernel_rfl) (by kernel_rfl) (by kernel_rfl) (fun _ _ _ h => h) (Or.inl ⟨by rfl, ?_⟩) hHeld ?_
  · intro W' hSW; clear hHeld; go_simp
  try simp only [Act.put, List.getElem_toArray, List.getElem_cons_zero, List.getElem_cons_succ, List.setIfInBounds_toArray, List.set_cons_zero, List.set_cons_succ]
  refine wpAnyH_ready (rs := [11]) (by kernel_rfl) (by simp) ?_
  refine AllReadyH.cons rfl (fun K hK => ?_) AllReadyH.nil
  go_simp
  refine hK.out _ _ (Hsk.out _ q1) (fun hHeld => ?_)
  clear hK K
  try simp only [Act.put, List.getElem_toArray, List.getElem_cons_zero, List.getElem_cons_succ, List.setIfInBounds_toArray, List.set_cons_zero, List.set_cons_succ]
  refine wpAnyH_ready (rs := [12]) (by kernel_rfl) (by simp) ?_
  refine AllReadyH.cons rfl (fun K hK => ?_) AllReadyH.nil
  go_simp
  refine (delete_first (.slice (some ⟨gL, 0, none⟩) (l + 1) cL) x lt wr.drew (by have h9 := Hown.out; rw [Hl.out] at h9 ⊢; exact h9) (by have := Hl.out; omega)).mono ?_
  rintro e w5 ⟨v', rfl, hown5, hb5, hk5⟩
  obtain ⟨a5, c5, hv5, _⟩ := Src.of_own hown5
  have q4 : Kept (fun k => (Value.slice (some ⟨gL, 0, none⟩) (l + 1) cL).ownBlock = some k ∨ k = g) wr w5 := (q1.trans' hk5 (fun _ _ h => .inl h))
  have hg5 := hk5.heap (k := g) (show wr.drew.heap[g]? = _ from hgh) (fun e => (Hnb.out g e).2 rfl)
  have ef := frozen_of_row w5 g i curg 38 hg5
  have ei := cell_kept hk5 (show wr.drew.cell? ⟨g, i, none⟩ = _ from ci) (fun e => (Hnb.out g e).2 rfl)
  have q5 : Kept (fun k => (Value.slice (some ⟨gL, 0, none⟩) (l + 1) cL).ownBlock = some k ∨ k = g) wr (w5.setCell ⟨g, i, none⟩ (.slice a5 lt.length c5)) := q4.trans' ((Kept.refl (fun k => k = g) w5).setCell (.inr rfl) _) (fun _ _ h => .inr h)
  subst hv5
  refine hK.out _ _ (Hsk.out _ q4) (fun hHeld => ?_)
  clear hK K
  try simp only [Act.put, List.getElem_toArray, List.getElem_cons_zero, List.getElem_cons_succ, List.setIfInBounds_toArray, List.set_cons_zero, List.set_cons_succ]
  refine wpAnyH_take (i := 13) (v := .pointer (some ⟨g, i, none⟩)) rfl (by kernel_rfl) (by kernel_rfl) (by kernel_rfl) (fun _ _ _ h => h) (Or.inl ⟨by rfl, ?_⟩) hHeld ?_
  · intro W' hSW; clear hHeld; go_simp
  try simp only [Act.put, List.getElem_toArray, List.getElem_cons_zero, List.getElem_cons_succ, List.setIfInBounds_toArray, List.set_cons_zero, List.set_cons_succ]
  refine wpAnyH_ready (rs := [14]) (by kernel_rfl) (by simp) ?_
  refine AllReadyH.cons rfl (fun K hK => ?_) AllReadyH.nil
  go_simp
  refine hK.out _ _ (Hsk.out _ q5) (fun hHeld => ?_)
  clear hK K
  try simp only [Act.put, List.getElem_toArray, List.getElem_cons_zero, List.getElem_cons_succ, List.setIfInBounds_toArray, List.set_cons_zero, List.set_cons_succ]
  refine wpAnyH_done (by kernel_rfl) ?_ _
  have hsz5 := hk5.size
  have hws : wr.heap.size = w.heap.size + 2 := HsB.out
  have hne : ∀ q, w.heap.size ≤ q → ¬ ((Value.slice (some ⟨gL, 0, none⟩) (l + 1) cL).ownBlock = some q ∨ q = g) := fun q hq h => h.elim (fun e => by have := Hszv.out q e; omega) (fun e => by omega)
  obtain ⟨y0, y1, y2⟩ := of3 (q5.heap Hq6.out (hne _ (by omega)))
  have h4 := q5.heap Hq4.out (hne _ (by omega))
  obtain ⟨t0, t1, t2⟩ := of3 h4
  have f0 := free_blk h4 0
  have f1 := free_blk h4 1
  have f2 := free_blk h4 2
  obtain ⟨hw2, hk2⟩ := Bw.put HB.out Hvi.out HL.out ((Kept.refl (fun k => (Value.slice (some ⟨gL, 0, none⟩) (l + 1) cL).ownBlock = some k) wr).drew.trans hk5) (v' := .slice a5 lt.length c5) (L' := lt) hown5 (fun k hk => .inl (by rw [← hb5]; exact hk))
  have Hw2 := Lib.hid hw2
  have Hk2 := Lib.hid hk2
  obtain ⟨w6, hw6⟩ : ∃ w6, w6 = w5.setCell ⟨g, i, none⟩ (.slice a5 lt.length c5) := ⟨_, rfl⟩
  rw [← hw6] at y0 y1 y2 h4 t0 t1 t2 f0 f1 f2 Hw2 Hk2 ⊢
  clear hw6 hw2 hk2 q5 q4 ei ef hg5 hown5 hb5 hHeld
  have kz : Kept (fun k => k = w.heap.size) w6 (((w6.setCell ⟨w.heap.size, 0, none⟩ (.int .i64 x.fr)).setCell ⟨w.heap.size, 1, none⟩ (.int .i64 x.kd)).setCell ⟨w.heap.size, 2, none⟩ (.int .i64 x.ab)) := (Kept.refl (fun k => k = w.heap.size) w6).setCell (.inr rfl) _ |>.setCell (.inr rfl) _ |>.setCell (.inr rfl) _
  have Kz := Lib.hid kz
  clear kz
  go_wp2_with fail
  refine bodyPost_ret (v := .tuple #[aggM x, .bool true]) (by rw [results_cell_tmp rfl]; go_simp) rfl ⟨rfl, ?_⟩
  refine ⟨Bs.mono (Bs.kept ⟨g, _, Hw2.out⟩ Kz.out (fun k h e => ?_)) (fun k h => ?_), ?_⟩
  · rcases h with h | h
    · have := h.2; omega
    · omega
  · rcases h with h | h
    · exact .inl h.1
    · exact .inr (by omega)
  · exact ((KB.out.mono (fun _ _ h => h.elim)).trans' Hk2.out (fun k _ h => h.1)).trans' Kz.out (fun k hk e => by omega)
end Go.Proofs.Ytfdnmgebpfopjaa

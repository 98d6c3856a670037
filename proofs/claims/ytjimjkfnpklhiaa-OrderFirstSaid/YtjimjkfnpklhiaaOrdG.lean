/- Package order: First, Line, Waits of another number of cores. -/
import Derived.Test.YtjimjkfnpklhiaaOrdF
set_option linter.all false
namespace Go.Proofs.Ytjimjkfnpklhiaa
open Go.RowKit Go.Maps

set_option maxRecDepth 100000 in
theorem watched_no (n : Int) (lv : Value) (L : List Sn) (w : World) (h1 : n < 1 ∨ 8 < n) (hs : Src w lv L.length 10 (L.flatMap encS)) (hv : ∀ s ∈ L, Src w s.v s.t.fg.length 4 (s.t.fg.flatMap encL)) (hl : L.length ≤ 1000) (r : Int) (hr : (if L.length = 0 then -1 else 0) = r) :
    Calls Try.prog 21 #[.int .i64 n, lv] w fun e w' => ∃ b mb, (e = .returned (.tuple #[.pointer (some ⟨b, 0, none⟩), .int .i64 r]) ∧ w'.heap[b]? = some (.cells #[.pointer none, .map (some mb), .int .i64 0] 50 (0, 0))) ∧ New w w' := by
  obtain ⟨-, ao, cc, rfl, -⟩ := hs.seen
  obtain ⟨len, hlen⟩ : ∃ len, len = L.length := ⟨_, rfl⟩
  rw [← hlen] at hl hr hs ⊢
  have hcall := new_no n w h1
  have Hcall := Lib.hid hcall
  have Hs := Lib.hid hs
  have Hv := Lib.hid hv
  have Hr := Lib.hid hr
  have Hlen := Lib.hid hlen
  clear hcall hv hs hr hlen h1
  have hmm := @run_makeMap Try.prog
  go_enter Try.func21, Try.ntmps21
  go_wp2_with fail
  refine Hcall.out.mono ?_
  rintro e w1 ⟨rfl, k1⟩
  have K1 : Hid (New w w1) := k1 ▸ Kept.refl _ _
  clear k1 Hcall
  go_wp2_with fail
  obtain ⟨b, hb⟩ : ∃ b, b = w1.heap.size + 1 := ⟨_, rfl⟩
  obtain ⟨mb, hmb⟩ : ∃ mb, mb = w1.heap.size := ⟨_, rfl⟩
  rw [← hb, ← hmb]
  obtain ⟨W, hW⟩ : ∃ W, W = (w1.alloc (.map #[] 0)).alloc (.cells #[.pointer none, .map (some mb), .int .i64 0] 50) := ⟨_, rfl⟩
  rw [← hW]
  have hbW : W.heap[b]? = some (.cells #[.pointer none, .map (some mb), .int .i64 0] 50 (0, 0)) := by
    rw [hW, hb, show w1.heap.size + 1 = (w1.alloc (.map #[] 0)).heap.size from (Array.size_push ..).symm]; exact heap_alloc_new _ _
  have kW : New w W := by rw [hW]; exact (K1.out.alloc _).alloc _
  have HbW := Lib.hid hbW
  have KW := Lib.hid kW
  clear hbW kW hW hb hmb K1 hmm
  refine wp_loop_once ?_
  by_cases h0 : len = 0
  · subst h0
    obtain rfl : r = -1 := by rw [← Hr.out]; rfl
    go_wp2_with fail
    go_ret2
    first
    | exact ⟨b, mb, ⟨rfl, HbW.out⟩, KW.out⟩
    | exact ⟨⟨b, rfl, mb, HbW.out⟩, KW.out⟩
    | exact ⟨b, ⟨rfl, mb, HbW.out⟩, KW.out⟩
  · obtain rfl : r = 0 := by rw [← Hr.out, if_neg h0]
    have h0' : 0 < len := by omega
    obtain ⟨s, hs⟩ : ∃ s, L[0]? = some s := ⟨_, List.getElem?_eq_getElem (by have := Hlen.out; omega)⟩
    obtain ⟨-, ao', c', he, hcl⟩ := (Hs.out.same KW.out).seen
    cases he
    obtain ⟨B, Of, rfl, c0, c1, c2, c3, c4, c5, c6, c7, c8, c9⟩ := hcl 0 s hs
    have hsv := Hv.out s (List.mem_of_getElem? hs)
    obtain ⟨av, cv, hvv⟩ : ∃ av cv, s.v = .slice av s.t.fg.length cv := by obtain ⟨av, cv, e, _⟩ := hsv; exact ⟨av, cv, e⟩
    obtain ⟨sk, sc, sn, st, sv, sfr, srt, sis⟩ := s
    simp only at hvv
    subst hvv
    simp only [Nat.zero_mul, Nat.add_zero] at c0 c1 c2 c3 c4 c5 c6 c7 c8 c9
    clear hcl hs hsv
    go_wp2_with fail
    go_ret2
    first
    | exact ⟨b, mb, ⟨rfl, (show New W _ from (Kept.refl _ W).alloc _).heap HbW.out (fun h => h)⟩, KW.out.alloc _⟩
    | exact ⟨⟨b, rfl, mb, (show New W _ from (Kept.refl _ W).alloc _).heap HbW.out (fun h => h)⟩, KW.out.alloc _⟩
    | exact ⟨b, ⟨rfl, mb, (show New W _ from (Kept.refl _ W).alloc _).heap HbW.out (fun h => h)⟩, KW.out.alloc _⟩
theorem ofirst_no (n : Int) (lv : Value) (L : List Sn) (w : World) (h1 : n < 1 ∨ 8 < n) (hs : Src w lv L.length 10 (L.flatMap encS)) (hv : ∀ s ∈ L, Src w s.v s.t.fg.length 4 (s.t.fg.flatMap encL)) (hl : L.length ≤ 1000) (r : Int) (hr : (if L.length = 0 then -1 else 0) = r) :
    Calls Try.prog 11 #[.int .i64 n, lv] w fun e w' => e = .returned (.int .i64 r) ∧ New w w' := by
  have hcall := watched_no n lv L w h1 hs hv hl r hr
  have Hcall := Lib.hid hcall
  clear hcall hs hv hr
  go_enter Try.func11, Try.ntmps11
  go_wp2_with fail
  refine Hcall.out.mono ?_
  rintro e w1 ⟨b, mb, ⟨rfl, hb⟩, k⟩
  have K := Lib.hid k
  clear hb k Hcall
  go_wp2_with fail
  go_ret
  exact ⟨rfl, K.out⟩
theorem owaits_no (n : Int) (lv : Value) (L : List Sn) (w : World) (h1 : n < 1 ∨ 8 < n) (hs : Src w lv L.length 10 (L.flatMap encS)) (hv : ∀ s ∈ L, Src w s.v s.t.fg.length 4 (s.t.fg.flatMap encL)) (hl : L.length ≤ 1000) (r : Int) (hr : (if L.length = 0 then -1 else 0) = r) :
    Calls Try.prog 18 #[.int .i64 n, lv] w fun e w' => e = .returned (.int .i64 0) ∧ New w w' := by
  have hcall := watched_no n lv L w h1 hs hv hl r hr
  have Hcall := Lib.hid hcall
  clear hcall hs hv hr
  go_enter Try.func18, Try.ntmps18
  go_wp2_with fail
  refine Hcall.out.mono ?_
  rintro e w1 ⟨b, mb, ⟨rfl, hb⟩, k⟩
  have c2 := cell_blk hb 2
  have K := Lib.hid k
  clear hb k Hcall
  go_wp2_with fail
  go_ret
  exact ⟨rfl, K.out⟩
theorem oline_no (n : Int) (lv : Value) (L : List Sn) (w : World) (h1 : n < 1 ∨ 8 < n) (hs : Src w lv L.length 10 (L.flatMap encS)) (hv : ∀ s ∈ L, Src w s.v s.t.fg.length 4 (s.t.fg.flatMap encL)) (hl : L.length ≤ 1000) (r : Int) (hr : (if L.length = 0 then -1 else 0) = r) :
    Calls Try.prog 14 #[.int .i64 n, lv] w fun e w' => e = .returned (.slice none 0 0) ∧ New w w' := by
  have hcall := watched_no n lv L w h1 hs hv hl r hr
  have Hcall := Lib.hid hcall
  clear hcall hs hv hr
  go_enter Try.func14, Try.ntmps14
  go_wp2_with fail
  refine Hcall.out.mono ?_
  rintro e w1 ⟨b, mb, ⟨rfl, hb⟩, k⟩
  have c0 := cell_blk hb 0
  have K := Lib.hid k
  clear hb k Hcall
  go_wp2_with fail
  go_ret
  exact ⟨rfl, K.out⟩
end Go.Proofs.Ytjimjkfnpklhiaa

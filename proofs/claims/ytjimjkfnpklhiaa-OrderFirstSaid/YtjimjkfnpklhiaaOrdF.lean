/- Package order: First, Line, Waits (of 1 to 8 cores). -/
import Derived.Test.YtjimjkfnpklhiaaOrdZ
set_option linter.all false
namespace Go.Proofs.Ytjimjkfnpklhiaa
open Go.RowKit Go.Maps

theorem ofirst_any (n : Nat) (lv : Value) (L : List Sn) (w : World) (h1 : 1 ≤ n) (h8 : n ≤ 8) (hs : Src w lv L.length 10 (L.flatMap encS)) (hv : ∀ s ∈ L, Src w s.v s.t.fg.length 4 (s.t.fg.flatMap encL) ∧ s.t.fg.length ≤ 1000000) (hl : L.length ≤ 1000) (r : Int) (E : List En) (m : Nat) (hg : goE n [] 0 L 0 = (r, E, m)) :
    Calls Try.prog 11 #[.int .i64 n, lv] w fun e w' => e = .returned (.int .i64 r) ∧ New w w' := by
  have hcall := watched_any n lv L w h1 h8 hs hv hl r E m hg
  have Hcall := Lib.hid hcall
  clear hcall hs hv hg
  go_enter Try.func11, Try.ntmps11
  go_wp2_with fail
  refine Hcall.out.mono ?_
  rintro e w1 ⟨b, lb, g, mb, Q, rfl, -, hT⟩
  have K := Lib.hid hT.new
  clear hT Hcall
  go_wp2_with fail
  go_ret
  exact ⟨rfl, K.out⟩

theorem owaits_any (n : Nat) (lv : Value) (L : List Sn) (w : World) (h1 : 1 ≤ n) (h8 : n ≤ 8) (hs : Src w lv L.length 10 (L.flatMap encS)) (hv : ∀ s ∈ L, Src w s.v s.t.fg.length 4 (s.t.fg.flatMap encL) ∧ s.t.fg.length ≤ 1000000) (hl : L.length ≤ 1000) (r : Int) (E : List En) (m : Nat) (hg : goE n [] 0 L 0 = (r, E, m)) :
    Calls Try.prog 18 #[.int .i64 n, lv] w fun e w' => e = .returned (.int .i64 m) ∧ New w w' := by
  have hcall := watched_any n lv L w h1 h8 hs hv hl r E m hg
  have Hcall := Lib.hid hcall
  clear hcall hs hv hg
  go_enter Try.func18, Try.ntmps18
  go_wp2_with fail
  refine Hcall.out.mono ?_
  rintro e w1 ⟨b, lb, g, mb, Q, rfl, -, hT⟩
  have c2 := cell_blk hT.blk 2
  have K := Lib.hid hT.new
  clear hT Hcall
  go_wp2_with fail
  go_ret
  exact ⟨rfl, K.out⟩

theorem oline_any (n : Nat) (lv : Value) (L : List Sn) (w : World) (h1 : 1 ≤ n) (h8 : n ≤ 8) (hs : Src w lv L.length 10 (L.flatMap encS)) (hv : ∀ s ∈ L, Src w s.v s.t.fg.length 4 (s.t.fg.flatMap encL) ∧ s.t.fg.length ≤ 1000000) (hl : L.length ≤ 1000) (r : Int) (E : List En) (m : Nat) (hg : goE n [] 0 L 0 = (r, E, m)) :
    Calls Try.prog 14 #[.int .i64 n, lv] w fun e w' => ∃ v, e = .returned v ∧ w'.ownsRow w.heap.size 3 1 v E.length ((coreL E).map (Value.int .i64)) ∧ New w w' := by
  have hcall := watched_any n lv L w h1 h8 hs hv hl r E m hg
  have Hcall := Lib.hid hcall
  clear hcall hs hv hg
  go_enter Try.func14, Try.ntmps14
  go_wp2_with fail
  refine Hcall.out.mono ?_
  rintro e w1 ⟨b, lb, g, mb, Q, rfl, rfl, hT⟩
  have c0 := cell_blk hT.blk 0
  have hline := lock_line lb g n (coresE Q) w1 hT.lock
  have Hline := Lib.hid hline
  have K := Lib.hid hT.new
  clear hT Hcall hline
  go_wp2_with fail
  refine Hline.out.mono ?_
  rintro e w2 ⟨v, rfl, hown, hk⟩
  have Own := Lib.hid hown
  have K2 := Lib.hid hk
  clear hown hk Hline
  go_wp2_with fail
  go_ret
  refine ⟨_, rfl, ?_, K.out.trans K2.out⟩
  have h9 := own_mono Own.out K.out.size
  rw [List.length_map] at h9 ⊢
  rw [show coreL (Q.map Prod.fst) = coresE Q by simp [List.map_map, Function.comp_def]]
  exact h9
end Go.Proofs.Ytjimjkfnpklhiaa

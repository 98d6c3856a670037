/- Package lock: the contracts with the answers given as equations; the laws' own 'fixed'. -/
import Derived.Test.YtbnjfkfmkbijnaaLockD
set_option linter.all false
namespace Go.Proofs.Ytbnjfkfmkbijnaa
open Go.RowKit

abbrev LK (lo : Nat) := Lock (fun k => lo ≤ k)
section
variable {lo : Nat}
theorem enter1 (b g n : Nat) (L L' : List Int) (c r : Int) (w : World) (h : LK lo w b g n L) (hlo : lo ≤ w.heap.size) (hr : enterE n L c = (r, L')) :
    Calls Try.prog 12 #[.pointer (some ⟨b, 0, none⟩), .int .i64 c] w fun e w' => e = .returned (.int .i64 r) ∧ LK lo w' b g n L' ∧ Kept (fun k => lo ≤ k ∧ Lt w k) w w' := by
  have := lock_enter b g n L c w h
  rw [hr] at this
  exact this.mono (by rintro e w' ⟨h1, h2, h3⟩; exact ⟨h1, h2.mono (fun k hk => by omega), h3⟩)
theorem leave1 (b g n : Nat) (L L' : List Int) (c r : Int) (w : World) (h : LK lo w b g n L) (hr : leaveE n L c = (r, L')) :
    Calls Try.prog 11 #[.pointer (some ⟨b, 0, none⟩), .int .i64 c] w fun e w' => e = .returned (.int .i64 r) ∧ LK lo w' b g n L' ∧ Kept (fun k => lo ≤ k ∧ Lt w k) w w' := by
  have := lock_leave b g n L c w h
  rwa [hr] at this
theorem probe1 {O : Nat → Prop} (b g n : Nat) (L : List Int) (c r : Int) (x : Bool) (w : World) (h : Lock O w b g n L) (hr : probeE n L c = (x, r)) :
    Calls Try.prog 13 #[.pointer (some ⟨b, 0, none⟩), .int .i64 c] w fun e w' => e = .returned (.tuple #[.bool x, .int .i64 r]) ∧ w = w' := by
  have := lock_probe b g n L c w h
  rwa [hr] at this
theorem holder1 {O : Nat → Prop} (b g n : Nat) (L : List Int) (r : Int) (x : Bool) (w : World) (h : Lock O w b g n L) (hr : holderE L = (r, x)) :
    Calls Try.prog 10 #[.pointer (some ⟨b, 0, none⟩)] w fun e w' => e = .returned (.tuple #[.int .i64 r, .bool x]) ∧ w = w' := by
  have := lock_holder b g n L w h
  rwa [hr] at this
theorem ahead1 {O : Nat → Prop} (b g n : Nat) (L : List Int) (c r : Int) (w : World) (h : Lock O w b g n L) (hr : pos c L = r) :
    Calls Try.prog 14 #[.pointer (some ⟨b, 0, none⟩), .int .i64 c] w fun e w' => e = .returned (.int .i64 r) ∧ New w w' := by
  have := lock_ahead b g n L c w h
  rwa [hr] at this
end

set_option maxRecDepth 100000 in
set_option maxHeartbeats 2000000 in
theorem fixed_any (w : World) : Calls Try.prog 17 #[] w fun e w' => e = .returned (.bool true) ∧ New w w' := by
  go_enter Try.func17, Try.ntmps17
  go_wp2_with fail
  refine (lock_new 3 _ (by decide) (by decide)).mono ?_
  rintro e w1 ⟨rfl, hM, hk⟩
  replace hM : LK w.heap.size w1 (w.heap.size + 1) w.heap.size 3 [] := hM
  go_wp2_with fail
  refine (enter1 _ _ _ _ _ 2 _ _ hM hk.size (show _ = (0, [2]) by decide)).mono ?_
  rintro e w2 ⟨rfl, hM2, hk2⟩
  replace hk2 := hk.new hk2 (fun i hi => hi.1)
  clear hM hk
  go_wp2_with fail
  refine (enter1 _ _ _ _ _ 0 _ _ hM2 hk2.size (show _ = (0, [2, 0]) by decide)).mono ?_
  rintro e w3 ⟨rfl, hM3, hk3⟩
  replace hk3 := hk2.new hk3 (fun i hi => hi.1)
  clear hM2 hk2
  go_wp2_with fail
  refine (holder1 _ _ _ _ _ _ _ hM3 rfl).mono ?_
  rintro e w4 ⟨rfl, rfl⟩
  go_wp2_with fail
  refine (probe1 _ _ _ _ 0 _ _ _ hM3 (show _ = (false, 0) by decide)).mono ?_
  rintro e w4 ⟨rfl, rfl⟩
  go_wp2_with fail
  refine (enter1 _ _ _ _ _ 2 _ _ hM3 hk3.size (show _ = (160, [2, 0]) by decide)).mono ?_
  rintro e w2 ⟨rfl, hM2, hk2⟩
  replace hk2 := hk3.new hk2 (fun i hi => hi.1)
  clear hM3 hk3
  go_wp2_with fail
  refine (leave1 _ _ _ _ _ 0 _ _ hM2 (show _ = (161, [2, 0]) by decide)).mono ?_
  rintro e w3 ⟨rfl, hM3, hk3⟩
  replace hk3 := hk2.new hk3 (fun i hi => hi.1)
  clear hM2 hk2
  go_wp2_with fail
  refine (ahead1 _ _ _ _ 0 1 _ hM3 (by decide)).mono ?_
  rintro e w2 ⟨rfl, hk2⟩
  have hM2 := hM3.same hk2
  replace hk2 := hk3.trans hk2
  clear hM3 hk3
  go_wp2_with fail
  refine (leave1 _ _ _ _ _ 2 _ _ hM2 (show _ = (0, [0]) by decide)).mono ?_
  rintro e w3 ⟨rfl, hM3, hk3⟩
  replace hk3 := hk2.new hk3 (fun i hi => hi.1)
  clear hM2 hk2
  go_wp2_with fail
  refine (holder1 _ _ _ _ _ _ _ hM3 rfl).mono ?_
  rintro e w4 ⟨rfl, rfl⟩
  go_wp2_with fail
  refine (probe1 _ _ _ _ 1 _ _ _ hM3 (show _ = (false, 161) by decide)).mono ?_
  rintro e w4 ⟨rfl, rfl⟩
  go_wp2_with fail
  refine (probe1 _ _ _ _ 3 _ _ _ hM3 (show _ = (false, 1) by decide)).mono ?_
  rintro e w4 ⟨rfl, rfl⟩
  go_wp2_with fail
  refine (new_no 9 _ (by decide)).mono ?_
  rintro e w4 ⟨rfl, rfl⟩
  go_wp2_with fail
  refine (lock_line _ _ _ _ _ hM3).mono ?_
  rintro e w4 ⟨v, rfl, hown, hk4⟩
  replace hk4 := hk3.trans hk4
  clear hM3 hk3
  go_wp2_with fail
  refine (nums_any _ _ 1 1 [0] [0] _ ((Src.of_own hown).alloc _) (Src.lit w4 #[.int .i64 0] 3 1 1 rfl) (by decide) (by decide)).mono ?_
  rintro e w5 ⟨rfl, hk5⟩
  go_wp2
  go_ret
  exact ⟨rfl, (hk4.alloc _).trans hk5⟩
end Go.Proofs.Ytbnjfkfmkbijnaa

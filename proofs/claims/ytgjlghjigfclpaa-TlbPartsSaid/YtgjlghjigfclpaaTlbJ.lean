/- Package tlb: Fill whole; the calls whose answers the document fixes. -/
import Derived.Test.YtgjlghjigfclpaaTlbH
import Derived.Test.YtgjlghjigfclpaaTlbI
set_option linter.all false
namespace Go.Proofs.Ytgjlghjigfclpaa
open Go.RowKit

theorem fill_any {O : Nat → Prop} (b room : Nat) (L L' : List Ln) (x : Ln) (w : World) (h : Tb O w b room L) (hL : L.length ≤ room) (h0 : 1 ≤ room) (hr : room ≤ 1000) (hE : fillE room L x = L') :
    Calls Try.prog 12 #[.pointer (some ⟨b, 0, none⟩), aggL x] w fun e w' => e = .returned (.tuple #[]) ∧ Tb (fun k => O k ∨ w.heap.size ≤ k) w' b room L' ∧ Kept O w w' := by
  have hle : (dropP x.sp x.pg L).length ≤ L.length := List.length_filter_le _ _
  by_cases hd : (dropP x.sp x.pg L).length = L.length
  · have hM : dropP x.sp x.pg L = L := (List.filter_sublist (l := L)).eq_of_length hd
    by_cases hrm : room ≤ L.length
    · have hE' : L' = L.tail ++ [x] := by rw [← hE, fillE, if_pos ⟨hd, hrm⟩]
      cases L with
      | nil => simp at hrm; omega
      | cons a l =>
        rw [hE']
        exact fill_b b room (a :: l) a l x w h rfl (by omega) hM hrm
    · have hE' : L' = L ++ [x] := by rw [← hE, fillE, if_neg (fun h => hrm h.2), hM]
      rw [hE']
      exact fill_c b room L x w h (by omega) hM (by omega)
  · have hE' : L' = dropP x.sp x.pg L ++ [x] := by rw [← hE, fillE, if_neg (fun h => hd h.1)]
    rw [hE']
    refine (fill_a b room L _ x (L.length - (dropP x.sp x.pg L).length) w h.sized (fun k hk => hk.2) (by omega) rfl (by omega) (by omega)).mono ?_
    rintro e w' ⟨h1, h2, h3⟩
    exact ⟨h1, h2.mono (fun k hk => hk.imp (fun h => h.1) id), h3.mono (fun _ _ h => h.1)⟩

theorem length_fillE (room : Nat) (L : List Ln) (x : Ln) (hL : L.length ≤ room) (h0 : 1 ≤ room) : (fillE room L x).length ≤ room := by
  have hle : (dropP x.sp x.pg L).length ≤ L.length := List.length_filter_le _ _
  unfold fillE
  split
  · simp; omega
  · rename_i h
    simp only [List.length_append, List.length_cons, List.length_nil]
    by_cases hd : (dropP x.sp x.pg L).length = L.length
    · have : ¬ room ≤ L.length := fun h' => h ⟨hd, h'⟩
      omega
    · omega

def fv (i : Nat) : Int := [1, 2, 1, 3].getD i 0
def fx (v : Int) : Ln := ⟨7, v, v, 1⟩
def fF (i : Nat) : List Ln := [[], [fx 1], [fx 1, fx 2], [fx 2, fx 1], [fx 1, fx 3]].getD i []
theorem fF_step : ∀ i, i < 4 → fillE 2 (fF i) (fx (fv i)) = fF (i + 1) ∧ (fF i).length ≤ 2 := by decide

set_option maxRecDepth 100000 in
set_option maxHeartbeats 2000000 in
theorem fixed_any (w : World) : Calls Try.prog 10 #[] w fun e w' => e = .returned (.bool true) ∧ New w w' := by
  go_enter Try.func10, Try.ntmps10
  go_wp2_with fail
  refine (new_yes 2 w (by decide) (by decide)).mono ?_
  rintro e w1 ⟨rfl, hT, hk1⟩
  replace hT := hT.sized
  go_wp2_with fail
  obtain ⟨tb, htb⟩ : ∃ tb, tb = w.heap.size := ⟨_, rfl⟩
  obtain ⟨ab, hab⟩ : ∃ ab, ab = w1.heap.size := ⟨_, rfl⟩
  have Hab := Lib.hid hab
  have Htb := Lib.hid htb
  rw [← hab] at hT
  have hnew := hk1.alloc (.cells #[.int .i64 1, .int .i64 2, .int .i64 1, .int .i64 3] 3)
  have hat0 := heap_alloc_new w1 (.cells #[.int .i64 1, .int .i64 2, .int .i64 1, .int .i64 3] 3)
  rw [← hab] at hat0
  have hT0 := hT.alloc (.cells #[.int .i64 1, .int .i64 2, .int .i64 1, .int .i64 3] 3)
  obtain ⟨W, hW⟩ : ∃ W, W = w1.alloc (.cells #[.int .i64 1, .int .i64 2, .int .i64 1, .int .i64 3] 3) := ⟨_, rfl⟩
  rw [← hW] at hnew hat0 hT0 ⊢
  rw [← htb] at hT0 ⊢
  rw [← hab]
  clear hT hk1 hW hab htb
  go_loopw [4] (fun i wr => ∃ k : Nat, k ≤ 4 ∧ i = .int .i64 k ∧ New w wr ∧ wr.heap[ab]? = some (.cells #[.int .i64 1, .int .i64 2, .int .i64 1, .int .i64 3] 3 (0, 0)) ∧ ∃ O, Tb O wr tb 2 (fF k) ∧ Hid (∀ k, O k → w.heap.size ≤ k ∧ k ≠ ab)) (fun i _ => 4 - (intOf i).toNat)
  case atStart => exact ⟨0, by omega, rfl, hnew, hat0, _, hT0, fun k hk => ⟨by have := hk.1; have := Htb.out; omega, by have := hk.2; omega⟩⟩
  case round =>
    obtain ⟨k, hk, rfl, hkr, hat, O, hT, HO⟩ := hrel
    by_cases h1 : k < 4
    · have h1' : (k : Int) < 4 := by omega
      have hcell : wr.cell? ⟨ab, k, none⟩ = some (.int .i64 (fv k)) := by
        rw [cell_blk hat k]
        obtain rfl | rfl | rfl | rfl : k = 0 ∨ k = 1 ∨ k = 2 ∨ k = 3 := by omega
        all_goals rfl
      obtain ⟨hstep, hlen⟩ := fF_step k h1
      obtain ⟨v, hv⟩ : ∃ v, v = fv k := ⟨_, rfl⟩
      rw [← hv] at hcell hstep
      have Hstep := Lib.hid hstep
      clear hv hstep
      go_wp2_with fail
      go_still_tail 11, (by kernel_rfl)
      change wpList _ _ _ _ _ wr.drew
      go_wp2_with fail
      refine (fill_any tb 2 (fF k) (fF (k + 1)) (fx v) wr.drew (hT.same (Kept.refl _ _).drew) hlen (by omega) (by omega) Hstep.out).mono ?_
      rintro e w2 ⟨rfl, hT2, hk2⟩
      have hat2 := hk2.heap (k := ab) hat (fun h => (HO.out _ h).2 rfl)
      have hk02 := (hkr.drew).new hk2 (fun i hi => (HO.out i hi).1)
      have hablt := lt_of_heap hat
      go_wp2_with fail
      go_roundw
      case rel => exact ⟨k + 1, by omega, by go_num, hk02, hat2, _, hT2, fun i hi => by
        rcases hi with hi | hi
        · exact HO.out i hi
        · have := hkr.size
          have hi : wr.heap.size ≤ i := hi
          exact ⟨by omega, by omega⟩⟩
      case measure => simp [intOf]; omega
    · obtain rfl : k = 4 := by omega
      replace hT : Tb O wr tb 2 [fx 1, fx 3] := hT
      go_wp2_with fail
      refine (look_any tb 2 _ 7 1 1 1 true wr hT (by decide) (by decide)).mono ?_
      rintro e w2 ⟨rfl, hk2⟩
      replace hT := hT.same hk2
      replace hkr := hkr.trans hk2
      clear hk2 hat
      go_wp2_with fail
      refine (look_any tb 2 _ 7 2 0 0 false _ (hT.alloc _) (by decide) (by decide)).mono ?_
      rintro e w3 ⟨rfl, hk3⟩
      have hbx := hk3.heap (heap_alloc_new w2 (.cells #[.int .i64 1, .int .i64 1] 32)) (fun h => h)
      have hby := ((Kept.refl (fun _ => False) w3).alloc (.cells #[.int .i64 0, .int .i64 0] 32)).heap hbx (fun h => h)
      have z0 := cell_blk hby 0
      have z1 := cell_blk hby 1
      have hbl := lt_of_heap hbx
      clear hbx hby
      replace hT := (hT.alloc _).same hk3
      replace hkr := (hkr.alloc _).trans hk3
      clear hk3
      go_wp2_with fail
      refine (new_no 0 _ (by decide)).mono ?_
      rintro e w4 ⟨rfl, rfl⟩
      go_wp2_with fail
      refine (lines_any tb 2 _ _ (hT.alloc _) (by decide)).mono ?_
      rintro e w5 ⟨v5, rfl, hown5, hk5⟩
      replace hT := (hT.alloc _).same hk5
      replace hkr := (hkr.alloc _).trans hk5
      obtain ⟨ao5, c5, rfl, -⟩ := Src.of_own hown5
      clear hown5 hk5 z0 z1 hbl
      go_wp2_with fail
      refine (frame_any tb 2 [fx 1, fx 3] [fx 1] 3 1 _ hT (by decide) (by decide) (by decide)).mono ?_
      rintro e w6 ⟨rfl, hT6, hk6⟩
      replace hkr := hkr.new hk6 (fun i hi => (HO.out i hi).1)
      clear hk6 hT
      go_wp2_with fail
      refine (space_any tb 2 [fx 1] [fx 1] 8 0 _ hT6 (by decide) (by decide) (by decide)).mono ?_
      rintro e w7 ⟨rfl, hT7, hk7⟩
      replace hkr := hkr.new hk7 (fun i hi => (HO.out i hi).1)
      clear hk7 hT6
      go_wp2_with fail
      refine (drop2_any tb 2 [fx 1] [] 7 1 _ hT7 (by decide) (by decide) true (by decide)).mono ?_
      rintro e w8 ⟨rfl, hT8, hk8⟩
      replace hkr := hkr.new hk8 (fun i hi => (HO.out i hi).1)
      clear hk8 hT7
      go_wp2_with fail
      refine (drop2_any tb 2 [] [] 7 1 _ hT8 (by decide) (by decide) false (by decide)).mono ?_
      rintro e w9 ⟨rfl, hT9, hk9⟩
      replace hkr := hkr.new hk9 (fun i hi => (HO.out i hi).1)
      clear hk9 hT8
      go_wp2_with fail
      go_ret
      exact ⟨rfl, hkr⟩
end Go.Proofs.Ytgjlghjigfclpaa

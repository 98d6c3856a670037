/- The walk of the law NotifyBits. -/
import Derived.Test.YtaaoegfdhpploaaNotE
set_option linter.all false
namespace Go.Proofs.Ytaaoegfdhpploaa
open Go.RowKit

/-- All that came in, what was got, the word. -/
def BitsOk (vi vo wd : Int) : Prop := ∃ A B W : BitVec 64, vi = (A.toNat : Int) ∧ vo = (B.toNat : Int) ∧ wd = (W.toNat : Int) ∧ A = B ||| W
theorem BitsOk.test {vi vo wd : Int} (h : BitsOk vi vo wd) : bits .or .u64 vo wd = vi := by
  obtain ⟨A, B, W, rfl, rfl, rfl, rfl⟩ := h
  exact or_u64 B W
theorem BitsOk.got {vi vo wd : Int} (h : BitsOk vi vo wd) : BitsOk vi (bits .or .u64 vo wd) 0 := by
  obtain ⟨A, B, W, rfl, rfl, rfl, rfl⟩ := h
  exact ⟨_, _, 0#64, rfl, or_u64 B W, rfl, by simp⟩
theorem BitsOk.zero {vi vo wd : Int} (h : BitsOk vi vo wd) : bits .or .u64 vo 0 = vo := by
  obtain ⟨A, B, W, rfl, rfl, rfl, rfl⟩ := h
  have := or_u64 B 0#64
  simpa using this
theorem BitsOk.both {vi vo wd bg : Int} (h : BitsOk vi vo wd) (hb : (Lit.int .u64 bg).wf = true) : BitsOk (bits .or .u64 vi bg) (bits .or .u64 vo bg) wd := by
  obtain ⟨A, B, W, rfl, rfl, rfl, rfl⟩ := h
  obtain ⟨C, rfl⟩ := u64_bv hb
  refine ⟨_, _, W, or_u64 _ C, or_u64 B C, rfl, ?_⟩
  rw [BitVec.or_assoc, BitVec.or_assoc, BitVec.or_comm W C]
theorem BitsOk.word {vi vo wd bg : Int} (h : BitsOk vi vo wd) (hb : (Lit.int .u64 bg).wf = true) : BitsOk (bits .or .u64 vi bg) vo (bits .or .u64 wd bg) := by
  obtain ⟨A, B, W, rfl, rfl, rfl, rfl⟩ := h
  obtain ⟨C, rfl⟩ := u64_bv hb
  exact ⟨_, B, _, or_u64 _ C, rfl, or_u64 W C, by rw [BitVec.or_assoc]⟩

set_option maxRecDepth 100000 in
set_option maxHeartbeats 4000000 in
theorem walkNotifyBits (w : World) (v : Value) (rows : List (List Value)) (hs : Src w v rows.length 4 rows.flatten) (hr : ∀ x ∈ rows, FlatOk [.int .i64, .int .u64, .int .i64, .bool] x) (hm : rows.length ≤ maxLen) :
    Calls Try.prog 3 #[v] w fun e w' => e = .returned (.bool true) ∧ Below w.heap.size w w' := by
  unfold maxLen at hm
  obtain ⟨ao, c, rfl, hc⟩ := hs.rows rfl rfl hr (by decide)
  have Hc := Lib.hid hc
  clear hc hs
  obtain ⟨len, hlen⟩ : ∃ len, len = rows.length := ⟨_, rfl⟩
  rw [← hlen] at hm Hc ⊢
  clear hlen hr
  go_enter Try.func3, Try.ntmps3
  go_wp2_with fail
  refine (new_any w).mono ?_
  rintro e w1 ⟨rfl, hN, hk1⟩
  obtain ⟨b, hb⟩ : ∃ b, b = w.heap.size := ⟨_, rfl⟩
  have hN1 : Nt (fun k => w.heap.size ≤ k) w1 b 0 false [] := by rw [hb]; exact hN
  rw [← hb]
  clear hb hN
  go_wp2_with fail
  go_loopw [4, 5, 6] (fun p o i wr => ∃ (j : Nat) (vi vo wd : Int) (is : Bool) (L : List Int), j ≤ len ∧ j ≤ 80 ∧ p = .int .u64 vi ∧ o = .int .u64 vo ∧ i = .int .i64 j ∧ L.length ≤ j ∧ Hid (BitsOk vi vo wd) ∧ Nt (fun k => w.heap.size ≤ k) wr b wd is L ∧ New w wr) (fun _ _ i _ => 80 - (intOf i).toNat)
  case atStart => exact ⟨0, 0, 0, 0, false, [], by omega, by omega, rfl, rfl, rfl, by simp, ⟨0#64, 0#64, 0#64, rfl, rfl, rfl, by simp⟩, hN1, hk1⟩
  case round =>
    clear hN1 hk1
    obtain ⟨j, vi, vo, wd, is, L, hjl, hj80, rfl, rfl, rfl, hLj, HB, hN, hk⟩ := hrel
    by_cases h1 : j < len
    · by_cases h2 : j < 80
      · have h2z : (j : Int) < 80 := by omega
        obtain ⟨B, O, x, rfl, hx, _, hcell⟩ := Hc.out j h1
        obtain ⟨kind, _, rfl, _, hx⟩ := hx.int
        obtain ⟨bg, _, rfl, hbg, hx⟩ := hx.int
        obtain ⟨who, _, rfl, _, hx⟩ := hx.int
        obtain ⟨wa, r9, rfl, hx9⟩ := hx.bool
        obtain rfl := hx9.nil
        have e0 := hcell 0 (.int .i64 kind) rfl
        have e1 := hcell 1 (.int .u64 bg) rfl
        have e2 := hcell 2 (.int .i64 who) rfl
        have e3 := hcell 3 (.bool wa) rfl
        have Hbg := Lib.hid hbg
        clear hcell hx hx9 hbg
        simp only [Nat.add_zero] at e0
        replace e0 := cell_kept hk e0 (fun h => h)
        replace e1 := cell_kept hk e1 (fun h => h)
        replace e2 := cell_kept hk e2 (fun h => h)
        replace e3 := cell_kept hk e3 (fun h => h)
        have hszr := hk.size
        have hz := HB.out.zero
        have hL8 : L.length ≤ 1000 := by omega
        have HN := Lib.hid (hN.sized.alloc (.cells #[.int .i64 kind, .int .u64 bg, .int .i64 who, .bool wa] 27))
        have Hbx := Lib.hid (heap_alloc_new wr (.cells #[.int .i64 kind, .int .u64 bg, .int .i64 who, .bool wa] 27))
        have Hk := Lib.hid (hk.alloc (.cells #[.int .i64 kind, .int .u64 bg, .int .i64 who, .bool wa] 27))
        clear hN hk
        by_cases h0 : kind = 0
        · subst h0
          cases L with
          | cons a l =>
            simp only [List.length_cons] at hLj hL8
            go_wp2_with fail
            refine (signal_who b wd is a l bg _ HN.out (by omega)).mono ?_
            rintro e w3 ⟨rfl, hN3, hk3⟩
            have hB3 := hk3.heap Hbx.out (fun h => by have := h.2; omega)
            have l1 := cell_blk hB3 1
            have hN3' := hN3.mono (O' := fun k => w.heap.size ≤ k) (fun k h => h.1)
            have hk3' := Hk.out.new hk3 (fun i hi => hi.1)
            clear hB3 hN3 hk3 HN Hbx Hk
            have HB2 := Lib.hid (HB.out.both Hbg.out)
            have htest := HB2.out.test
            go_wp2_with fail
            refine (word_any b _ is l w3 hN3').mono ?_
            rintro e w9 ⟨rfl, hk9⟩
            have hN9 := (hN3').same hk9
            have hkk := (hk3').trans hk9
            go_wp2_with fail
            go_roundw
            case rel => exact ⟨j + 1, _, _, _, _, _, by omega, by omega, rfl, rfl, by go_num, by omega, HB2.out, hN9, hkk⟩
            case measure => simp [intOf]; omega
          | nil =>
            obtain ⟨wd', hwd⟩ : ∃ wd', bits .or .u64 wd bg = wd' := ⟨_, rfl⟩
            have hB9 := HB.out.word Hbg.out
            rw [hwd] at hB9
            have HB9 := Lib.hid hB9
            clear hB9
            go_wp2_with fail
            refine (signal_none b wd is bg wd' _ HN.out hwd).mono ?_
            rintro e w3 ⟨rfl, hN3, hk3⟩
            have hB3 := hk3.heap Hbx.out (fun h => by have := h.2; omega)
            have l1 := cell_blk hB3 1
            have hN3' := hN3.mono (O' := fun k => w.heap.size ≤ k) (fun k h => h.1)
            have hk3' := Hk.out.new hk3 (fun i hi => hi.1)
            clear hB3 hN3 hk3 HN Hbx Hk hwd
            have HB2 := Lib.hid HB9.out
            have htest := HB2.out.test
            go_wp2_with fail
            refine (word_any b _ true [] w3 hN3').mono ?_
            rintro e w9 ⟨rfl, hk9⟩
            have hN9 := (hN3').same hk9
            have hkk := (hk3').trans hk9
            go_wp2_with fail
            go_roundw
            case rel => exact ⟨j + 1, _, _, _, _, _, by omega, by omega, rfl, rfl, by go_num, by simp, HB2.out, hN9, hkk⟩
            case measure => simp [intOf]; omega
        · have h0b : (kind == 0) = false := by simpa using h0
          have h0c : ¬ kind = 0 := h0
          by_cases hwl : who ∈ L
          · have Hwl := Lib.hid hwl
            clear hwl
            go_wp2_with fail
            refine (wait_there b wd is L who wa _ HN.out hL8 Hwl.out).mono ?_
            rintro e w3 ⟨rfl, rfl⟩
            have hN3' := HN.out.mono (O' := fun k => w.heap.size ≤ k) (fun k h => h.1)
            have hk3' := Hk.out
            clear HN Hbx Hk
            have HB2 := Lib.hid HB.out
            have htest := HB2.out.test
            go_wp2_with fail
            refine (word_any b _ is L _ hN3').mono ?_
            rintro e w9 ⟨rfl, hk9⟩
            have hN9 := (hN3').same hk9
            have hkk := (hk3').trans hk9
            go_wp2_with fail
            go_roundw
            case rel => exact ⟨j + 1, _, _, _, _, _, by omega, by omega, rfl, rfl, by go_num, by omega, HB2.out, hN9, hkk⟩
            case measure => simp [intOf]; omega
          · have Hwl := Lib.hid hwl
            clear hwl
            cases is with
            | true =>
              obtain ⟨vo', hvo⟩ : ∃ vo', bits .or .u64 vo wd = vo' := ⟨_, rfl⟩
              have hB9 := HB.out.got
              rw [hvo] at hB9
              have HB9 := Lib.hid hB9
              clear hB9
              go_wp2_with fail
              refine (wait_word b wd L who wa _ HN.out hL8 Hwl.out).mono ?_
              rintro e w3 ⟨rfl, hN3, hk3⟩
              have hN3' := hN3.mono (O' := fun k => w.heap.size ≤ k) (fun k h => h.1)
              have hk3' := Hk.out.new hk3 (fun i hi => hi.1)
              clear hN3 hk3 HN Hbx Hk
              have HB2 := Lib.hid HB9.out
              have htest := HB2.out.test
              go_wp2_with fail
              refine (word_any b _ false L w3 hN3').mono ?_
              rintro e w9 ⟨rfl, hk9⟩
              have hN9 := (hN3').same hk9
              have hkk := (hk3').trans hk9
              go_wp2_with fail
              go_roundw
              case rel => exact ⟨j + 1, _, _, _, _, _, by omega, by omega, rfl, rfl, by go_num, by omega, HB2.out, hN9, hkk⟩
              case measure => simp [intOf]; omega
            | false =>
              cases wa with
              | true =>
                go_wp2_with fail
                refine (wait_line b wd L who _ HN.out hL8 Hwl.out).mono ?_
                rintro e w3 ⟨rfl, hN3, hk3⟩
                have hsz := Hk.out.size
                have hN3' := hN3.mono (O' := fun k => w.heap.size ≤ k) (fun k h => by rcases h with h | h; exact h.1; omega)
                have hk3' := Hk.out.new hk3 (fun i hi => hi.1)
                clear hN3 hk3 HN Hbx Hk hsz
                have HB2 := Lib.hid HB.out
                have htest := HB2.out.test
                go_wp2_with fail
                refine (word_any b _ false (L ++ [who]) w3 hN3').mono ?_
                rintro e w9 ⟨rfl, hk9⟩
                have hN9 := (hN3').same hk9
                have hkk := (hk3').trans hk9
                go_wp2_with fail
                go_roundw
                case rel => exact ⟨j + 1, _, _, _, _, _, by omega, by omega, rfl, rfl, by go_num, by simp; omega, HB2.out, hN9, hkk⟩
                case measure => simp [intOf]; omega
              | false =>
                go_wp2_with fail
                refine (wait_no b wd L who _ HN.out hL8 Hwl.out).mono ?_
                rintro e w3 ⟨rfl, rfl⟩
                have hN3' := HN.out.mono (O' := fun k => w.heap.size ≤ k) (fun k h => h.1)
                have hk3' := Hk.out
                clear HN Hbx Hk
                have HB2 := Lib.hid HB.out
                have htest := HB2.out.test
                go_wp2_with fail
                refine (word_any b _ false L _ hN3').mono ?_
                rintro e w9 ⟨rfl, hk9⟩
                have hN9 := (hN3').same hk9
                have hkk := (hk3').trans hk9
                go_wp2_with fail
                go_roundw
                case rel => exact ⟨j + 1, _, _, _, _, _, by omega, by omega, rfl, rfl, by go_num, by omega, HB2.out, hN9, hkk⟩
                case measure => simp [intOf]; omega
      · have h2z : ¬ ((j : Int) < 80) := by omega
        go_wp2_with fail
        refine (fixed_any _).mono ?_
        rintro e w8 ⟨rfl, hk8⟩
        go_wp2_with fail
        go_ret
        exact ⟨rfl, none_below (hk.trans hk8)⟩
    · have h1z : ¬ ((j : Int) < len) := by omega
      go_wp2_with fail
      refine (fixed_any _).mono ?_
      rintro e w8 ⟨rfl, hk8⟩
      go_wp2_with fail
      go_ret
      exact ⟨rfl, none_below (hk.trans hk8)⟩
end Go.Proofs.Ytaaoegfdhpploaa

/- The reference's TLB: the same contracts. -/
import Derived.Test.YtgjlghjigfclpaaTlbL
set_option linter.all false
namespace Go.Proofs.Ytgjlghjigfclpaa
open Go.RowKit

def Rb (O : Nat → Prop) (w : World) (b room : Nat) (L : List Ln) : Prop :=
  ∃ v, w.heap[b]? = some (.cells #[v, .int .i64 room] 50 (0, 0)) ∧ w.ownsRow 0 34 4 v L.length (L.flatMap encL) ∧ O b ∧ ∀ k, v.ownBlock = some k → O k

section
variable {O O' F : Nat → Prop} {w w' : World} {b room : Nat} {L : List Ln}
theorem Rb.mono (h : Rb O w b room L) (hO : ∀ k, O k → O' k) : Rb O' w b room L := let ⟨v, h1, h2, h3, h4⟩ := h; ⟨v, h1, h2, hO _ h3, fun k hk => hO k (h4 k hk)⟩
theorem Rb.kept (h : Rb O w b room L) (k : Kept F w w') (hF : ∀ i, O i → ¬ F i) : Rb O w' b room L :=
  let ⟨v, h1, h2, h3, h4⟩ := h; ⟨v, k.heap h1 (hF _ h3), own_kept h2 k (fun i hi => hF i (h4 i hi)), h3, h4⟩
theorem Rb.same (h : Rb O w b room L) (k : New w w') : Rb O w' b room L := h.kept k (fun _ _ h => h)
theorem Rb.alloc (h : Rb O w b room L) (o : Obj) : Rb O (w.alloc o) b room L := h.same ((Kept.refl _ _).alloc o)
theorem Rb.sized (h : Rb O w b room L) : Rb (fun k => O k ∧ k < w.heap.size) w b room L :=
  let ⟨v, h1, h2, h3, h4⟩ := h; ⟨v, h1, h2, ⟨h3, lt_of_heap h1⟩, fun k hk => ⟨h4 k hk, own_size h2 hk⟩⟩
theorem Rb.cells (h : Rb O w b room L) : ∃ ao c, w.heap[b]? = some (.cells #[.slice ao L.length c, .int .i64 room] 50 (0, 0)) ∧ w.ownsRow 0 34 4 (.slice ao L.length c) L.length (L.flatMap encL) ∧ O b ∧ (∀ k, (Value.slice ao L.length c).ownBlock = some k → O k) ∧ (Value.slice ao L.length c).ownBlock ≠ some b := by
  obtain ⟨v, hb, hown, hOb, hOv⟩ := h
  have hvb : v.ownBlock ≠ some b := by
    intro e
    obtain ⟨cc, hcc⟩ := own_type hown e
    exact heap_ne hb hcc (by decide) rfl
  obtain ⟨ao, c, rfl, -⟩ := Src.of_own hown
  exact ⟨ao, c, hb, hown, hOb, hOv, hvb⟩
end
def RP (b room : Nat) (L : List Ln) : Thing := fun O w => Rb O w b room L
theorem RP.ok (b room : Nat) (L : List Ln) : (RP b room L).Ok := ⟨fun h k hF => Rb.kept h k hF, fun h => Rb.sized h, fun h hO => Rb.mono h hO⟩

theorem rnew_yes (n : Nat) (w : World) (h0 : 1 ≤ n) (h1 : n ≤ 256) :
    Calls Try.prog 15 #[.int .i64 n] w fun e w' => e = .returned (.tuple #[.pointer (some ⟨w.heap.size, 0, none⟩), .int .i64 0]) ∧
      Rb (fun k => w.heap.size ≤ k) w' w.heap.size n [] ∧ New w w' := by
  go_enter Try.func15, Try.ntmps15
  go_wp2
  go_ret2
  exact ⟨rfl, ⟨_, heap_alloc_new _ _, ⟨by simp, .inl ⟨rfl, rfl⟩⟩, Nat.le_refl _, fun k hk => by cases hk⟩, (Kept.refl _ _).alloc _⟩

/-- The lines that stay are stored back. -/
theorem Rb.stored {O : Nat → Prop} {w wr : World} {b room base : Nat} {v v0 : Value} {M : List Ln} (hb : wr.heap[b]? = some (.cells #[v0, .int .i64 room] 50 (0, 0))) (hOb : O b) (hbl : b < base)
    (hown : wr.ownsRow base 34 4 v M.length (M.flatMap encL)) (hk : New w wr) : Rb (fun k => O k ∨ base ≤ k) (wr.setCell ⟨b, 0, none⟩ v) b room M ∧ Kept O w (wr.setCell ⟨b, 0, none⟩ v) := by
  have hvb : v.ownBlock ≠ some b := fun e => by have := own_block hown e; omega
  refine ⟨⟨v, heap_setCell_same wr b 0 _ _ v hb, ?_, .inl hOb, fun k hk => .inr (own_block hown hk)⟩, (hk.mono (fun _ _ h => h.elim)).setCell (.inr hOb) _⟩
  exact own_kept (own_mono hown (Nat.zero_le _)) ((Kept.refl (fun k => k = b) wr).setCell (.inr rfl) _) (fun i hi hF => hvb (by rw [hi, hF]))

set_option maxRecDepth 100000 in
set_option maxHeartbeats 1000000 in
theorem rdrop_any {O : Nat → Prop} (b room : Nat) (L M : List Ln) (s p : Int) (w : World) (h : Rb O w b room L) (hL : L.length ≤ 1000) (hM : dropP s p L = M) (is : Bool) (hd : is = decide (M.length < L.length)) :
    Calls Try.prog 18 #[.pointer (some ⟨b, 0, none⟩), .int .i64 s, .int .i64 p] w fun e w' => e = .returned (.bool is) ∧ Rb (fun k => O k ∨ w.heap.size ≤ k) w' b room M ∧ Kept O w w' := by
  obtain ⟨ao, c, hb, hown, hOb, hOv, hvb⟩ := h.cells
  have Hown := Lib.hid hown
  have Hb := Lib.hid hb
  have hbl := lt_of_heap hb
  have HM := Lib.hid hM
  have Hd := Lib.hid hd
  clear hd
  obtain ⟨i34, hi, hz0, hz1, hz2⟩ := info_parts info34
  obtain ⟨len, hlen⟩ : ∃ len, len = L.length := ⟨_, rfl⟩
  have Hlen := Lib.hid hlen
  obtain ⟨base, hbase⟩ : ∃ base, base = w.heap.size := ⟨_, rfl⟩
  have Hbase := Lib.hid hbase
  rw [← hlen] at hL
  clear hown hb hOv hvb hlen hM hbase h
  go_enter Try.func18, Try.ntmps18
  go_wp2_with fail
  have hown0 : (w.alloc (.cells #[] 34)).ownsRow base 34 4 (.slice (some ⟨w.heap.size, 0, none⟩) 0 0) 0 [] :=
    ⟨rfl, .inr ⟨_, 0, #[], rfl, by rw [Hbase.out]; exact Nat.le_refl _, heap_alloc_new _ _, Nat.le_refl _, Nat.zero_le _, rfl, rfl⟩⟩
  have Hown0 := Lib.hid hown0
  clear hown0
  go_loopw [7, 8] (fun l i wr => ∃ (k : Nat) (K : List Ln) (ml : Nat) (al : Option Addr) (cl : Nat), k ≤ len ∧ i = .int .i64 k ∧ l = .slice al ml cl ∧ Hid (dropP s p (L.take k) = K ∧ ml = K.length) ∧ Hid (wr.ownsRow base 34 4 (.slice al ml cl) ml (K.flatMap encL)) ∧ New w wr) (fun _ i _ => len - (intOf i).toNat)
  case atStart => exact ⟨0, [], 0, _, 0, by omega, rfl, rfl, ⟨rfl, rfl⟩, Hown0.out, (Kept.refl _ _).alloc _⟩
  case round =>
    obtain ⟨k, K, ml, al, cl, hk, rfl, rfl, HK, HownK, hkr⟩ := hrel
    have hbr := hkr.heap Hb.out (fun h => h)
    have hcb := cell_blk hbr 0
    have hcf := free_blk hbr 0
    rw [← Hlen.out] at hcb hbr
    have Hbr := Lib.hid hbr
    clear hbr
    by_cases h1 : k < len
    · obtain ⟨x, hx⟩ : ∃ x, L[k]? = some x := ⟨_, List.getElem?_eq_getElem (by rw [← Hlen.out]; omega)⟩
      have Hx := Lib.hid hx
      have hml : ml ≤ 1000 := by
        have h2 := HK.out
        have h3 : K.length ≤ (L.take k).length := by rw [← h2.1]; exact List.length_filter_le _ _
        rw [List.length_take] at h3
        have := Hlen.out
        omega
      obtain ⟨g, cap, hv, -, hrow, -⟩ := Row.of_ownS (own_same Hown.out hkr) (by have := Hlen.out; omega)
      simp only [Value.slice.injEq] at hv
      obtain ⟨rfl, -, rfl⟩ := hv
      obtain ⟨hc0, hc1, hc2, hc3⟩ := hrow.line hx
      have hlit := Src.lit wr #[.int .i64 x.sp, .int .i64 x.pg, .int .i64 x.fr, .int .i64 x.ri] 34 1 4 rfl
      have hownA := own_same HownK.out ((Kept.refl _ wr).alloc (blkL x))
      have Hlit := Lib.hid hlit
      have HownA := Lib.hid hownA
      have hstep : dropP s p (L.take (k + 1)) = K ++ dropP s p [x] := by
        rw [List.take_add_one, Hx.out, ← HK.out.1]; simp [dropP]
      have Hstep := Lib.hid hstep
      clear hx hrow hlit hownA hstep
      by_cases e1 : x.sp = s
      · have e1b : (x.sp != s) = false := by simpa using e1
        have E1 := Lib.hid e1
        clear e1
        by_cases e2 : x.pg = p
        · have e2b : (x.pg != p) = false := by simpa using e2
          have E2 := Lib.hid e2
          clear e2
          go_wp2_with fail
          go_roundw
          case rel => exact ⟨k + 1, K, ml, al, cl, by omega, by go_num, rfl, ⟨by rw [Hstep.out]; first | simp [dropP, E1.out, E2.out] | simp [dropP, E1.out], HK.out.2⟩, HownK.out, hkr⟩
          case measure => simp [intOf]; omega
        · have e2b : (x.pg != p) = true := by simpa using e2
          have E2 := Lib.hid e2
          clear e2
          go_wp2_with (at_builtin; refine wpList_append_src2 rfl _ _ 27 rfl base 34 i34 (aggL ⟨0, 0, 0, 0⟩) 4 32 Try.underlying27 hi hz0 hz1 hz2 rfl (by decide) (.slice al ml cl) ml (K.flatMap encL) rfl HownA.out _ 1 _ rfl Hlit.out (by simp [Value.oneCell']) (by simp [maxLen]; omega) (by omega) (by have := hkr.size; have := Hbase.out; simp; omega) ?_; intro v' w5 hown' hgr hid; obtain ⟨ao5, c5, hv5, _⟩ := Src.of_own hown'; rw [hv5])
          go_roundw
          case rel =>
            refine ⟨k + 1, K ++ [x], ml + 1, ao5, c5, by omega, by go_num, rfl, ⟨by rw [Hstep.out]; first | simp [dropP, E1.out, E2.out] | simp [dropP, E1.out], by rw [HK.out.2]; simp⟩, by rw [hv5] at hown'; rw [encL_snoc]; exact hown', ?_⟩
            exact (hkr.alloc (blkL x)).trans' (Kept.of_grown hgr) (fun i hi hv => by have := own_block HownA.out hv; have := Hbase.out; omega)
          case measure => simp [intOf]; omega
      · have e1b : (x.sp != s) = true := by simpa using e1
        have E1 := Lib.hid e1
        clear e1
        go_wp2_with (at_builtin; refine wpList_append_src2 rfl _ _ 27 rfl base 34 i34 (aggL ⟨0, 0, 0, 0⟩) 4 32 Try.underlying27 hi hz0 hz1 hz2 rfl (by decide) (.slice al ml cl) ml (K.flatMap encL) rfl HownA.out _ 1 _ rfl Hlit.out (by simp [Value.oneCell']) (by simp [maxLen]; omega) (by omega) (by have := hkr.size; have := Hbase.out; simp; omega) ?_; intro v' w5 hown' hgr hid; obtain ⟨ao5, c5, hv5, _⟩ := Src.of_own hown'; rw [hv5])
        go_roundw
        case rel =>
          refine ⟨k + 1, K ++ [x], ml + 1, ao5, c5, by omega, by go_num, rfl, ⟨by rw [Hstep.out]; first | simp [dropP, E1.out, E2.out] | simp [dropP, E1.out], by rw [HK.out.2]; simp⟩, by rw [hv5] at hown'; rw [encL_snoc]; exact hown', ?_⟩
          exact (hkr.alloc (blkL x)).trans' (Kept.of_grown hgr) (fun i hi hv => by have := own_block HownA.out hv; have := Hbase.out; omega)
        case measure => simp [intOf]; omega
    · obtain rfl : k = len := by omega
      have hend := HK.out.1
      rw [Hlen.out, List.take_length, HM.out] at hend
      have hml := HK.out.2
      rw [← hend] at hml
      skip
      have Hend := Lib.hid hend
      have Hml := Lib.hid hml
      have hOwn := HownK.out
      rw [← hend] at hOwn
      have HOwn := Lib.hid hOwn
      clear hend hml hOwn
      go_wp2_with fail
      go_ret
      have hfin := Rb.stored (O := O) (base := base) Hbr.out hOb (by rw [Hbase.out]; exact hbl) (by have := HOwn.out; rw [Hml.out] at this; exact this) hkr
      rw [Hbase.out, ← Hml.out] at hfin
      exact ⟨by rw [Hd.out, Hml.out, Hlen.out]; simp, hfin.1, hfin.2⟩

set_option maxRecDepth 100000 in
set_option maxHeartbeats 1000000 in
theorem rspace_any {O : Nat → Prop} (b room : Nat) (L M : List Ln) (s : Int) (w : World) (h : Rb O w b room L) (hL : L.length ≤ 1000) (hM : dropS s L = M) (d : Nat) (hd : M.length + d = L.length) :
    Calls Try.prog 20 #[.pointer (some ⟨b, 0, none⟩), .int .i64 s] w fun e w' => e = .returned (.int .i64 d) ∧ Rb (fun k => O k ∨ w.heap.size ≤ k) w' b room M ∧ Kept O w w' := by
  obtain ⟨ao, c, hb, hown, hOb, hOv, hvb⟩ := h.cells
  have Hown := Lib.hid hown
  have Hb := Lib.hid hb
  have hbl := lt_of_heap hb
  have HM := Lib.hid hM
  have Hd := Lib.hid hd
  clear hd
  obtain ⟨i34, hi, hz0, hz1, hz2⟩ := info_parts info34
  obtain ⟨len, hlen⟩ : ∃ len, len = L.length := ⟨_, rfl⟩
  have Hlen := Lib.hid hlen
  obtain ⟨base, hbase⟩ : ∃ base, base = w.heap.size := ⟨_, rfl⟩
  have Hbase := Lib.hid hbase
  rw [← hlen] at hL
  clear hown hb hOv hvb hlen hM hbase h
  go_enter Try.func20, Try.ntmps20
  go_wp2_with fail
  have hown0 : (w.alloc (.cells #[] 34)).ownsRow base 34 4 (.slice (some ⟨w.heap.size, 0, none⟩) 0 0) 0 [] :=
    ⟨rfl, .inr ⟨_, 0, #[], rfl, by rw [Hbase.out]; exact Nat.le_refl _, heap_alloc_new _ _, Nat.le_refl _, Nat.zero_le _, rfl, rfl⟩⟩
  have Hown0 := Lib.hid hown0
  clear hown0
  go_loopw [5, 6] (fun l i wr => ∃ (k : Nat) (K : List Ln) (ml : Nat) (al : Option Addr) (cl : Nat), k ≤ len ∧ i = .int .i64 k ∧ l = .slice al ml cl ∧ Hid (dropS s (L.take k) = K ∧ ml = K.length) ∧ Hid (wr.ownsRow base 34 4 (.slice al ml cl) ml (K.flatMap encL)) ∧ New w wr) (fun _ i _ => len - (intOf i).toNat)
  case atStart => exact ⟨0, [], 0, _, 0, by omega, rfl, rfl, ⟨rfl, rfl⟩, Hown0.out, (Kept.refl _ _).alloc _⟩
  case round =>
    obtain ⟨k, K, ml, al, cl, hk, rfl, rfl, HK, HownK, hkr⟩ := hrel
    have hbr := hkr.heap Hb.out (fun h => h)
    have hcb := cell_blk hbr 0
    have hcf := free_blk hbr 0
    rw [← Hlen.out] at hcb hbr
    have Hbr := Lib.hid hbr
    clear hbr
    by_cases h1 : k < len
    · obtain ⟨x, hx⟩ : ∃ x, L[k]? = some x := ⟨_, List.getElem?_eq_getElem (by rw [← Hlen.out]; omega)⟩
      have Hx := Lib.hid hx
      have hml : ml ≤ 1000 := by
        have h2 := HK.out
        have h3 : K.length ≤ (L.take k).length := by rw [← h2.1]; exact List.length_filter_le _ _
        rw [List.length_take] at h3
        have := Hlen.out
        omega
      obtain ⟨g, cap, hv, -, hrow, -⟩ := Row.of_ownS (own_same Hown.out hkr) (by have := Hlen.out; omega)
      simp only [Value.slice.injEq] at hv
      obtain ⟨rfl, -, rfl⟩ := hv
      obtain ⟨hc0, hc1, hc2, hc3⟩ := hrow.line hx
      have hlit := Src.lit wr #[.int .i64 x.sp, .int .i64 x.pg, .int .i64 x.fr, .int .i64 x.ri] 34 1 4 rfl
      have hownA := own_same HownK.out ((Kept.refl _ wr).alloc (blkL x))
      have Hlit := Lib.hid hlit
      have HownA := Lib.hid hownA
      have hstep : dropS s (L.take (k + 1)) = K ++ dropS s [x] := by
        rw [List.take_add_one, Hx.out, ← HK.out.1]; simp [dropS]
      have Hstep := Lib.hid hstep
      clear hx hrow hlit hownA hstep
      by_cases e1 : x.sp = s
      · have e1b : (x.sp != s) = false := by simpa using e1
        have E1 := Lib.hid e1
        clear e1
        go_wp2_with fail
        go_roundw
        case rel => exact ⟨k + 1, K, ml, al, cl, by omega, by go_num, rfl, ⟨by rw [Hstep.out]; first | simp [dropS, E1.out, E2.out] | simp [dropS, E1.out], HK.out.2⟩, HownK.out, hkr⟩
        case measure => simp [intOf]; omega
      · have e1b : (x.sp != s) = true := by simpa using e1
        have E1 := Lib.hid e1
        clear e1
        go_wp2_with (at_builtin; refine wpList_append_src2 rfl _ _ 27 rfl base 34 i34 (aggL ⟨0, 0, 0, 0⟩) 4 32 Try.underlying27 hi hz0 hz1 hz2 rfl (by decide) (.slice al ml cl) ml (K.flatMap encL) rfl HownA.out _ 1 _ rfl Hlit.out (by simp [Value.oneCell']) (by simp [maxLen]; omega) (by omega) (by have := hkr.size; have := Hbase.out; simp; omega) ?_; intro v' w5 hown' hgr hid; obtain ⟨ao5, c5, hv5, _⟩ := Src.of_own hown'; rw [hv5])
        go_roundw
        case rel =>
          refine ⟨k + 1, K ++ [x], ml + 1, ao5, c5, by omega, by go_num, rfl, ⟨by rw [Hstep.out]; first | simp [dropS, E1.out, E2.out] | simp [dropS, E1.out], by rw [HK.out.2]; simp⟩, by rw [hv5] at hown'; rw [encL_snoc]; exact hown', ?_⟩
          exact (hkr.alloc (blkL x)).trans' (Kept.of_grown hgr) (fun i hi hv => by have := own_block HownA.out hv; have := Hbase.out; omega)
        case measure => simp [intOf]; omega
    · obtain rfl : k = len := by omega
      have hend := HK.out.1
      rw [Hlen.out, List.take_length, HM.out] at hend
      have hml := HK.out.2
      rw [← hend] at hml
      have hwd : IntKind.i64.wrap ((k : Int) - ml) = d := by rw [IntKind.wrap_i64]; have := Hd.out; have := Hlen.out; omega
      have Hend := Lib.hid hend
      have Hml := Lib.hid hml
      have hOwn := HownK.out
      rw [← hend] at hOwn
      have HOwn := Lib.hid hOwn
      clear hend hml hOwn
      go_wp2_with fail
      go_ret
      have hfin := Rb.stored (O := O) (base := base) Hbr.out hOb (by rw [Hbase.out]; exact hbl) (by have := HOwn.out; rw [Hml.out] at this; exact this) hkr
      rw [Hbase.out, ← Hml.out] at hfin
      exact ⟨rfl, hfin.1, hfin.2⟩

set_option maxRecDepth 100000 in
set_option maxHeartbeats 1000000 in
theorem rframe_any {O : Nat → Prop} (b room : Nat) (L M : List Ln) (s : Int) (w : World) (h : Rb O w b room L) (hL : L.length ≤ 1000) (hM : dropF s L = M) (d : Nat) (hd : M.length + d = L.length) :
    Calls Try.prog 22 #[.pointer (some ⟨b, 0, none⟩), .int .i64 s] w fun e w' => e = .returned (.int .i64 d) ∧ Rb (fun k => O k ∨ w.heap.size ≤ k) w' b room M ∧ Kept O w w' := by
  obtain ⟨ao, c, hb, hown, hOb, hOv, hvb⟩ := h.cells
  have Hown := Lib.hid hown
  have Hb := Lib.hid hb
  have hbl := lt_of_heap hb
  have HM := Lib.hid hM
  have Hd := Lib.hid hd
  clear hd
  obtain ⟨i34, hi, hz0, hz1, hz2⟩ := info_parts info34
  obtain ⟨len, hlen⟩ : ∃ len, len = L.length := ⟨_, rfl⟩
  have Hlen := Lib.hid hlen
  obtain ⟨base, hbase⟩ : ∃ base, base = w.heap.size := ⟨_, rfl⟩
  have Hbase := Lib.hid hbase
  rw [← hlen] at hL
  clear hown hb hOv hvb hlen hM hbase h
  go_enter Try.func22, Try.ntmps22
  go_wp2_with fail
  have hown0 : (w.alloc (.cells #[] 34)).ownsRow base 34 4 (.slice (some ⟨w.heap.size, 0, none⟩) 0 0) 0 [] :=
    ⟨rfl, .inr ⟨_, 0, #[], rfl, by rw [Hbase.out]; exact Nat.le_refl _, heap_alloc_new _ _, Nat.le_refl _, Nat.zero_le _, rfl, rfl⟩⟩
  have Hown0 := Lib.hid hown0
  clear hown0
  go_loopw [5, 6] (fun l i wr => ∃ (k : Nat) (K : List Ln) (ml : Nat) (al : Option Addr) (cl : Nat), k ≤ len ∧ i = .int .i64 k ∧ l = .slice al ml cl ∧ Hid (dropF s (L.take k) = K ∧ ml = K.length) ∧ Hid (wr.ownsRow base 34 4 (.slice al ml cl) ml (K.flatMap encL)) ∧ New w wr) (fun _ i _ => len - (intOf i).toNat)
  case atStart => exact ⟨0, [], 0, _, 0, by omega, rfl, rfl, ⟨rfl, rfl⟩, Hown0.out, (Kept.refl _ _).alloc _⟩
  case round =>
    obtain ⟨k, K, ml, al, cl, hk, rfl, rfl, HK, HownK, hkr⟩ := hrel
    have hbr := hkr.heap Hb.out (fun h => h)
    have hcb := cell_blk hbr 0
    have hcf := free_blk hbr 0
    rw [← Hlen.out] at hcb hbr
    have Hbr := Lib.hid hbr
    clear hbr
    by_cases h1 : k < len
    · obtain ⟨x, hx⟩ : ∃ x, L[k]? = some x := ⟨_, List.getElem?_eq_getElem (by rw [← Hlen.out]; omega)⟩
      have Hx := Lib.hid hx
      have hml : ml ≤ 1000 := by
        have h2 := HK.out
        have h3 : K.length ≤ (L.take k).length := by rw [← h2.1]; exact List.length_filter_le _ _
        rw [List.length_take] at h3
        have := Hlen.out
        omega
      obtain ⟨g, cap, hv, -, hrow, -⟩ := Row.of_ownS (own_same Hown.out hkr) (by have := Hlen.out; omega)
      simp only [Value.slice.injEq] at hv
      obtain ⟨rfl, -, rfl⟩ := hv
      obtain ⟨hc0, hc1, hc2, hc3⟩ := hrow.line hx
      have hlit := Src.lit wr #[.int .i64 x.sp, .int .i64 x.pg, .int .i64 x.fr, .int .i64 x.ri] 34 1 4 rfl
      have hownA := own_same HownK.out ((Kept.refl _ wr).alloc (blkL x))
      have Hlit := Lib.hid hlit
      have HownA := Lib.hid hownA
      have hstep : dropF s (L.take (k + 1)) = K ++ dropF s [x] := by
        rw [List.take_add_one, Hx.out, ← HK.out.1]; simp [dropF]
      have Hstep := Lib.hid hstep
      clear hx hrow hlit hownA hstep
      by_cases e1 : x.fr = s
      · have e1b : (x.fr != s) = false := by simpa using e1
        have E1 := Lib.hid e1
        clear e1
        go_wp2_with fail
        go_roundw
        case rel => exact ⟨k + 1, K, ml, al, cl, by omega, by go_num, rfl, ⟨by rw [Hstep.out]; first | simp [dropF, E1.out, E2.out] | simp [dropF, E1.out], HK.out.2⟩, HownK.out, hkr⟩
        case measure => simp [intOf]; omega
      · have e1b : (x.fr != s) = true := by simpa using e1
        have E1 := Lib.hid e1
        clear e1
        go_wp2_with (at_builtin; refine wpList_append_src2 rfl _ _ 27 rfl base 34 i34 (aggL ⟨0, 0, 0, 0⟩) 4 32 Try.underlying27 hi hz0 hz1 hz2 rfl (by decide) (.slice al ml cl) ml (K.flatMap encL) rfl HownA.out _ 1 _ rfl Hlit.out (by simp [Value.oneCell']) (by simp [maxLen]; omega) (by omega) (by have := hkr.size; have := Hbase.out; simp; omega) ?_; intro v' w5 hown' hgr hid; obtain ⟨ao5, c5, hv5, _⟩ := Src.of_own hown'; rw [hv5])
        go_roundw
        case rel =>
          refine ⟨k + 1, K ++ [x], ml + 1, ao5, c5, by omega, by go_num, rfl, ⟨by rw [Hstep.out]; first | simp [dropF, E1.out, E2.out] | simp [dropF, E1.out], by rw [HK.out.2]; simp⟩, by rw [hv5] at hown'; rw [encL_snoc]; exact hown', ?_⟩
          exact (hkr.alloc (blkL x)).trans' (Kept.of_grown hgr) (fun i hi hv => by have := own_block HownA.out hv; have := Hbase.out; omega)
        case measure => simp [intOf]; omega
    · obtain rfl : k = len := by omega
      have hend := HK.out.1
      rw [Hlen.out, List.take_length, HM.out] at hend
      have hml := HK.out.2
      rw [← hend] at hml
      have hwd : IntKind.i64.wrap ((k : Int) - ml) = d := by rw [IntKind.wrap_i64]; have := Hd.out; have := Hlen.out; omega
      have Hend := Lib.hid hend
      have Hml := Lib.hid hml
      have hOwn := HownK.out
      rw [← hend] at hOwn
      have HOwn := Lib.hid hOwn
      clear hend hml hOwn
      go_wp2_with fail
      go_ret
      have hfin := Rb.stored (O := O) (base := base) Hbr.out hOb (by rw [Hbase.out]; exact hbl) (by have := HOwn.out; rw [Hml.out] at this; exact this) hkr
      rw [Hbase.out, ← Hml.out] at hfin
      exact ⟨rfl, hfin.1, hfin.2⟩
end Go.Proofs.Ytgjlghjigfclpaa

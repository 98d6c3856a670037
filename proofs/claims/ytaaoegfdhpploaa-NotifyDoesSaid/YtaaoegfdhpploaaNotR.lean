/- The reference's notification: the same contracts. -/
import Derived.Test.YtaaoegfdhpploaaNotF
set_option linter.all false
namespace Go.Proofs.Ytaaoegfdhpploaa
open Go.RowKit

abbrev vU (L : List Int) : List Value := L.map (Value.int .u64)
theorem info25 : (Try.prog.info? 25).map (fun i => (i.zero, i.size, i.bytes)) = some (some (.int .u64 0), 1, 8) := by kernel_rfl
def Rn (O : Nat → Prop) (w : World) (b : Nat) (Bs L : List Int) : Prop :=
  ∃ vB vL, w.heap[b]? = some (.cells #[vB, vL] 46 (0, 0)) ∧ w.ownsRow 0 25 1 vB Bs.length (vU Bs) ∧ w.ownsRow 0 3 1 vL L.length (vI L) ∧ O b ∧ (∀ k, vB.ownBlock = some k → O k) ∧ ∀ k, vL.ownBlock = some k → O k

section
variable {O O' F : Nat → Prop} {w w' : World} {b : Nat} {Bs L : List Int}
theorem Rn.mono (h : Rn O w b Bs L) (hO : ∀ k, O k → O' k) : Rn O' w b Bs L := let ⟨v, u, h1, h2, h3, h4, h5, h6⟩ := h; ⟨v, u, h1, h2, h3, hO _ h4, fun k hk => hO k (h5 k hk), fun k hk => hO k (h6 k hk)⟩
theorem Rn.kept (h : Rn O w b Bs L) (k : Kept F w w') (hF : ∀ i, O i → ¬ F i) : Rn O w' b Bs L :=
  let ⟨v, u, h1, h2, h3, h4, h5, h6⟩ := h; ⟨v, u, k.heap h1 (hF _ h4), own_kept h2 k (fun i hi => hF i (h5 i hi)), own_kept h3 k (fun i hi => hF i (h6 i hi)), h4, h5, h6⟩
theorem Rn.same (h : Rn O w b Bs L) (k : New w w') : Rn O w' b Bs L := h.kept k (fun _ _ h => h)
theorem Rn.alloc (h : Rn O w b Bs L) (o : Obj) : Rn O (w.alloc o) b Bs L := h.same ((Kept.refl _ _).alloc o)
theorem Rn.sized (h : Rn O w b Bs L) : Rn (fun k => O k ∧ k < w.heap.size) w b Bs L :=
  let ⟨v, u, h1, h2, h3, h4, h5, h6⟩ := h; ⟨v, u, h1, h2, h3, ⟨h4, lt_of_heap h1⟩, fun k hk => ⟨h5 k hk, own_size h2 hk⟩, fun k hk => ⟨h6 k hk, own_size h3 hk⟩⟩
theorem Rn.cells (h : Rn O w b Bs L) : ∃ ao c bo d, w.heap[b]? = some (.cells #[.slice bo Bs.length d, .slice ao L.length c] 46 (0, 0)) ∧ w.ownsRow 0 25 1 (.slice bo Bs.length d) Bs.length (vU Bs) ∧ w.ownsRow 0 3 1 (.slice ao L.length c) L.length (vI L) ∧ O b ∧
    (∀ k, (Value.slice bo Bs.length d).ownBlock = some k → O k ∧ k ≠ b ∧ (Value.slice ao L.length c).ownBlock ≠ some k) ∧ (∀ k, (Value.slice ao L.length c).ownBlock = some k → O k ∧ k ≠ b ∧ (Value.slice bo Bs.length d).ownBlock ≠ some k) := by
  obtain ⟨v, u, hb, h2, h3, hOb, h5, h6⟩ := h
  have hvb : ∀ k, v.ownBlock = some k → k ≠ b := by
    rintro k e rfl
    obtain ⟨cc, hcc⟩ := own_type h2 e
    exact heap_ne hb hcc (by decide) rfl
  have hub : ∀ k, u.ownBlock = some k → k ≠ b := by
    rintro k e rfl
    obtain ⟨cc, hcc⟩ := own_type h3 e
    exact heap_ne hb hcc (by decide) rfl
  have huv : ∀ k, v.ownBlock = some k → u.ownBlock ≠ some k := by
    intro k e e'
    obtain ⟨cc, hcc⟩ := own_type h2 e
    obtain ⟨dd, hdd⟩ := own_type h3 e'
    exact heap_ne hcc hdd (by decide) rfl
  obtain ⟨ao, c, rfl, -⟩ := Src.of_own h3
  obtain ⟨bo, d, rfl, -⟩ := Src.of_own h2
  exact ⟨ao, c, bo, d, hb, h2, h3, hOb, fun k hk => ⟨h5 k hk, hvb k hk, huv k hk⟩, fun k hk => ⟨h6 k hk, hub k hk, fun e => huv k e hk⟩⟩
end
def RQ (b : Nat) (Bs L : List Int) : Thing := fun O w => Rn O w b Bs L
theorem RQ.ok (b : Nat) (Bs L : List Int) : (RQ b Bs L).Ok := ⟨fun h k hF => Rn.kept h k hF, fun h => Rn.sized h, fun h hO => Rn.mono h hO⟩

def orAll (Bs : List Int) : Int := Bs.foldl (fun a b => bits .or .u64 a b) 0
theorem orAll_snoc (Bs : List Int) (x : Int) : orAll (Bs ++ [x]) = bits .or .u64 (orAll Bs) x := by simp [orAll]

set_option maxRecDepth 100000 in
theorem rword_any {O : Nat → Prop} (b : Nat) (Bs L : List Int) (wd : Int) (is : Bool) (w : World) (h : Rn O w b Bs L) (hB : Bs.length ≤ 1000) (hwd : wd = orAll Bs) (his : is = decide (0 < Bs.length)) :
    Calls Try.prog 21 #[.pointer (some ⟨b, 0, none⟩)] w fun e w' => e = .returned (.tuple #[.int .u64 wd, .bool is]) ∧ New w w' := by
  obtain ⟨ao, c, bo, d, hb, h2, -⟩ := h.cells
  obtain ⟨len, hlen⟩ : ∃ len, len = Bs.length := ⟨_, rfl⟩
  have Hlen := Lib.hid hlen
  rw [← hlen] at hb hB his
  have H2 := Lib.hid (Src.of_own h2)
  have Hb := Lib.hid hb
  have Hwd := Lib.hid hwd
  have His := Lib.hid his
  clear h2 hlen h hwd hb his
  go_enter Try.func21, Try.ntmps21
  go_wp2_with fail
  obtain ⟨w0, hw0⟩ : ∃ w0, w0 = w := ⟨_, rfl⟩
  go_loopw [4, 5] (fun p i wr => ∃ (k : Nat) (x : Int), k ≤ len ∧ p = .int .u64 x ∧ i = .int .i64 k ∧ Hid (x = orAll (Bs.take k)) ∧ New w wr) (fun _ i _ => len - (intOf i).toNat)
  case atStart => exact ⟨0, 0, by omega, rfl, rfl, by simp [Hid, orAll], Kept.refl _ _⟩
  case round =>
    clear hw0
    obtain ⟨k, x, hk, rfl, rfl, Hx, hkr⟩ := hrel
    have hbr := hkr.heap Hb.out (fun h => h)
    have hcb := cell_blk hbr 0
    clear hbr
    by_cases h1 : k < len
    · obtain ⟨y, hy⟩ : ∃ y, Bs[k]? = some y := ⟨_, List.getElem?_eq_getElem (by rw [← Hlen.out]; omega)⟩
      have hsr := (H2.out).same hkr
      rw [← Hlen.out] at hsr
      obtain ⟨-, ao', c', he, hcl⟩ := hsr.ints
      simp only [Value.slice.injEq, true_and] at he
      obtain ⟨rfl, rfl⟩ := he
      obtain ⟨ad, rfl, hcy⟩ := hcl k h1
      have hyd : Bs.getD k 0 = y := by simp [List.getD, hy]
      rw [hyd] at hcy
      obtain ⟨x', hx'⟩ : ∃ x', bits .or .u64 x y = x' := ⟨_, rfl⟩
      have hst : x' = orAll (Bs.take (k + 1)) := by rw [List.take_add_one, hy, ← hx', Hx.out]; exact (orAll_snoc _ _).symm
      have Hst := Lib.hid hst
      clear hy hcl hyd hst hsr
      go_wp2_with fail
      go_roundw
      case rel => exact ⟨k + 1, x', by omega, rfl, by go_num, Hst.out, hkr⟩
      case measure => simp [intOf]; omega
    · obtain rfl : k = len := by omega
      have hx : x = wd := by rw [Hx.out, Hwd.out, Hlen.out, List.take_length]
      subst hx
      by_cases h0 : 0 < k
      · obtain rfl : is = true := by rw [His.out]; simpa using h0
        have h0i : (0 : Int) < k := by omega
        go_wp2_with fail
        go_quiet (fail)
        go_wp2_with fail
        go_ret2
        exact ⟨rfl, hkr.drewN _⟩
      · obtain rfl : is = false := by rw [His.out]; simpa using h0
        obtain rfl : k = 0 := by omega
        go_wp2_with fail
        go_quiet (fail)
        go_wp2_with fail
        go_ret2
        exact ⟨rfl, hkr.drewN _⟩

theorem rsignal_none {O : Nat → Prop} (b : Nat) (Bs : List Int) (bg : Int) (w : World) (h : Rn O w b Bs []) (hB : Bs.length ≤ 1000) :
    Calls Try.prog 17 #[.pointer (some ⟨b, 0, none⟩), .int .u64 bg] w fun e w' => e = .returned (.tuple #[.int .i64 0, .int .u64 0, .bool false]) ∧ Rn (fun k => O k ∨ w.heap.size ≤ k) w' b (Bs ++ [bg]) [] ∧ Kept O w w' := by
  obtain ⟨ao, c, bo, d, hb, h2, h3, hOb, h5, h6⟩ := h.cells
  obtain ⟨len, hlen⟩ : ∃ len, len = Bs.length := ⟨_, rfl⟩
  have Hlen := Lib.hid hlen
  rw [← hlen] at hb h2 h5 h6 hB
  have hbl := lt_of_heap hb
  have c0 := cell_blk hb 0
  have c1 : w.cell? ⟨b, 1, none⟩ = some (.slice ao 0 c) := cell_blk hb 1
  have H3 := Lib.hid h3
  have H5 := Lib.hid h5
  have H6 := Lib.hid h6
  obtain ⟨i25, hi, hz0, hz1, hz2⟩ := info_parts info25
  have hb2 : (w.alloc (.cells #[.int .u64 bg] 25)).heap[b]? = some (.cells #[.slice bo len d, .slice ao 0 c] 46 (0, 0)) := ((Kept.refl (fun _ => False) w).alloc _).heap hb (fun h => h)
  have Hown2 := Lib.hid (own_same h2 ((Kept.refl _ w).alloc (.cells #[.int .u64 bg] 25)))
  have Hlit := Lib.hid (Src.lit w #[.int .u64 bg] 25 1 1 rfl)
  clear h2 h3 h5 h6 h hlen
  go_enter Try.func17, Try.ntmps17
  go_wp2_with (at_builtin; refine wpList_append_src2 rfl _ _ 44 rfl 0 25 i25 (.int .u64 0) 1 8 Try.underlying44 hi hz0 hz1 hz2 rfl (by decide) (.slice bo len d) len (vU Bs) rfl Hown2.out _ 1 _ rfl Hlit.out (by simp [Value.oneCell']) (by unfold maxLen; omega) (by omega) (by simp) ?_; intro v' w5 hown' hgr hid; have hkg := Kept.of_grown hgr; have hb5 := hkg.heap hb2 (fun e => (H5.out b e).2.1 rfl); have hc5 := cell_blk hb5 0; have hf5 := free_blk hb5 0; obtain ⟨ao5, c5, hv5, _⟩ := Src.of_own hown'; rw [hv5])
  refine bodyPost_ret (results_tmp3 rfl _ _ _) rfl ?_
  rw [← hv5]
  have hst := heap_setCell_same w5 b 0 _ _ v' hb5
  have hvb' : v'.ownBlock ≠ some b := by
    intro e
    rcases hid b e with h | h
    · exact (H5.out b h).2.1 rfl
    · simp at h; omega
  have kb : Kept (fun k => k = b) w5 (w5.setCell ⟨b, 0, none⟩ v') := (Kept.refl (fun k => k = b) w5).setCell (.inr rfl) _
  have k3 := (own_kept (own_kept (own_same H3.out ((Kept.refl _ w).alloc (.cells #[.int .u64 bg] 25))) hkg (fun i hi e => (H6.out i hi).2.2 e)) kb (fun i hi hF => (H6.out i hi).2.1 hF))
  refine ⟨rfl, ⟨v', _, hst, ?_, k3, .inl hOb, fun k hk => ?_, fun k hk => .inl (H6.out k hk).1⟩, ?_⟩
  · have h9 := own_kept hown' kb (fun i hi hF => hvb' (by rw [hi, hF]))
    rw [Hlen.out] at h9
    simpa [vU] using h9
  · rcases hid k hk with h | h
    · exact .inl (H5.out k h).1
    · right; simp at h; omega
  · exact (((Kept.refl O w).alloc _).trans' hkg (fun i hi hv => (H5.out i hv).1)).setCell (.inr hOb) _

theorem rsignal_who {O : Nat → Prop} (b : Nat) (Bs : List Int) (a : Int) (l : List Int) (bg : Int) (w : World) (h : Rn O w b Bs (a :: l)) (hL : l.length ≤ 1000) :
    Calls Try.prog 17 #[.pointer (some ⟨b, 0, none⟩), .int .u64 bg] w fun e w' => e = .returned (.tuple #[.int .i64 a, .int .u64 bg, .bool true]) ∧ Rn (fun k => O k ∨ w.heap.size ≤ k) w' b Bs l ∧ Kept O w w' := by
  obtain ⟨ao, c, bo, d, hb, h2, h3, hOb, h5, h6⟩ := h.cells
  obtain ⟨g, cap, hv, -, hrow, hcap⟩ := Row.of_own h3 (by simp)
  simp only [Value.slice.injEq] at hv
  obtain ⟨rfl, -, rfl⟩ := hv
  have hca : w.cell? ⟨g, 0, none⟩ = some (.int .i64 a) := own_int h3 (j := 0) rfl
  have hcap := own_cap h3 rfl
  obtain ⟨ml, hml⟩ : ∃ ml, ml = l.length := ⟨_, rfl⟩
  have Hml := Lib.hid hml
  have hmm : (a :: l).length = ml + 1 := by rw [hml]; rfl
  rw [hmm] at hb h5 h6 hcap
  have hcl : ∀ j u, (vI l)[j]? = some u → w.cell? ⟨g, 1 + j, none⟩ = some u := by
    intro j u hj
    have := h3.cells (g := g) rfl (1 + j) u (by rw [Nat.add_comm]; simpa [vI] using hj)
    rw [addr_add, Nat.zero_add] at this
    exact this
  have hbl := lt_of_heap hb
  have c1 := cell_blk hb 1
  have H2 := Lib.hid h2
  have H5 := Lib.hid h5
  obtain ⟨i3, hi, hz0, hz1, hz2⟩ := info_parts info3
  have hbA : (w.alloc (.cells #[] 3)).heap[b]? = some (.cells #[.slice bo Bs.length d, .slice (some ⟨g, 0, none⟩) (ml + 1) c] 46 (0, 0)) := ((Kept.refl (fun _ => False) w).alloc _).heap hb (fun h => h)
  obtain ⟨ad, had, hadv⟩ : ∃ ad : Addr, (if c = 1 then some (⟨g, 0, none⟩ : Addr) else some ⟨g, 1, none⟩) = some ad ∧ (0 < ml → ad = ⟨g, 1, none⟩) := by
    by_cases h : c = 1
    · exact ⟨_, by rw [if_pos h], fun h0 => by omega⟩
    · exact ⟨_, by rw [if_neg h], fun _ => rfl⟩
  have hsrcA : Src (w.alloc (.cells #[] 3)) (.slice (some ad) ml (c - 1)) ml 1 (vI l) := by
    refine ⟨_, _, rfl, by simp, by simp [vI, hml], fun j u hj => ⟨ad, rfl, ?_⟩⟩
    have h0 : 0 < ml := by have := lt_of_some hj; simp [vI] at this; omega
    rw [hadv h0, addr_add]
    exact cell_kept ((Kept.refl (fun _ => False) w).alloc _) (hcl j u hj) (fun h => h)
  have HsrcA := Lib.hid hsrcA
  have Had := Lib.hid had
  have hml8 : ml ≤ 1000 := by omega
  obtain ⟨lb, hlb⟩ : ∃ lb, lb = Bs.length := ⟨_, rfl⟩
  have Hlb := Lib.hid hlb
  rw [← hlb] at hbA
  clear h2 h3 h5 h6 h hml hmm hcl hsrcA had hadv hrow hb hlb
  by_cases hc1 : c = 1
  · have Had1 := Had.out
    rw [if_pos hc1] at Had1
    cases Had1
    subst hc1
    obtain rfl : ml = 0 := by omega
    go_enter Try.func17, Try.ntmps17
    go_wp2_with (at_builtin; refine wpList_append_src2 rfl _ _ 37 rfl w.heap.size 3 i3 (.int .i64 0) 1 8 Try.underlying37 hi hz0 hz1 hz2 rfl (by decide) _ 0 [] rfl (World.ownsRow_made w #[] 0 (Nat.le_refl _) (by unfold maxLen; omega) rfl) _ 0 _ rfl HsrcA.out (vI_one l) (by unfold maxLen; omega) (by omega) (by simp) ?_; intro v' w5 hown' hgr hid; have hkg := Kept.of_grown hgr; have hb5 := hkg.heap hbA (fun e => by have h9 : w.heap.size = b := Option.some.inj e; omega); have hc5 := cell_blk hb5 1; have hf5 := free_blk hb5 1; obtain ⟨ao5, c5, hv5, _⟩ := Src.of_own hown'; rw [hv5])
    refine bodyPost_ret (results_tmp3 rfl _ _ _) rfl ?_
    first | rw [← hv5] | (rw [Nat.zero_add] at hv5 hown'; rw [← hv5])
    have hst := heap_setCell_same w5 b 1 _ _ v' hb5
    have hblk := fun k (hk : v'.ownBlock = some k) => own_block hown' hk
    have kb : Kept (fun k => k = b) w5 (w5.setCell ⟨b, 1, none⟩ v') := (Kept.refl (fun k => k = b) w5).setCell (.inr rfl) _
    have kA := (Kept.refl (fun _ => False) w).alloc (.cells #[] 3)
    have k2 := own_kept (own_kept (own_same H2.out kA) hkg (fun i hi e => by have h9 : w.heap.size = i := Option.some.inj e; have := own_size H2.out hi; omega)) kb (fun i hi hF => (H5.out i hi).2.1 hF)
    rw [Hlb.out] at hst
    refine ⟨rfl, ⟨_, v', hst, k2, ?_, .inl hOb, fun k hk => .inl (H5.out k hk).1, fun k hk => .inr (hblk k hk)⟩, ?_⟩
    · have h9 := own_mono (own_kept hown' kb (fun i hi hF => by have := hblk i hi; omega)) (Nat.zero_le _)
      rw [← Hml.out]
      simpa using h9
    · exact (((Kept.refl O w).alloc (.cells #[] 3)).trans' hkg (fun i hi e => by have h9 : w.heap.size = i := Option.some.inj e; omega)).setCell (.inr hOb) _
  · have Had1 := Had.out
    rw [if_neg hc1] at Had1
    cases Had1
    go_enter Try.func17, Try.ntmps17
    go_wp2_with (at_builtin; refine wpList_append_src2 rfl _ _ 37 rfl w.heap.size 3 i3 (.int .i64 0) 1 8 Try.underlying37 hi hz0 hz1 hz2 rfl (by decide) _ 0 [] rfl (World.ownsRow_made w #[] 0 (Nat.le_refl _) (by unfold maxLen; omega) rfl) _ ml _ rfl HsrcA.out (vI_one l) (by unfold maxLen; omega) (by omega) (by simp) ?_; intro v' w5 hown' hgr hid; have hkg := Kept.of_grown hgr; have hb5 := hkg.heap hbA (fun e => by have h9 : w.heap.size = b := Option.some.inj e; omega); have hc5 := cell_blk hb5 1; have hf5 := free_blk hb5 1; obtain ⟨ao5, c5, hv5, _⟩ := Src.of_own hown'; rw [hv5])
    refine bodyPost_ret (results_tmp3 rfl _ _ _) rfl ?_
    rw [Nat.zero_add] at hv5 hown'
    try rw [Nat.zero_add]
    rw [← hv5]
    have hst := heap_setCell_same w5 b 1 _ _ v' hb5
    have hblk := fun k (hk : v'.ownBlock = some k) => own_block hown' hk
    have kb : Kept (fun k => k = b) w5 (w5.setCell ⟨b, 1, none⟩ v') := (Kept.refl (fun k => k = b) w5).setCell (.inr rfl) _
    have kA := (Kept.refl (fun _ => False) w).alloc (.cells #[] 3)
    have k2 := own_kept (own_kept (own_same H2.out kA) hkg (fun i hi e => by have h9 : w.heap.size = i := Option.some.inj e; have := own_size H2.out hi; omega)) kb (fun i hi hF => (H5.out i hi).2.1 hF)
    rw [Hlb.out] at hst
    refine ⟨rfl, ⟨_, v', hst, k2, ?_, .inl hOb, fun k hk => .inl (H5.out k hk).1, fun k hk => .inr (hblk k hk)⟩, ?_⟩
    · have h9 := own_mono (own_kept hown' kb (fun i hi hF => by have := hblk i hi; omega)) (Nat.zero_le _)
      rw [← Hml.out]
      simpa using h9
    · exact (((Kept.refl O w).alloc (.cells #[] 3)).trans' hkg (fun i hi e => by have h9 : w.heap.size = i := Option.some.inj e; omega)).setCell (.inr hOb) _

set_option maxRecDepth 100000 in
theorem rwait_there {O : Nat → Prop} (b : Nat) (Bs L : List Int) (who : Int) (wa : Bool) (w : World) (h : Rn O w b Bs L) (hL : L.length ≤ 1000) (hB : Bs.length ≤ 1000) (hw : who ∈ L) :
    Calls Try.prog 18 #[.pointer (some ⟨b, 0, none⟩), .int .i64 who, .bool wa] w fun e w' => e = .returned (.tuple #[.int .u64 0, .bool false, .int .i64 120]) ∧ w = w' := by
  obtain ⟨ao, c, bo, d, hb, h2, h3, hOb, h5, h6⟩ := h.cells
  obtain ⟨len, hlen⟩ : ∃ len, len = L.length := ⟨_, rfl⟩
  have Hlen := Lib.hid hlen
  have Hh := Lib.hid h
  rw [← hlen] at hb hL h5 h6
  have hs3 := Src.of_own h3
  rw [← hlen] at hs3
  obtain ⟨-, ao', c', he, hcl⟩ := hs3.ints
  simp only [Value.slice.injEq, true_and] at he
  obtain ⟨rfl, rfl⟩ := he
  have Hcl := Lib.hid hcl
  have hbl := lt_of_heap hb
  have c1 := cell_blk hb 1
  have Hb := Lib.hid hb
  have H2 := Lib.hid h2
  have H3 := Lib.hid h3
  have H5 := Lib.hid h5
  have H6 := Lib.hid h6
  have Hw := Lib.hid hw
  clear hb h2 h3 h5 h6 h hlen hcl hs3 hw
  go_enter Try.func18, Try.ntmps18
  go_wp2_with fail
  go_loopw [9] (fun i wr => ∃ k : Nat, k ≤ len ∧ i = .int .i64 k ∧ Hid (who ∉ L.take k) ∧ wr = w) (fun i _ => len - (intOf i).toNat)
  case atStart => exact ⟨0, by omega, rfl, by simp [Hid], rfl⟩
  case round =>
    obtain ⟨k, hk, rfl, Hk, rfl⟩ := hrel
    by_cases h1 : k < len
    · obtain ⟨ad, rfl, hcell⟩ := Hcl.out k h1
      have hx : L[k]? = some (L.getD k 0) := by simp [List.getD, show k < L.length by rw [← Hlen.out]; omega]
      have Hx := Lib.hid hx
      clear hx
      obtain ⟨u, hu⟩ : ∃ u, u = L.getD k 0 := ⟨_, rfl⟩
      rw [← hu] at Hx hcell
      clear hu
      by_cases e2 : u = who
      · have h2b : (u == who) = true := by simpa using e2
        have E2 := Lib.hid e2
        clear e2
        go_wp2_with fail
        refine bodyPost_ret (results_tmp3 rfl _ _ _) rfl ?_
        exact ⟨rfl, rfl⟩
      · have h2b : (u == who) = false := by simpa using e2
        have E2 := Lib.hid e2
        clear e2
        go_wp2_with fail
        go_roundw
        case rel => exact ⟨k + 1, by omega, by go_num, by
          show who ∉ L.take (k + 1)
          rw [List.take_add_one, Hx.out]
          simp only [Option.toList_some, List.mem_append, List.mem_singleton, not_or]
          exact ⟨Hk.out, fun e => E2.out e.symm⟩, trivial⟩
        case measure => simp [intOf]; omega
    · obtain rfl : k = len := by omega
      have := Hk.out
      rw [Hlen.out, List.take_length] at this
      exact (this Hw.out).elim

set_option maxRecDepth 100000 in
theorem rwait_word {O : Nat → Prop} (b : Nat) (Bs L : List Int) (who : Int) (wd : Int) (wa : Bool) (hwd : wd = orAll Bs) (hne : 0 < Bs.length) (w : World) (h : Rn O w b Bs L) (hL : L.length ≤ 1000) (hB : Bs.length ≤ 1000) (hw : who ∉ L) :
    Calls Try.prog 18 #[.pointer (some ⟨b, 0, none⟩), .int .i64 who, .bool wa] w fun e w' => e = .returned (.tuple #[.int .u64 wd, .bool true, .int .i64 0]) ∧ Rn O w' b [] L ∧ Kept O w w' := by
  obtain ⟨ao, c, bo, d, hb, h2, h3, hOb, h5, h6⟩ := h.cells
  obtain ⟨len, hlen⟩ : ∃ len, len = L.length := ⟨_, rfl⟩
  have Hlen := Lib.hid hlen
  have Hh := Lib.hid h
  rw [← hlen] at hb hL h5 h6
  have hs3 := Src.of_own h3
  rw [← hlen] at hs3
  obtain ⟨-, ao', c', he, hcl⟩ := hs3.ints
  simp only [Value.slice.injEq, true_and] at he
  obtain ⟨rfl, rfl⟩ := he
  have Hcl := Lib.hid hcl
  have hbl := lt_of_heap hb
  have c1 := cell_blk hb 1
  have Hb := Lib.hid hb
  have H2 := Lib.hid h2
  have H3 := Lib.hid h3
  have H5 := Lib.hid h5
  have H6 := Lib.hid h6
  have Hw := Lib.hid hw
  clear hb h2 h3 h5 h6 h hlen hcl hs3 hw
  have Hwd := Lib.hid hwd
  clear hwd
  go_enter Try.func18, Try.ntmps18
  go_wp2_with fail
  go_loopw [9] (fun i wr => ∃ k : Nat, k ≤ len ∧ i = .int .i64 k ∧ Hid (who ∉ L.take k) ∧ wr = w) (fun i _ => len - (intOf i).toNat)
  case atStart => exact ⟨0, by omega, rfl, by simp [Hid], rfl⟩
  case round =>
    obtain ⟨k, hk, rfl, Hk, rfl⟩ := hrel
    by_cases h1 : k < len
    · obtain ⟨ad, rfl, hcell⟩ := Hcl.out k h1
      have hx : L[k]? = some (L.getD k 0) := by simp [List.getD, show k < L.length by rw [← Hlen.out]; omega]
      have Hx := Lib.hid hx
      clear hx
      obtain ⟨u, hu⟩ : ∃ u, u = L.getD k 0 := ⟨_, rfl⟩
      rw [← hu] at Hx hcell
      clear hu
      by_cases e2 : u = who
      · have h2b : (u == who) = true := by simpa using e2
        have E2 := Lib.hid e2
        clear e2
        exact (Hw.out (by rw [← E2.out]; exact List.mem_of_getElem? Hx.out)).elim
      · have h2b : (u == who) = false := by simpa using e2
        have E2 := Lib.hid e2
        clear e2
        go_wp2_with fail
        go_roundw
        case rel => exact ⟨k + 1, by omega, by go_num, by
          show who ∉ L.take (k + 1)
          rw [List.take_add_one, Hx.out]
          simp only [Option.toList_some, List.mem_append, List.mem_singleton, not_or]
          exact ⟨Hk.out, fun e => E2.out e.symm⟩, trivial⟩
        case measure => simp [intOf]; omega
    · obtain rfl : k = len := by omega
      go_wp2_with fail
      refine (rword_any b Bs L wd true _ Hh.out hB Hwd.out (by simp [hne])).mono ?_
      rintro e w1 ⟨rfl, hk1⟩
      have hb1 := hk1.heap Hb.out (fun h => h)
      have d0 := cell_blk hb1 0
      have f0 := free_blk hb1 0
      go_wp2_with fail
      refine bodyPost_ret (results_tmp3 rfl _ _ _) rfl ?_
      have kb : Kept (fun k => k = b) w1 (w1.setCell ⟨b, 0, none⟩ (.slice none 0 0)) := (Kept.refl (fun k => k = b) w1).setCell (.inr rfl) _
      refine ⟨rfl, ⟨_, _, heap_setCell_same w1 b 0 _ _ _ hb1, ⟨by simp, .inl ⟨rfl, rfl⟩⟩, ?_, hOb, (fun k hk => by simp [Value.ownBlock] at hk), (fun k hk => (H6.out k hk).1)⟩, (hk1.mono (fun _ _ h => h.elim)).trans (kb.mono (fun i _ hi => by rw [hi]; exact hOb))⟩
      have h9 := own_kept (own_same H3.out hk1) kb (fun i hi hF => (H6.out i (by rw [Hlen.out]; exact hi)).2.1 hF)
      simpa [Hlen.out] using h9

set_option maxRecDepth 100000 in
theorem rwait_no {O : Nat → Prop} (b : Nat) (Bs L : List Int) (who : Int) (wa : Bool) (hwa : wa = false) (hne : Bs = []) (w : World) (h : Rn O w b Bs L) (hL : L.length ≤ 1000) (hB : Bs.length ≤ 1000) (hw : who ∉ L) :
    Calls Try.prog 18 #[.pointer (some ⟨b, 0, none⟩), .int .i64 who, .bool wa] w fun e w' => e = .returned (.tuple #[.int .u64 0, .bool false, .int .i64 0]) ∧ New w w' := by
  obtain ⟨ao, c, bo, d, hb, h2, h3, hOb, h5, h6⟩ := h.cells
  obtain ⟨len, hlen⟩ : ∃ len, len = L.length := ⟨_, rfl⟩
  have Hlen := Lib.hid hlen
  have Hh := Lib.hid h
  rw [← hlen] at hb hL h5 h6
  have hs3 := Src.of_own h3
  rw [← hlen] at hs3
  obtain ⟨-, ao', c', he, hcl⟩ := hs3.ints
  simp only [Value.slice.injEq, true_and] at he
  obtain ⟨rfl, rfl⟩ := he
  have Hcl := Lib.hid hcl
  have hbl := lt_of_heap hb
  have c1 := cell_blk hb 1
  have Hb := Lib.hid hb
  have H2 := Lib.hid h2
  have H3 := Lib.hid h3
  have H5 := Lib.hid h5
  have H6 := Lib.hid h6
  have Hw := Lib.hid hw
  clear hb h2 h3 h5 h6 h hlen hcl hs3 hw
  go_enter Try.func18, Try.ntmps18
  go_wp2_with fail
  go_loopw [9] (fun i wr => ∃ k : Nat, k ≤ len ∧ i = .int .i64 k ∧ Hid (who ∉ L.take k) ∧ wr = w) (fun i _ => len - (intOf i).toNat)
  case atStart => exact ⟨0, by omega, rfl, by simp [Hid], rfl⟩
  case round =>
    obtain ⟨k, hk, rfl, Hk, rfl⟩ := hrel
    by_cases h1 : k < len
    · obtain ⟨ad, rfl, hcell⟩ := Hcl.out k h1
      have hx : L[k]? = some (L.getD k 0) := by simp [List.getD, show k < L.length by rw [← Hlen.out]; omega]
      have Hx := Lib.hid hx
      clear hx
      obtain ⟨u, hu⟩ : ∃ u, u = L.getD k 0 := ⟨_, rfl⟩
      rw [← hu] at Hx hcell
      clear hu
      by_cases e2 : u = who
      · have h2b : (u == who) = true := by simpa using e2
        have E2 := Lib.hid e2
        clear e2
        exact (Hw.out (by rw [← E2.out]; exact List.mem_of_getElem? Hx.out)).elim
      · have h2b : (u == who) = false := by simpa using e2
        have E2 := Lib.hid e2
        clear e2
        go_wp2_with fail
        go_roundw
        case rel => exact ⟨k + 1, by omega, by go_num, by
          show who ∉ L.take (k + 1)
          rw [List.take_add_one, Hx.out]
          simp only [Option.toList_some, List.mem_append, List.mem_singleton, not_or]
          exact ⟨Hk.out, fun e => E2.out e.symm⟩, trivial⟩
        case measure => simp [intOf]; omega
    · obtain rfl : k = len := by omega
      subst hwa
      go_wp2_with fail
      refine (rword_any b Bs L 0 false _ Hh.out hB (by rw [hne]; rfl) (by rw [hne]; rfl)).mono ?_
      rintro e w1 ⟨rfl, hk1⟩
      go_wp2_with fail
      refine bodyPost_ret (results_tmp3 rfl _ _ _) rfl ?_
      exact ⟨rfl, hk1⟩

set_option maxRecDepth 100000 in
theorem rwait_line {O : Nat → Prop} (b : Nat) (Bs L : List Int) (who : Int) (wa : Bool) (hwa : wa = true) (hne : Bs = []) (w : World) (h : Rn O w b Bs L) (hL : L.length ≤ 1000) (hB : Bs.length ≤ 1000) (hw : who ∉ L) :
    Calls Try.prog 18 #[.pointer (some ⟨b, 0, none⟩), .int .i64 who, .bool wa] w fun e w' => e = .returned (.tuple #[.int .u64 0, .bool false, .int .i64 0]) ∧ Rn (fun k => O k ∨ w.heap.size ≤ k) w' b [] (L ++ [who]) ∧ Kept O w w' := by
  obtain ⟨ao, c, bo, d, hb, h2, h3, hOb, h5, h6⟩ := h.cells
  obtain ⟨len, hlen⟩ : ∃ len, len = L.length := ⟨_, rfl⟩
  have Hlen := Lib.hid hlen
  have Hh := Lib.hid h
  rw [← hlen] at hb hL h5 h6
  have hs3 := Src.of_own h3
  rw [← hlen] at hs3
  obtain ⟨-, ao', c', he, hcl⟩ := hs3.ints
  simp only [Value.slice.injEq, true_and] at he
  obtain ⟨rfl, rfl⟩ := he
  have Hcl := Lib.hid hcl
  have hbl := lt_of_heap hb
  have c1 := cell_blk hb 1
  have Hb := Lib.hid hb
  have H2 := Lib.hid h2
  have H3 := Lib.hid h3
  have H5 := Lib.hid h5
  have H6 := Lib.hid h6
  have Hw := Lib.hid hw
  clear hb h2 h3 h5 h6 h hlen hcl hs3 hw
  go_enter Try.func18, Try.ntmps18
  go_wp2_with fail
  go_loopw [9] (fun i wr => ∃ k : Nat, k ≤ len ∧ i = .int .i64 k ∧ Hid (who ∉ L.take k) ∧ wr = w) (fun i _ => len - (intOf i).toNat)
  case atStart => exact ⟨0, by omega, rfl, by simp [Hid], rfl⟩
  case round =>
    obtain ⟨k, hk, rfl, Hk, rfl⟩ := hrel
    by_cases h1 : k < len
    · obtain ⟨ad, rfl, hcell⟩ := Hcl.out k h1
      have hx : L[k]? = some (L.getD k 0) := by simp [List.getD, show k < L.length by rw [← Hlen.out]; omega]
      have Hx := Lib.hid hx
      clear hx
      obtain ⟨u, hu⟩ : ∃ u, u = L.getD k 0 := ⟨_, rfl⟩
      rw [← hu] at Hx hcell
      clear hu
      by_cases e2 : u = who
      · have h2b : (u == who) = true := by simpa using e2
        have E2 := Lib.hid e2
        clear e2
        exact (Hw.out (by rw [← E2.out]; exact List.mem_of_getElem? Hx.out)).elim
      · have h2b : (u == who) = false := by simpa using e2
        have E2 := Lib.hid e2
        clear e2
        go_wp2_with fail
        go_roundw
        case rel => exact ⟨k + 1, by omega, by go_num, by
          show who ∉ L.take (k + 1)
          rw [List.take_add_one, Hx.out]
          simp only [Option.toList_some, List.mem_append, List.mem_singleton, not_or]
          exact ⟨Hk.out, fun e => E2.out e.symm⟩, trivial⟩
        case measure => simp [intOf]; omega
    · obtain rfl : k = len := by omega
      subst hwa
      go_wp2_with fail
      refine (rword_any b Bs L 0 false _ Hh.out hB (by rw [hne]; rfl) (by rw [hne]; rfl)).mono ?_
      rintro e w1 ⟨rfl, hk1⟩
      have hb1 := hk1.heap Hb.out (fun h => h)
      have d1 := cell_blk hb1 1
      have hbl1 := lt_of_heap hb1
      obtain ⟨i3, hi, hz0, hz1, hz2⟩ := info_parts info3
      have kA : New w1 (w1.alloc (.cells #[.int .i64 who] 3)) := (Kept.refl _ _).alloc _
      have hb2 := kA.heap hb1 (fun h => h)
      have hown2 := own_same (own_same H3.out hk1) kA
      rw [← Hlen.out] at hown2
      have Hown2 := Lib.hid hown2
      have Hlit := Lib.hid (Src.lit w1 #[.int .i64 who] 3 1 1 rfl)
      clear hown2
      go_wp2_with (at_builtin; refine wpList_append_src2 rfl _ _ 37 rfl 0 3 i3 (.int .i64 0) 1 8 Try.underlying37 hi hz0 hz1 hz2 rfl (by decide) (.slice ao k c) k (vI L) rfl Hown2.out _ 1 _ rfl Hlit.out (by simp [Value.oneCell']) (by unfold maxLen; omega) (by omega) (by simp) ?_; intro v' w5 hown' hgr hid; have hkg := Kept.of_grown hgr; have hb5 := hkg.heap hb2 (fun e => (H6.out b e).2.1 rfl); have hc5 := cell_blk hb5 1; have hf5 := free_blk hb5 1; obtain ⟨ao5, c5, hv5, _⟩ := Src.of_own hown'; rw [hv5])
      refine bodyPost_ret (results_tmp3 rfl _ _ _) rfl ?_
      rw [← hv5]
      have hst := heap_setCell_same w5 b 1 _ _ v' hb5
      have hvb' : v'.ownBlock ≠ some b := by
        intro e
        rcases hid b e with h | h
        · exact (H6.out b h).2.1 rfl
        · simp at h; omega
      have kb : Kept (fun k => k = b) w5 (w5.setCell ⟨b, 1, none⟩ v') := (Kept.refl (fun k => k = b) w5).setCell (.inr rfl) _
      have k2 := own_kept (own_kept (own_same (own_same H2.out hk1) kA) hkg (fun i hi e => (H5.out i hi).2.2 e)) kb (fun i hi hF => (H5.out i hi).2.1 hF)
      have hsz := hk1.size
      refine ⟨rfl, ⟨_, v', hst, by rw [hne] at k2 ⊢; exact k2, ?_, .inl hOb, fun q hq => .inl (H5.out q hq).1, fun q hq => ?_⟩, ?_⟩
      · have h9 := own_kept hown' kb (fun i hi hF => hvb' (by rw [hi, hF]))
        rw [Hlen.out] at h9
        simpa [vI] using h9
      · rcases hid q hq with h | h
        · exact .inl (H6.out q h).1
        · right; simp at h; omega
      · exact (((hk1.mono (fun _ _ h => h.elim)).alloc _).trans' hkg (fun i hi hv => (H6.out i hv).1)).setCell (.inr hOb) _

set_option maxRecDepth 100000 in
set_option maxHeartbeats 1000000 in
theorem rcancel_any {O : Nat → Prop} (b : Nat) (Bs L M : List Int) (who : Int) (is : Bool) (w : World) (h : Rn O w b Bs L) (hL : L.length ≤ 1000) (hM : L.filter (fun y => !(y == who)) = M) (hd : is = decide (M.length < L.length)) :
    Calls Try.prog 19 #[.pointer (some ⟨b, 0, none⟩), .int .i64 who] w fun e w' => e = .returned (.bool is) ∧ Rn (fun k => O k ∨ w.heap.size ≤ k) w' b Bs M ∧ Kept O w w' := by
  obtain ⟨ao, c, bo, d, hb, h2, h3, hOb, h5, h6⟩ := h.cells
  have Hb := Lib.hid hb
  have hbl := lt_of_heap hb
  have HM := Lib.hid hM
  have Hd := Lib.hid hd
  have H2 := Lib.hid h2
  have H3 := Lib.hid h3
  have H5 := Lib.hid h5
  clear hd
  obtain ⟨i3, hi, hz0, hz1, hz2⟩ := info_parts info3
  obtain ⟨len, hlen⟩ : ∃ len, len = L.length := ⟨_, rfl⟩
  have Hlen := Lib.hid hlen
  obtain ⟨lb, hlb⟩ : ∃ lb, lb = Bs.length := ⟨_, rfl⟩
  have Hlb := Lib.hid hlb
  obtain ⟨base, hbase⟩ : ∃ base, base = w.heap.size := ⟨_, rfl⟩
  have Hbase := Lib.hid hbase
  rw [← hlen] at hL
  clear h2 h3 h5 h6 hb hlen hM hbase h hlb
  go_enter Try.func19, Try.ntmps19
  go_wp2_with fail
  have hown0 : (w.alloc (.cells #[] 3)).ownsRow base 3 1 (.slice (some ⟨w.heap.size, 0, none⟩) 0 0) 0 [] :=
    ⟨rfl, .inr ⟨_, 0, #[], rfl, by rw [Hbase.out]; exact Nat.le_refl _, heap_alloc_new _ _, Nat.le_refl _, Nat.zero_le _, rfl, rfl⟩⟩
  have Hown0 := Lib.hid hown0
  clear hown0
  go_loopw [5, 6] (fun l i wr => ∃ (k : Nat) (K : List Int) (ml : Nat) (al : Option Addr) (cl : Nat), k ≤ len ∧ i = .int .i64 k ∧ l = .slice al ml cl ∧ Hid ((L.take k).filter (fun y => !(y == who)) = K ∧ ml = K.length) ∧ Hid (wr.ownsRow base 3 1 (.slice al ml cl) ml (vI K)) ∧ New w wr) (fun _ i _ => len - (intOf i).toNat)
  case atStart => exact ⟨0, [], 0, _, 0, by omega, rfl, rfl, ⟨rfl, rfl⟩, Hown0.out, (Kept.refl _ _).alloc _⟩
  case round =>
    obtain ⟨k, K, ml, al, cl, hk, rfl, rfl, HK, HownK, hkr⟩ := hrel
    have hbr := hkr.heap Hb.out (fun h => h)
    rw [← Hlen.out, ← Hlb.out] at hbr
    have hcb := cell_blk hbr 1
    have hcf := free_blk hbr 1
    have Hbr := Lib.hid hbr
    clear hbr
    by_cases h1 : k < len
    · obtain ⟨x, hx⟩ : ∃ x, L[k]? = some x := ⟨_, List.getElem?_eq_getElem (by rw [← Hlen.out]; omega)⟩
      have Hx := Lib.hid hx
      have hml : ml ≤ 1000 := by
        have h2 := HK.out
        have h3 : K.length ≤ (L.take k).length := by rw [← h2.1]; exact List.length_filter_le _ _
        rw [List.length_take] at h3
        have := Hlen.out
        omega
      have h3r := own_same H3.out hkr
      obtain ⟨g, cap, hv, -, hrow, -⟩ := Row.of_own h3r (by have := Hlen.out; omega)
      simp only [Value.slice.injEq] at hv
      obtain ⟨rfl, -, rfl⟩ := hv
      have hcx := own_int h3r hx
      have Hlit := Lib.hid (Src.lit wr #[.int .i64 x] 3 1 1 rfl)
      have HownA := Lib.hid (own_same HownK.out ((Kept.refl _ wr).alloc (.cells #[.int .i64 x] 3)))
      have hstep : (L.take (k + 1)).filter (fun y => !(y == who)) = K ++ [x].filter (fun y => !(y == who)) := by
        rw [List.take_add_one, Hx.out, List.filter_append, ← HK.out.1]; rfl
      have Hstep := Lib.hid hstep
      clear hx hrow hstep h3r
      by_cases e1 : x = who
      · have e1b : (x != who) = false := by simpa using e1
        have E1 := Lib.hid e1
        clear e1
        go_wp2_with fail
        go_roundw
        case rel => exact ⟨k + 1, K, ml, al, cl, by omega, by go_num, rfl, ⟨by rw [Hstep.out]; simp [E1.out], HK.out.2⟩, HownK.out, hkr⟩
        case measure => simp [intOf]; omega
      · have e1b : (x != who) = true := by simpa using e1
        have E1 := Lib.hid e1
        clear e1
        go_wp2_with (at_builtin; refine wpList_append_src2 rfl _ _ 37 rfl base 3 i3 (.int .i64 0) 1 8 Try.underlying37 hi hz0 hz1 hz2 rfl (by decide) (.slice al ml cl) ml (vI K) rfl HownA.out _ 1 _ rfl Hlit.out (by simp [Value.oneCell']) (by simp [maxLen]; omega) (by omega) (by have := hkr.size; have := Hbase.out; simp; omega) ?_; intro v' w5 hown' hgr hid; obtain ⟨ao5, c5, hv5, _⟩ := Src.of_own hown'; rw [hv5])
        go_roundw
        case rel =>
          refine ⟨k + 1, K ++ [x], ml + 1, ao5, c5, by omega, by go_num, rfl, ⟨by rw [Hstep.out]; simp [E1.out], by rw [HK.out.2]; simp⟩, by rw [hv5] at hown'; rw [vI, List.map_append]; exact hown', ?_⟩
          exact (hkr.alloc (.cells #[.int .i64 x] 3)).trans' (Kept.of_grown hgr) (fun i hi hv => by have := own_block HownA.out hv; have := Hbase.out; omega)
        case measure => simp [intOf]; omega
    · obtain rfl : k = len := by omega
      have hend := HK.out.1
      rw [Hlen.out, List.take_length, HM.out] at hend
      have hml := HK.out.2
      rw [← hend] at hml
      have Hend := Lib.hid hend
      have Hml := Lib.hid hml
      have hOwn := HownK.out
      rw [← hend] at hOwn
      have HOwn := Lib.hid hOwn
      clear hend hml hOwn
      go_wp2_with fail
      go_ret
      obtain ⟨v', hv'⟩ : ∃ v', v' = Value.slice al ml cl := ⟨_, rfl⟩
      have hown' := HOwn.out
      rw [← hv'] at hown' ⊢
      have kb : Kept (fun k => k = b) wr (wr.setCell ⟨b, 1, none⟩ v') := (Kept.refl (fun k => k = b) wr).setCell (.inr rfl) _
      have hblk := fun q (hq : v'.ownBlock = some q) => own_block hown' hq
      have hst := heap_setCell_same wr b 1 _ _ v' Hbr.out
      rw [Hlb.out] at hst
      refine ⟨by rw [Hd.out, Hml.out, Hlen.out]; simp, ⟨_, v', hst, own_kept (own_same H2.out hkr) kb (fun i hi hF => (H5.out i hi).2.1 hF), ?_, .inl hOb, fun q hq => .inl (H5.out q hq).1, fun q hq => .inr (by have := hblk q hq; rw [Hbase.out] at this; exact this)⟩, (hkr.mono (fun _ _ h => h.elim)).setCell (.inr hOb) _⟩
      have h9 := own_mono (own_kept hown' kb (fun i hi hF => by have := hblk i hi; have := Hbase.out; omega)) (Nat.zero_le _)
      rw [← Hml.out]
      exact h9
end Go.Proofs.Ytaaoegfdhpploaa

/- Package tlb: the TLB as a list of lines: what its calls answer, and leave. -/
import Derived.Test.YtgjlghjigfclpaaTlbD
import Derived.Deep.RegionHeld3
set_option linter.all false
namespace Go.Proofs.Ytgjlghjigfclpaa
open Go.RowKit

def Tb (O : Nat → Prop) (w : World) (b room : Nat) (L : List Ln) : Prop :=
  ∃ v, w.heap[b]? = some (.cells #[v, .int .i64 room] 54 (0, 0)) ∧ w.ownsRow 0 34 4 v L.length (L.flatMap encL) ∧ O b ∧ ∀ k, v.ownBlock = some k → O k

section
variable {O O' F : Nat → Prop} {w w' : World} {b room : Nat} {L : List Ln}
theorem Tb.mono (h : Tb O w b room L) (hO : ∀ k, O k → O' k) : Tb O' w b room L := let ⟨v, h1, h2, h3, h4⟩ := h; ⟨v, h1, h2, hO _ h3, fun k hk => hO k (h4 k hk)⟩
theorem Tb.kept (h : Tb O w b room L) (k : Kept F w w') (hF : ∀ i, O i → ¬ F i) : Tb O w' b room L :=
  let ⟨v, h1, h2, h3, h4⟩ := h; ⟨v, k.heap h1 (hF _ h3), own_kept h2 k (fun i hi => hF i (h4 i hi)), h3, h4⟩
theorem Tb.same (h : Tb O w b room L) (k : New w w') : Tb O w' b room L := h.kept k (fun _ _ h => h)
theorem Tb.alloc (h : Tb O w b room L) (o : Obj) : Tb O (w.alloc o) b room L := h.same ((Kept.refl _ _).alloc o)
theorem Tb.sized (h : Tb O w b room L) : Tb (fun k => O k ∧ k < w.heap.size) w b room L :=
  let ⟨v, h1, h2, h3, h4⟩ := h; ⟨v, h1, h2, ⟨h3, lt_of_heap h1⟩, fun k hk => ⟨h4 k hk, own_size h2 hk⟩⟩
end

def dropP (s p : Int) (L : List Ln) : List Ln := L.filter (fun x => !(decide (x.sp = s) && decide (x.pg = p)))
def dropS (s : Int) (L : List Ln) : List Ln := L.filter (fun x => !decide (x.sp = s))
def dropF (f : Int) (L : List Ln) : List Ln := L.filter (fun x => !decide (x.fr = f))

theorem new_yes (n : Nat) (w : World) (h0 : 1 ≤ n) (h1 : n ≤ 256) :
    Calls Try.prog 9 #[.int .i64 n] w fun e w' => e = .returned (.tuple #[.pointer (some ⟨w.heap.size, 0, none⟩), .int .i64 0]) ∧
      Tb (fun k => w.heap.size ≤ k) w' w.heap.size n [] ∧ New w w' := by
  go_enter Try.func9, Try.ntmps9
  go_wp2
  go_ret2
  exact ⟨rfl, ⟨_, heap_alloc_new _ _, ⟨by simp, .inl ⟨rfl, rfl⟩⟩, Nat.le_refl _, fun k hk => by cases hk⟩, (Kept.refl _ _).alloc _⟩
theorem new_no (n : Int) (w : World) (h : n < 1 ∨ 256 < n) :
    Calls Try.prog 9 #[.int .i64 n] w fun e w' => e = .returned (.tuple #[.pointer none, .int .i64 1]) ∧ w = w' := by
  rcases h with h | h
  · go_enter Try.func9, Try.ntmps9
    go_wp2
    go_ret2
    exact ⟨rfl, rfl⟩
  · have h' : ¬ n < 1 := by omega
    go_enter Try.func9, Try.ntmps9
    go_wp2
    go_ret2
    exact ⟨rfl, rfl⟩

theorem drop_any {O : Nat → Prop} (b room : Nat) (L M : List Ln) (so : Value) (ps : List Ask) (d : Nat) (w : World) (h : Tb O w b room L) (hs : Asks w so ps) (hL : L.length ≤ 1000)
    (hM : L.filter (fun x => !ps.all (fun p => p.ok x)) = M) (hd : M.length + d = L.length) :
    Calls Try.prog 26 #[.pointer (some ⟨b, 0, none⟩), so] w fun e w' => e = .returned (.int .i64 d) ∧ Tb O w' b room M ∧ Kept O w w' := by
  obtain ⟨v, hb, hown, hOb, hOv⟩ := h
  have Hown := Lib.hid hown
  have hbl := lt_of_heap hb
  obtain ⟨ao, c, hv, -⟩ := Src.of_own hown
  have hvb : v.ownBlock ≠ some b := by
    intro e
    obtain ⟨cc, hcc⟩ := own_type hown e
    exact heap_ne hb hcc (by decide) rfl
  have Hvb := Lib.hid hvb
  have hdel := delete_any so v ps w.heap.size L (w.alloc (.cells #[so] 62)) (hs.same ((Kept.refl _ _).alloc _)) (heap_alloc_new _ _) (own_same hown ((Kept.refl _ _).alloc _)) (by omega) M hM
  have hb1 : (w.alloc (.cells #[so] 62)).heap[b]? = some (.cells #[v, .int .i64 room] 54 (0, 0)) := ((Kept.refl (fun _ => False) w).alloc _).heap hb (fun h => h)
  have hc0 : w.cell? ⟨b, 0, none⟩ = some v := cell_blk hb 0
  have Hv := Lib.hid hv
  rw [hv] at hc0
  obtain ⟨g9, c9, hso, -⟩ := hs
  obtain ⟨len, hlen⟩ : ∃ len, len = L.length := ⟨_, rfl⟩
  have Hlen := Lib.hid hlen
  obtain ⟨ml, hml⟩ : ∃ ml, ml = M.length := ⟨_, rfl⟩
  have Hml := Lib.hid hml
  rw [← hlen, ← hml] at hd
  rw [← hlen] at hL hc0
  have Hdel := Lib.hid hdel
  clear hv hown hlen hml hM hdel hvb
  have hw : IntKind.i64.wrap ((len : Int) - ml) = d := by rw [IntWalk.i64_in _ (by omega)]; omega
  subst hso
  go_enter Try.func26, Try.ntmps26
  go_wp2_with fail
  rw [Hv.out, ← Hlen.out] at Hdel
  rw [Hv.out, ← Hlen.out] at Hvb
  refine Hdel.out.mono ?_
  rintro e w2 ⟨v', rfl, hown', hid, hk2⟩
  have hb2 := hk2.heap hb1 Hvb.out
  have hc2 := cell_blk hb2 0
  have hf2 := free_blk hb2 0
  obtain ⟨ao', c', hv', -⟩ := Src.of_own hown'
  rw [← Hml.out] at hv'
  have Hown' := Lib.hid hown'
  have Hid' := Lib.hid hid
  have Hv' := Lib.hid hv'
  clear hown' hid
  rw [hv']
  clear hv'
  go_wp2_with fail
  go_ret
  rw [← Hv'.out]
  have hst := heap_setCell_same w2 b 0 _ _ v' hb2
  have hvb' : v'.ownBlock ≠ some b := fun e => Hvb.out (Hid'.out b e)
  refine ⟨rfl, ⟨v', hst, ?_, hOb, fun k hk => hOv k (by rw [Hv.out, ← Hlen.out]; exact Hid'.out k hk)⟩, ?_⟩
  · exact own_kept Hown'.out ((Kept.refl (fun k => k = b) w2).setCell (.inr rfl) _) (fun i hi hF => hvb' (by rw [hi, hF]))
  · have k1 : Kept O w w2 := ((Kept.refl O w).alloc _).trans' hk2 (fun i hi hvi => hOv i (by rw [Hv.out, ← Hlen.out]; exact hvi))
    exact k1.setCell (.inr hOb) _

theorem asks1 {w : World} {f : Value} {p : Ask} (h : Is w f p) : Asks (w.alloc (.cells #[f] 58)) (.slice (some ⟨w.heap.size, 0, none⟩) 1 1) [p] := by
  refine ⟨_, _, rfl, by simp, ⟨_, heap_alloc_new _ _⟩, fun i q hq => ?_⟩
  match i with
  | 0 => obtain rfl : p = q := by simpa using hq
         exact ⟨f, by rw [World.cell?_alloc_new]; rfl, h.kept (F := fun _ => False) ((Kept.refl _ _).alloc _)⟩
  | i + 1 => simp at hq
theorem asks2 {w : World} {f f' : Value} {p p' : Ask} (h : Is w f p) (h' : Is w f' p') : Asks (w.alloc (.cells #[f, f'] 58)) (.slice (some ⟨w.heap.size, 0, none⟩) 2 2) [p, p'] := by
  refine ⟨_, _, rfl, by simp, ⟨_, heap_alloc_new _ _⟩, fun i q hq => ?_⟩
  match i with
  | 0 => obtain rfl : p = q := by simpa using hq
         exact ⟨f, by rw [World.cell?_alloc_new]; rfl, h.kept (F := fun _ => False) ((Kept.refl _ _).alloc _)⟩
  | 1 => obtain rfl : p' = q := by simpa using hq
         exact ⟨f', by rw [World.cell?_alloc_new]; rfl, h'.kept (F := fun _ => False) ((Kept.refl _ _).alloc _)⟩
  | i + 2 => simp at hq

theorem filter2 (s p : Int) (L : List Ln) : L.filter (fun x => !([Ask.sp s, .pg p].all (fun q => q.ok x))) = dropP s p L := by simp [dropP, Ask.ok]
theorem filterS (s : Int) (L : List Ln) : L.filter (fun x => !([Ask.sp s].all (fun q => q.ok x))) = dropS s L := by simp [dropS, Ask.ok]
theorem filterF (s : Int) (L : List Ln) : L.filter (fun x => !([Ask.fr s].all (fun q => q.ok x))) = dropF s L := by simp [dropF, Ask.ok]

theorem drop2_any {O : Nat → Prop} (b room : Nat) (L M : List Ln) (s p : Int) (w : World) (h : Tb O w b room L) (hL : L.length ≤ 1000) (hM : dropP s p L = M) (is : Bool) (hd : is = decide (M.length < L.length)) :
    Calls Try.prog 17 #[.pointer (some ⟨b, 0, none⟩), .int .i64 s, .int .i64 p] w fun e w' => e = .returned (.bool is) ∧ Tb O w' b room M ∧ Kept O w w' := by
  have hle : M.length ≤ L.length := by rw [← hM]; exact List.length_filter_le _ _
  have Hh := Lib.hid h
  have HM := Lib.hid hM
  obtain ⟨d, hd'⟩ : ∃ d, M.length + d = L.length := ⟨L.length - M.length, by omega⟩
  have Hd' := Lib.hid hd'
  obtain rfl : is = decide (0 < d) := by rw [hd, Bool.eq_iff_iff, decide_eq_true_eq, decide_eq_true_eq]; omega
  clear h hd hle hM
  go_enter Try.func17, Try.ntmps17
  go_wp2_with fail
  refine (of_any s w).mono ?_
  rintro e w1 ⟨f1, rfl, hf1, hk1⟩
  obtain ⟨q1, rfl, hq1⟩ := hf1
  go_wp2_with fail
  refine (at_any p w1).mono ?_
  rintro e w2 ⟨f2, rfl, hf2, hk2⟩
  obtain ⟨q2, rfl, hq2⟩ := hf2
  go_wp2_with fail
  refine (drop_any b room L M _ [.sp s, .pg p] d _ (((Hh.out.same hk1).same hk2).alloc _) (asks2 ⟨q1, rfl, hk2.heap hq1 (fun h => h)⟩ ⟨q2, rfl, hq2⟩) hL (by rw [filter2]; exact HM.out) Hd'.out).mono ?_
  rintro e w3 ⟨rfl, hT, hk3⟩
  go_wp2_with fail
  go_ret
  exact ⟨rfl, hT, (((hk1.trans hk2).alloc _).mono (fun _ _ h => h.elim)).trans hk3⟩

theorem space_any {O : Nat → Prop} (b room : Nat) (L M : List Ln) (s : Int) (d : Nat) (w : World) (h : Tb O w b room L) (hL : L.length ≤ 1000) (hM : dropS s L = M) (hd : M.length + d = L.length) :
    Calls Try.prog 19 #[.pointer (some ⟨b, 0, none⟩), .int .i64 s] w fun e w' => e = .returned (.int .i64 d) ∧ Tb O w' b room M ∧ Kept O w w' := by
  have Hh := Lib.hid h
  have HM := Lib.hid hM
  have Hd' := Lib.hid hd
  clear h hd hM
  go_enter Try.func19, Try.ntmps19
  go_wp2_with fail
  refine (of_any s w).mono ?_
  rintro e w1 ⟨f1, rfl, hf1, hk1⟩
  obtain ⟨q1, rfl, hq1⟩ := hf1
  go_wp2_with fail
  refine (drop_any b room L M _ [.sp s] d _ ((Hh.out.same hk1).alloc _) (asks1 ⟨q1, rfl, hq1⟩) hL (by rw [filterS]; exact HM.out) Hd'.out).mono ?_
  rintro e w3 ⟨rfl, hT, hk3⟩
  go_wp2_with fail
  go_ret
  exact ⟨rfl, hT, ((hk1.alloc _).mono (fun _ _ h => h.elim)).trans hk3⟩

theorem frame_any {O : Nat → Prop} (b room : Nat) (L M : List Ln) (s : Int) (d : Nat) (w : World) (h : Tb O w b room L) (hL : L.length ≤ 1000) (hM : dropF s L = M) (hd : M.length + d = L.length) :
    Calls Try.prog 21 #[.pointer (some ⟨b, 0, none⟩), .int .i64 s] w fun e w' => e = .returned (.int .i64 d) ∧ Tb O w' b room M ∧ Kept O w w' := by
  have Hh := Lib.hid h
  have HM := Lib.hid hM
  have Hd' := Lib.hid hd
  clear h hd hM
  go_enter Try.func21, Try.ntmps21
  go_wp2_with fail
  refine (on_any s w).mono ?_
  rintro e w1 ⟨f1, rfl, hf1, hk1⟩
  obtain ⟨q1, rfl, hq1⟩ := hf1
  go_wp2_with fail
  refine (drop_any b room L M _ [.fr s] d _ ((Hh.out.same hk1).alloc _) (asks1 ⟨q1, rfl, hq1⟩) hL (by rw [filterF]; exact HM.out) Hd'.out).mono ?_
  rintro e w3 ⟨rfl, hT, hk3⟩
  go_wp2_with fail
  go_ret
  exact ⟨rfl, hT, ((hk1.alloc _).mono (fun _ _ h => h.elim)).trans hk3⟩

theorem lines_any {O : Nat → Prop} (b room : Nat) (L : List Ln) (w : World) (h : Tb O w b room L) (hL : L.length ≤ 1000) :
    Calls Try.prog 11 #[.pointer (some ⟨b, 0, none⟩)] w fun e w' => ∃ v', e = .returned v' ∧ w'.ownsRow w.heap.size 34 4 v' L.length (L.flatMap encL) ∧ New w w' := by
  obtain ⟨v, hb, hown, hOb, hOv⟩ := h
  have hc0 : w.cell? ⟨b, 0, none⟩ = some v := cell_blk hb 0
  have Hown := Lib.hid hown
  clear hown
  go_enter Try.func11, Try.ntmps11
  go_wp2_with fail
  refine (clone_any v L w Hown.out (by omega)).mono ?_
  rintro e w1 ⟨v', rfl, hown', hid, hk⟩
  go_wp2_with fail
  go_ret
  refine ⟨v', rfl, ?_, hk⟩
  refine ⟨hown'.1, ?_⟩
  rcases hown'.2 with h1 | ⟨g, cap, cur, h1, h2, h3⟩
  · exact .inl h1
  · exact .inr ⟨g, cap, cur, h1, hid g (by rw [h1]; rfl), h3⟩

theorem copy_any {O : Nat → Prop} (b room : Nat) (L : List Ln) (w : World) (h : Tb O w b room L) (hL : L.length ≤ 1000) :
    Calls Try.prog 23 #[.pointer (some ⟨b, 0, none⟩)] w fun e w' => ∃ b', e = .returned (.pointer (some ⟨b', 0, none⟩)) ∧ Tb (fun k => w.heap.size ≤ k) w' b' room L ∧ New w w' := by
  obtain ⟨v, hb, hown, hOb, hOv⟩ := h
  have hc0 : w.cell? ⟨b, 0, none⟩ = some v := cell_blk hb 0
  have hc1 : w.cell? ⟨b, 1, none⟩ = some (.int .i64 room) := cell_blk hb 1
  have hd0 : w.drew.cell? ⟨b, 0, none⟩ = some v := cell_blk (w := w.drew) hb 0
  have hd1 : w.drew.cell? ⟨b, 1, none⟩ = some (.int .i64 room) := cell_blk (w := w.drew) hb 1
  have Hown := Lib.hid hown
  clear hown
  go_enter Try.func23, Try.ntmps23
  go_wp2_with fail
  go_region_held3 (fun W => W.cell? ⟨b, 0, none⟩ = some v ∧ W.cell? ⟨b, 1, none⟩ = some (.int .i64 room)) (first | exact ⟨hd0, hd1⟩ | exact ⟨hl0, hl1⟩ | exact ⟨cell_kept ((Kept.refl (fun _ => False) _).alloc _) hl0 (fun h => h), cell_kept ((Kept.refl (fun _ => False) _).alloc _) hl1 (fun h => h)⟩)
    (first | (go_at_call 25; refine (clone_any v L w.drew Hown.out (by omega)).mono ?_; rintro e w1 ⟨v', rfl, hown', hid, hk⟩; have hl0 := cell_kept hk hd0 (fun h => h); have hl1 := cell_kept hk hd1 (fun h => h); obtain ⟨ao', c', hv', _⟩ := Src.of_own hown'; rw [hv']))
  go_wp2_with fail
  go_ret
  have h9 := hk.alloc (.cells #[v', .int .i64 room] 54)
  rw [← hv']
  have h10 : New w (w1.alloc (.cells #[v', .int .i64 room] 54)) := (Kept.refl _ _).drew.trans h9
  exact ⟨w1.heap.size, rfl, ⟨v', heap_alloc_new _ _, own_same hown' ((Kept.refl _ _).alloc _), hk.size, hid⟩, h10⟩
end Go.Proofs.Ytgjlghjigfclpaa

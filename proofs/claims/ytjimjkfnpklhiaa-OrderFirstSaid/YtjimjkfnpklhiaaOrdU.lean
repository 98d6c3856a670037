/- Package order: the calls whose answers are fixed. -/
import Derived.Test.YtjimjkfnpklhiaaOrdT
import Derived.Deep.RegionHeld3
import Derived.Deep.DeepCutAuto
set_option linter.all false
namespace Go.Proofs.Ytjimjkfnpklhiaa
open Go.RowKit Go.Maps

structure Six (w0 : World) (p1 p2 p3 p4 p5 p6 : Nat) (W : World) : Prop where
  new : New w0 W
  e : W.heap[p1]? = some (blkS (at_ 0 0))
  d : W.heap[p2]? = some (blkS (at_ 1 0))
  f : W.heap[p3]? = some (blkS (at_ 2 0))
  g : W.heap[p4]? = some (blkS (at_ 0 1))
  h : W.heap[p5]? = some (blkS (at_ 1 1))
  o : W.heap[p6]? = some (blkS oth)
theorem Six.next {w0 W W' : World} {p1 p2 p3 p4 p5 p6 : Nat} (h : Six w0 p1 p2 p3 p4 p5 p6 W) (k : New W W') : Six w0 p1 p2 p3 p4 p5 p6 W' :=
  ⟨h.new.trans k, k.heap h.e (fun h => h), k.heap h.d (fun h => h), k.heap h.f (fun h => h), k.heap h.g (fun h => h), k.heap h.h (fun h => h), k.heap h.o (fun h => h)⟩

theorem yl {ops : Array Oper} {S : World → Prop} {a : Act} {o : Oper} {k p : Nat} {s : Sn} (ho : o.op = .load 40 (.tmp k)) (hk : a.eval (.tmp k) = .pointer (some ⟨p, 0, none⟩)) (hw : Region.wanted o (yielded ops a.tmps) = true) (hS : ∀ w, S w → w.heap[p]? = some (blkS s)) :
    YieldsIf Try.prog ops S o (snV s) a := by
  refine .inl ⟨hw, fun w h => ?_⟩
  have hb := hS w h
  have c0 := cell_blk hb 0
  have c1 := cell_blk hb 1
  have c2 := cell_blk hb 2
  have c3 := cell_blk hb 3
  have c4 := cell_blk hb 4
  have c5 := cell_blk hb 5
  have c6 := cell_blk hb 6
  have c7 := cell_blk hb 7
  have c8 := cell_blk hb 8
  have c9 := cell_blk hb 9
  clear hb hS
  unfold execOp
  rw [ho]
  simp only [hk]
  go_simp

theorem srcNil10 (w : World) : Src w (.slice none 0 0) ([] : List Sn).length 10 (([] : List Sn).flatMap encS) := ⟨none, 0, rfl, fun _ => rfl, rfl, fun j v hj => by simp at hj⟩
def isPlain : List Sn → Prop
  | [] => True
  | s :: r => (s.v = .slice none 0 0 ∧ s.t.fg = []) ∧ isPlain r
theorem nil_all (w : World) : ∀ (L : List Sn), isPlain L → ∀ s ∈ L, Src w s.v s.t.fg.length 4 (s.t.fg.flatMap encL) ∧ s.t.fg.length ≤ 1000000
  | [], _, s, hs => by cases hs
  | x :: r, h, s, hs => by
    rcases List.mem_cons.1 hs with rfl | hs
    · obtain ⟨h1, h2⟩ := h.1
      rw [h1, h2]
      exact ⟨⟨none, 0, rfl, fun _ => rfl, rfl, fun j v hj => by simp at hj⟩, by decide⟩
    · exact nil_all w r h.2 s hs
theorem lit10 (w : World) (L : List Sn) (n : Nat) (hn : L.length = n) : ∃ w', w' = w.alloc (.cells (L.flatMap encS).toArray 40) ∧ New w w' ∧ Src w' (.slice (some ⟨w.heap.size, 0, none⟩) n n) n 10 (L.flatMap encS) :=
  ⟨_, rfl, (Kept.refl _ _).alloc _, Src.lit w (L.flatMap encS).toArray 40 n 10 (by rw [List.size_toArray, seen_len, hn])⟩
theorem litI (w : World) (L : List Int) (n : Nat) (hn : L.length = n) : ∃ w', w' = w.alloc (.cells (L.map (Value.int .i64)).toArray 3) ∧ New w w' ∧ Src w' (.slice (some ⟨w.heap.size, 0, none⟩) n n) n 1 (L.map (Value.int .i64)) :=
  ⟨_, rfl, (Kept.refl _ _).alloc _, Src.lit w (L.map (Value.int .i64)).toArray 3 n 1 (by simp [hn])⟩

def bodyOf : Option Code → Code
  | some c => c
  | none => .skip
def tailC : Code → Code
  | .seq _ c => c
  | c => c
def headC : Code → Code
  | .seq c _ => c
  | c => c
def opsC : Code → Array Oper
  | .region _ ops _ => ops
  | _ => #[]
noncomputable def ops5 : Array Oper := opsC (headC (tailC (tailC (tailC (tailC (tailC (bodyOf Try.f20.body)))))))
def Lm (i : Nat) (l : List Nat) : Array Bool := ((List.range 68).map (fun k => decide (k < i) || l.contains k)).toArray
theorem sel5 : Region.noSelect ops5 = true := by kernel_rfl
section
variable {P : Program} {md : Region.Mode} {ops : Array Oper} {Q : Exit → Act → World → Prop} {S : World → Prop}
theorem takeL {i : Nat} {oi : Oper} {v : Value} {fuel : Nat} {listed listed' : Array Bool} {a : Act} {w : World} (hi : ops[i]? = some oi)
    (hs : Region.noSelect ops = true) (hf : Region.free md ops listed i = true) (hr : (Region.ready md ops listed).contains i = true)
    (hQ : ∀ c a w, Q (.panic c) (a.put oi.dst v) w → Q (.panic c) a w) (hy : YieldsIf P ops S oi v a) (hS : S w) (hl : listed.setIfInBounds i true = listed')
    (h : wpAnyH P md ops Q S fuel listed' (a.put oi.dst v) w) : wpAnyH P md ops Q S (fuel + 1) listed a w := wpAnyH_take hi hs hf hr hQ hy hS (hl ▸ h)
theorem relist {fuel : Nat} {listed listed' : Array Bool} {a : Act} {w : World} (hl : listed = listed') (h : wpAnyH P md ops Q S fuel listed' a w) : wpAnyH P md ops Q S fuel listed a w := hl ▸ h
end

set_option maxRecDepth 100000 in
set_option maxHeartbeats 16000000 in
theorem fixed_tail {Q : Exit → Act → World → Prop} {w Wd : World} {p1 p2 p3 p4 p5 p6 : Nat} (hHeld : Six w p1 p2 p3 p4 p5 p6 Wd) (x7 x8 x9 x10 x11 x12 x13 x14 x15 x16 x17 x18 x19 x20 x21 x22 x23 x24 x25 x26 x27 x28 x29 x30 x31 x32 x33 x34 x35 x36 x37 x38 x39 x40 x41 x42 x43 x44 x45 x46 x47 x48 x49 x50 x51 x52 x53 x54 x55 x56 x57 x58 x59 x60 x61 x62 x63 x64 x65 x66 x67 x68 x69 x70 x72 x73 x74 x75 x76 x77 x78 x79 x80 x81 : Value) (hpan : ∀ c (a : Act) (d : Nat) v w, Q (.panic c) (a.put (some d) v) w → Q (.panic c) a w)
    (hQ : ∀ (y7 y8 y9 y10 y11 y12 y13 y14 y15 y16 y17 y18 y19 y20 y21 y22 y23 y24 y25 y26 y27 y28 y29 y30 y31 y32 y33 y34 y35 y36 y37 y38 y39 y40 y41 y42 y43 y44 y45 y46 y47 y48 y49 y50 y51 y52 y53 y54 y55 y56 y57 y58 y59 y60 y61 y62 y63 y64 y65 y66 y67 y68 y69 y70 y71 y72 y73 y74 y75 y76 y77 y78 y79 y80 y81 : Value) (W : World), Six w p1 p2 p3 p4 p5 p6 W → Q .normal ⟨#[.bool true, .pointer (some ⟨p1, 0, none⟩), .pointer (some ⟨p2, 0, none⟩), .pointer (some ⟨p3, 0, none⟩), .pointer (some ⟨p4, 0, none⟩), .pointer (some ⟨p5, 0, none⟩), .pointer (some ⟨p6, 0, none⟩), y7, y8, y9, y10, y11, y12, y13, y14, y15, y16, y17, y18, y19, y20, y21, y22, y23, y24, y25, y26, y27, y28, y29, y30, y31, y32, y33, y34, y35, y36, y37, y38, y39, y40, y41, y42, y43, y44, y45, y46, y47, y48, y49, y50, y51, y52, y53, y54, y55, y56, y57, y58, y59, y60, y61, y62, y63, y64, y65, y66, y67, y68, y69, y70, y71, y72, y73, y74, y75, y76, y77, y78, y79, y80, y81], []⟩ W) :
    wpAnyH Try.prog .any ops5 Q (Six w p1 p2 p3 p4 p5 p6) 11 (Lm 57 []) ⟨#[.bool false, .pointer (some ⟨p1, 0, none⟩), .pointer (some ⟨p2, 0, none⟩), .pointer (some ⟨p3, 0, none⟩), .pointer (some ⟨p4, 0, none⟩), .pointer (some ⟨p5, 0, none⟩), .pointer (some ⟨p6, 0, none⟩), x7, x8, x9, x10, x11, x12, x13, x14, x15, x16, x17, x18, x19, x20, x21, x22, x23, x24, x25, x26, x27, x28, x29, x30, x31, x32, x33, x34, x35, x36, x37, x38, x39, x40, x41, x42, x43, x44, x45, x46, x47, x48, x49, x50, x51, x52, x53, x54, x55, x56, x57, x58, x59, x60, x61, x62, x63, x64, x65, x66, x67, x68, x69, x70, .bool true, x72, x73, x74, x75, x76, x77, x78, x79, x80, x81], []⟩ Wd := by
  refine takeL (i := 57) (listed' := Lm 58 []) (oi := { dst := some 72, op := Op.load 40 (Operand.tmp 1), type := 40, pos := "law.go:20", after := #[{ on := 56, ground := Ground.guard }], guard := some (56, true) }) rfl sel5 (by kernel_rfl) (by kernel_rfl) (fun c a w h => hpan c _ _ _ w h) (yl (s := (at_ 0 0)) rfl rfl (by kernel_rfl) (fun _ h => h.e)) hHeld (by kernel_rfl) ?_
  try simp only [Act.put, List.getElem_toArray, List.getElem_cons_zero, List.getElem_cons_succ, List.setIfInBounds_toArray, List.set_cons_zero, List.set_cons_succ]
  refine takeL (i := 58) (listed' := Lm 59 []) (oi := { dst := some 73, op := Op.load 40 (Operand.tmp 4), type := 40, pos := "law.go:20", after := #[{ on := 56, ground := Ground.guard }], guard := some (56, true) }) rfl sel5 (by kernel_rfl) (by kernel_rfl) (fun c a w h => hpan c _ _ _ w h) (yl (s := (at_ 0 1)) rfl rfl (by kernel_rfl) (fun _ h => h.g)) hHeld (by kernel_rfl) ?_
  try simp only [Act.put, List.getElem_toArray, List.getElem_cons_zero, List.getElem_cons_succ, List.setIfInBounds_toArray, List.set_cons_zero, List.set_cons_succ]
  refine takeL (i := 59) (listed' := Lm 60 []) (oi := { dst := some 74, op := Op.load 40 (Operand.tmp 2), type := 40, pos := "law.go:20", after := #[{ on := 56, ground := Ground.guard }], guard := some (56, true) }) rfl sel5 (by kernel_rfl) (by kernel_rfl) (fun c a w h => hpan c _ _ _ w h) (yl (s := (at_ 1 0)) rfl rfl (by kernel_rfl) (fun _ h => h.d)) hHeld (by kernel_rfl) ?_
  try simp only [Act.put, List.getElem_toArray, List.getElem_cons_zero, List.getElem_cons_succ, List.setIfInBounds_toArray, List.set_cons_zero, List.set_cons_succ]
  refine takeL (i := 60) (listed' := Lm 61 []) (oi := { dst := some 75, op := Op.load 40 (Operand.tmp 3), type := 40, pos := "law.go:20", after := #[{ on := 56, ground := Ground.guard }], guard := some (56, true) }) rfl sel5 (by kernel_rfl) (by kernel_rfl) (fun c a w h => hpan c _ _ _ w h) (yl (s := (at_ 2 0)) rfl rfl (by kernel_rfl) (fun _ h => h.f)) hHeld (by kernel_rfl) ?_
  try simp only [Act.put, List.getElem_toArray, List.getElem_cons_zero, List.getElem_cons_succ, List.setIfInBounds_toArray, List.set_cons_zero, List.set_cons_succ]
  refine takeL (i := 61) (listed' := Lm 62 []) (oi := { dst := some 76, op := Op.load 40 (Operand.tmp 5), type := 40, pos := "law.go:20", after := #[{ on := 56, ground := Ground.guard }], guard := some (56, true) }) rfl sel5 (by kernel_rfl) (by kernel_rfl) (fun c a w h => hpan c _ _ _ w h) (yl (s := (at_ 1 1)) rfl rfl (by kernel_rfl) (fun _ h => h.h)) hHeld (by kernel_rfl) ?_
  try simp only [Act.put, List.getElem_toArray, List.getElem_cons_zero, List.getElem_cons_succ, List.setIfInBounds_toArray, List.set_cons_zero, List.set_cons_succ]
  refine wpAnyH_ready (rs := [62]) (by kernel_rfl) (by simp) ?_
  refine AllReadyH.cons (o := { dst := some 77, op := Op.call { callee := Callee.value (Operand.func 26), args := #[Operand.const (Value.int IntKind.i64 2), Operand.const (Value.int IntKind.i64 1)], argTypes := #[3, 3] }, type := 40, pos := "law.go:20", after := #[{ on := 56, ground := Ground.chain }, { on := 56, ground := Ground.guard }], guard := some (56, true) }) rfl (fun K hK => ?_) AllReadyH.nil
  go_simp
  refine (at_any 2 1 _).mono ?_
  rintro e W56 ⟨rfl, kW⟩
  replace hHeld := hHeld.next kW
  refine hK.out _ _ hHeld (fun _ => ?_)
  clear hK K
  refine relist (by kernel_rfl : _ = Lm 63 []) ?_
  try simp only [Act.put, List.getElem_toArray, List.getElem_cons_zero, List.getElem_cons_succ, List.setIfInBounds_toArray, List.set_cons_zero, List.set_cons_succ]
  clear kW
  refine wpAnyH_ready (rs := [63]) (by kernel_rfl) (by simp) ?_
  refine AllReadyH.cons (o := { dst := some 78, op := Op.buildSlice 22 6 #[(0, Operand.tmp 72), (1, Operand.tmp 73), (2, Operand.tmp 74), (3, Operand.tmp 75), (4, Operand.tmp 76), (5, Operand.tmp 77)], type := 22, pos := "law.go:20", after := #[{ on := 57, ground := Ground.data }, { on := 58, ground := Ground.data }, { on := 59, ground := Ground.data }, { on := 60, ground := Ground.data }, { on := 61, ground := Ground.data }, { on := 62, ground := Ground.data }, { on := 56, ground := Ground.guard }], guard := some (56, true) }) rfl (fun K hK => ?_) AllReadyH.nil
  go_simp
  obtain ⟨W57, hW, kW, s57⟩ := lit10 W56 [at_ 0 0, at_ 0 1, at_ 1 0, at_ 2 0, at_ 1 1, at_ 2 1] 6 rfl
  rw [show W56.alloc (.cells #[.int .i64 0, .int .i64 0, .int .i64 0, .int .i64 0, .int .u64 0, .int .i64 0, .slice none 0 0, .int .i64 0, .int .i64 0, .bool false, .int .i64 0, .int .i64 1, .int .i64 1, .int .i64 0, .int .u64 0, .int .i64 0, .slice none 0 0, .int .i64 0, .int .i64 0, .bool false, .int .i64 1, .int .i64 0, .int .i64 0, .int .i64 0, .int .u64 0, .int .i64 0, .slice none 0 0, .int .i64 0, .int .i64 0, .bool false, .int .i64 2, .int .i64 0, .int .i64 0, .int .i64 0, .int .u64 0, .int .i64 0, .slice none 0 0, .int .i64 0, .int .i64 0, .bool false, .int .i64 1, .int .i64 1, .int .i64 1, .int .i64 0, .int .u64 0, .int .i64 0, .slice none 0 0, .int .i64 0, .int .i64 0, .bool false, .int .i64 2, .int .i64 1, .int .i64 1, .int .i64 0, .int .u64 0, .int .i64 0, .slice none 0 0, .int .i64 0, .int .i64 0, .bool false] 40) = W57 from hW.symm]
  obtain ⟨q57, hq⟩ : ∃ q, q = W56.heap.size := ⟨_, rfl⟩
  rw [← hq] at s57 ⊢
  clear hW hq
  replace hHeld := hHeld.next kW
  refine hK.out _ _ hHeld (fun _ => ?_)
  clear hK K
  refine relist (by kernel_rfl : _ = Lm 64 []) ?_
  try simp only [Act.put, List.getElem_toArray, List.getElem_cons_zero, List.getElem_cons_succ, List.setIfInBounds_toArray, List.set_cons_zero, List.set_cons_succ]
  refine wpAnyH_ready (rs := [64]) (by kernel_rfl) (by simp) ?_
  refine AllReadyH.cons (o := { dst := some 79, op := Op.call { callee := Callee.value (Operand.func 18), args := #[Operand.const (Value.int IntKind.i64 2), Operand.tmp 78], argTypes := #[3, 22] }, type := 3, pos := "law.go:20", after := #[{ on := 63, ground := Ground.data }, { on := 62, ground := Ground.chain }, { on := 56, ground := Ground.guard }], guard := some (56, true) }) rfl (fun K hK => ?_) AllReadyH.nil
  go_simp
  refine (owaits_any 2 _ [at_ 0 0, at_ 0 1, at_ 1 0, at_ 2 0, at_ 1 1, at_ 2 1] _ (by decide) (by decide) s57 (nil_all _ _ (by repeat (first | exact trivial | refine ⟨⟨rfl, rfl⟩, ?_⟩))) (by decide) _ _ _ (show _ = (_, _, 1) from rfl)).mono ?_
  rintro e W58 ⟨rfl, kW⟩
  replace hHeld := hHeld.next kW
  refine hK.out _ _ hHeld (fun _ => ?_)
  clear hK K
  refine relist (by kernel_rfl : _ = Lm 65 []) ?_
  try simp only [Act.put, List.getElem_toArray, List.getElem_cons_zero, List.getElem_cons_succ, List.setIfInBounds_toArray, List.set_cons_zero, List.set_cons_succ]
  clear s57 kW
  refine takeL (i := 65) (v := .bool true) (listed' := Lm 66 []) (oi := { dst := some 80, op := Op.binOp BinOp.eql 3 (Operand.tmp 79) (Operand.const (Value.int IntKind.i64 1)) 3, type := 4, pos := "law.go:20", after := #[{ on := 64, ground := Ground.data }, { on := 56, ground := Ground.guard }], guard := some (56, true) }) rfl sel5 (by kernel_rfl) (by kernel_rfl) (fun c a w h => hpan c _ _ _ w h) (Or.inl ⟨by kernel_rfl, ?_⟩) hHeld (by kernel_rfl) ?_
  · intro W hSW; clear hSW hHeld; go_simp
  try simp only [Act.put, List.getElem_toArray, List.getElem_cons_zero, List.getElem_cons_succ, List.setIfInBounds_toArray, List.set_cons_zero, List.set_cons_succ]
  refine takeL (i := 66) (v := .bool true) (listed' := Lm 67 []) (oi := { dst := some 81, op := Op.pick (Operand.tmp 71) (Operand.tmp 80) (Operand.const (Value.bool false)), type := 4, pos := "law.go:20", after := #[{ on := 56, ground := Ground.data }, { on := 65, ground := Ground.data }], guard := none }) rfl sel5 (by kernel_rfl) (by kernel_rfl) (fun c a w h => hpan c _ _ _ w h) (Or.inl ⟨by kernel_rfl, ?_⟩) hHeld (by kernel_rfl) ?_
  · intro W hSW; clear hSW hHeld; go_simp
  try simp only [Act.put, List.getElem_toArray, List.getElem_cons_zero, List.getElem_cons_succ, List.setIfInBounds_toArray, List.set_cons_zero, List.set_cons_succ]
  refine takeL (i := 67) (v := .bool true) (listed' := Lm 68 []) (oi := { dst := some 0, op := Op.assign (Operand.tmp 81), type := 4, pos := "law.go:20", after := ([{ on := 66, ground := Ground.data }, { on := 64, ground := Ground.chain }, { on := 0, ground := Ground.phase }, { on := 1, ground := Ground.phase }, { on := 2, ground := Ground.phase }, { on := 3, ground := Ground.phase }, { on := 4, ground := Ground.phase }, { on := 5, ground := Ground.phase }, { on := 6, ground := Ground.phase }, { on := 7, ground := Ground.phase }, { on := 8, ground := Ground.phase }, { on := 9, ground := Ground.phase }, { on := 10, ground := Ground.phase }, { on := 11, ground := Ground.phase }, { on := 12, ground := Ground.phase }, { on := 13, ground := Ground.phase }, { on := 14, ground := Ground.phase }, { on := 15, ground := Ground.phase }, { on := 16, ground := Ground.phase }, { on := 17, ground := Ground.phase }, { on := 18, ground := Ground.phase }, { on := 19, ground := Ground.phase }, { on := 20, ground := Ground.phase }, { on := 21, ground := Ground.phase }, { on := 22, ground := Ground.phase }, { on := 23, ground := Ground.phase }, { on := 24, ground := Ground.phase }, { on := 25, ground := Ground.phase }, { on := 26, ground := Ground.phase }, { on := 27, ground := Ground.phase }, { on := 28, ground := Ground.phase }, { on := 29, ground := Ground.phase }, { on := 30, ground := Ground.phase }, { on := 31, ground := Ground.phase }].append [{ on := 32, ground := Ground.phase }, { on := 33, ground := Ground.phase }, { on := 34, ground := Ground.phase }, { on := 35, ground := Ground.phase }, { on := 36, ground := Ground.phase }, { on := 37, ground := Ground.phase }, { on := 38, ground := Ground.phase }, { on := 39, ground := Ground.phase }, { on := 40, ground := Ground.phase }, { on := 41, ground := Ground.phase }, { on := 42, ground := Ground.phase }, { on := 43, ground := Ground.phase }, { on := 44, ground := Ground.phase }, { on := 45, ground := Ground.phase }, { on := 46, ground := Ground.phase }, { on := 47, ground := Ground.phase }, { on := 48, ground := Ground.phase }, { on := 49, ground := Ground.phase }, { on := 50, ground := Ground.phase }, { on := 51, ground := Ground.phase }, { on := 52, ground := Ground.phase }, { on := 53, ground := Ground.phase }, { on := 54, ground := Ground.phase }, { on := 55, ground := Ground.phase }, { on := 56, ground := Ground.phase }, { on := 57, ground := Ground.phase }, { on := 58, ground := Ground.phase }, { on := 59, ground := Ground.phase }, { on := 60, ground := Ground.phase }, { on := 61, ground := Ground.phase }, { on := 62, ground := Ground.phase }, { on := 63, ground := Ground.phase }, { on := 64, ground := Ground.phase }, { on := 65, ground := Ground.phase }, { on := 66, ground := Ground.phase }]).toArray, guard := none }) rfl sel5 (by kernel_rfl) (by kernel_rfl) (fun c a w h => hpan c _ _ _ w h) (Or.inl ⟨by kernel_rfl, ?_⟩) hHeld (by kernel_rfl) ?_
  · intro W hSW; clear hSW hHeld; go_simp
  try simp only [Act.put, List.getElem_toArray, List.getElem_cons_zero, List.getElem_cons_succ, List.setIfInBounds_toArray, List.set_cons_zero, List.set_cons_succ]
  refine wpAnyH_done (by kernel_rfl) ?_ _
  exact hQ _ _ _ _ _ _ _ _ _ _ _ _ _ _ _ _ _ _ _ _ _ _ _ _ _ _ _ _ _ _ _ _ _ _ _ _ _ _ _ _ _ _ _ _ _ _ _ _ _ _ _ _ _ _ _ _ _ _ _ _ _ _ _ _ _ _ _ _ _ _ _ _ _ _ _ _ hHeld

set_option maxRecDepth 100000 in
set_option maxHeartbeats 16000000 in
theorem fixed_any (w : World) : Calls Try.prog 20 #[] w fun e w' => e = .returned (.bool true) ∧ New w w' := by
  go_enter Try.func20, Try.ntmps20
  go_wp2_with fail
  refine (at_any 0 0 _).mono ?_
  rintro e w1 ⟨rfl, k1⟩
  go_wp2_with fail
  refine (at_any 1 0 _).mono ?_
  rintro e w2 ⟨rfl, k2⟩
  go_wp2_with fail
  refine (at_any 2 0 _).mono ?_
  rintro e w3 ⟨rfl, k3⟩
  go_upto_region 2 with fail
  obtain ⟨X1, hX1⟩ : ∃ X, X = ((w3.alloc (.cells #[.int .i64 0, .int .i64 0, .int .i64 0, .int .i64 0, .int .u64 0, .int .i64 0, .slice none 0 0, .int .i64 0, .int .i64 0, .bool false] 40)).alloc (.cells #[.int .i64 1, .int .i64 0, .int .i64 0, .int .i64 0, .int .u64 0, .int .i64 0, .slice none 0 0, .int .i64 0, .int .i64 0, .bool false] 40)).alloc (.cells #[.int .i64 2, .int .i64 0, .int .i64 0, .int .i64 0, .int .u64 0, .int .i64 0, .slice none 0 0, .int .i64 0, .int .i64 0, .bool false] 40) := ⟨_, rfl⟩
  rw [← hX1]
  have kA : New w3 (w3.alloc (blkS (at_ 0 0))) := (Kept.refl _ _).alloc _
  have kB : New (w3.alloc (blkS (at_ 0 0))) ((w3.alloc (blkS (at_ 0 0))).alloc (blkS (at_ 1 0))) := (Kept.refl _ _).alloc _
  have kC : New ((w3.alloc (blkS (at_ 0 0))).alloc (blkS (at_ 1 0))) X1 := by rw [hX1]; exact (Kept.refl _ _).alloc _
  have z1 : (w3.alloc (blkS (at_ 0 0))).heap.size = w3.heap.size + 1 := Array.size_push ..
  have z2 : ((w3.alloc (blkS (at_ 0 0))).alloc (blkS (at_ 1 0))).heap.size = w3.heap.size + 1 + 1 := by rw [← z1]; exact Array.size_push ..
  obtain ⟨p1, hp1⟩ : ∃ p, p = w3.heap.size := ⟨_, rfl⟩
  obtain ⟨p2, hp2⟩ : ∃ p, p = w3.heap.size + 1 := ⟨_, rfl⟩
  obtain ⟨p3, hp3⟩ : ∃ p, p = w3.heap.size + 1 + 1 := ⟨_, rfl⟩
  have e1 : X1.heap[p1]? = some (blkS (at_ 0 0)) := by rw [hp1]; exact (kB.trans kC).heap (heap_alloc_new _ _) (fun h => h)
  have e2 : X1.heap[p2]? = some (blkS (at_ 1 0)) := by rw [hp2, ← z1]; exact kC.heap (heap_alloc_new _ _) (fun h => h)
  have e3 : X1.heap[p3]? = some (blkS (at_ 2 0)) := by rw [hp3, ← z2, hX1]; exact heap_alloc_new _ _
  have k4 : New w X1 := k1.trans (k2.trans (k3.trans (kA.trans (kB.trans kC))))
  rw [← hp3, ← hp2, ← hp1]
  clear k1 k2 k3 kA kB kC z1 z2 hX1 hp1 hp2 hp3
  go_wp2_with fail
  refine (at_any 0 1 _).mono ?_
  rintro e w5 ⟨rfl, k5⟩
  go_wp2_with fail
  refine (at_any 1 1 _).mono ?_
  rintro e w6 ⟨rfl, k6⟩
  go_upto_region 3 with fail
  obtain ⟨X2, hX2⟩ : ∃ X, X = (w6.alloc (.cells #[.int .i64 0, .int .i64 1, .int .i64 1, .int .i64 0, .int .u64 0, .int .i64 0, .slice none 0 0, .int .i64 0, .int .i64 0, .bool false] 40)).alloc (.cells #[.int .i64 1, .int .i64 1, .int .i64 1, .int .i64 0, .int .u64 0, .int .i64 0, .slice none 0 0, .int .i64 0, .int .i64 0, .bool false] 40) := ⟨_, rfl⟩
  rw [← hX2]
  have kB : New w6 (w6.alloc (blkS (at_ 0 1))) := (Kept.refl _ _).alloc _
  have kC : New (w6.alloc (blkS (at_ 0 1))) X2 := by rw [hX2]; exact (Kept.refl _ _).alloc _
  have z1 : (w6.alloc (blkS (at_ 0 1))).heap.size = w6.heap.size + 1 := Array.size_push ..
  obtain ⟨p4, hp4⟩ : ∃ p, p = w6.heap.size := ⟨_, rfl⟩
  obtain ⟨p5, hp5⟩ : ∃ p, p = w6.heap.size + 1 := ⟨_, rfl⟩
  have e4 : X2.heap[p4]? = some (blkS (at_ 0 1)) := by rw [hp4]; exact kC.heap (heap_alloc_new _ _) (fun h => h)
  have e5 : X2.heap[p5]? = some (blkS (at_ 1 1)) := by rw [hp5, ← z1, hX2]; exact heap_alloc_new _ _
  have k9 : New X1 X2 := k5.trans (k6.trans (kB.trans kC))
  rw [← hp5, ← hp4]
  replace k4 := k4.trans k9
  replace e1 := k9.heap e1 (fun h => h)
  replace e2 := k9.heap e2 (fun h => h)
  replace e3 := k9.heap e3 (fun h => h)
  clear k5 k6 kB kC z1 hX2 hp4 hp5 k9
  have c0 := cell_blk e3 0
  have c1 := cell_blk e3 1
  have c2 := cell_blk e3 2
  have c3 := cell_blk e3 3
  have c4 := cell_blk e3 4
  have c5 := cell_blk e3 5
  have c6 := cell_blk e3 6
  have c7 := cell_blk e3 7
  have c8 := cell_blk e3 8
  have c9 := cell_blk e3 9
  simp at c0 c1 c2 c3 c4 c5 c6 c7 c8 c9
  go_upto_region 4 with fail
  clear c0 c1 c2 c3 c4 c5 c6 c7 c8 c9
  go_upto_region 5 with fail
  obtain ⟨W0, hW0⟩ : ∃ X, X = X2.alloc (.cells #[.int .i64 2, .int .i64 0, .int .i64 0, .int .i64 0, .int .u64 9, .int .i64 0, .slice none 0 0, .int .i64 0, .int .i64 0, .bool false] 40) := ⟨_, rfl⟩
  rw [← hW0]
  have k9 : New X2 W0 := by rw [hW0]; exact (Kept.refl _ _).alloc _
  obtain ⟨p6, hp6⟩ : ∃ p, p = X2.heap.size := ⟨_, rfl⟩
  rw [← hp6]
  have hH : Six w p1 p2 p3 p4 p5 p6 W0.drew := ⟨(k4.trans k9).drewN 1, k9.heap e1 (fun h => h), k9.heap e2 (fun h => h), k9.heap e3 (fun h => h), k9.heap e4 (fun h => h), k9.heap e5 (fun h => h), by show W0.heap[p6]? = _; rw [hp6, hW0]; exact heap_alloc_new _ _⟩
  clear k4 k9 e1 e2 e3 e4 e5 hW0 hp6
  refine wp_region_held_drew (S := Six w p1 p2 p3 p4 p5 p6) (by kernel_rfl) hH (fun hHeld => ?_)
  clear hH
  obtain ⟨Wd, hWd⟩ : ∃ X, X = W0.drew := ⟨_, rfl⟩
  rw [← hWd] at hHeld ⊢
  clear hWd
  change wpAnyH Try.prog .any ops5 _ _ 68 (Lm 0 []) _ _
  refine takeL (i := 0) (listed' := Lm 1 []) (oi := { dst := some 15, op := Op.load 40 (Operand.tmp 1), type := 40, pos := "law.go:20", after := #[], guard := none }) rfl sel5 (by kernel_rfl) (by kernel_rfl) (fun _ _ _ h => h) (yl (s := (at_ 0 0)) rfl rfl (by kernel_rfl) (fun _ h => h.e)) hHeld (by kernel_rfl) ?_
  try simp only [Act.put, List.getElem_toArray, List.getElem_cons_zero, List.getElem_cons_succ, List.setIfInBounds_toArray, List.set_cons_zero, List.set_cons_succ]
  refine takeL (i := 1) (listed' := Lm 2 []) (oi := { dst := some 16, op := Op.load 40 (Operand.tmp 2), type := 40, pos := "law.go:20", after := #[], guard := none }) rfl sel5 (by kernel_rfl) (by kernel_rfl) (fun _ _ _ h => h) (yl (s := (at_ 1 0)) rfl rfl (by kernel_rfl) (fun _ h => h.d)) hHeld (by kernel_rfl) ?_
  try simp only [Act.put, List.getElem_toArray, List.getElem_cons_zero, List.getElem_cons_succ, List.setIfInBounds_toArray, List.set_cons_zero, List.set_cons_succ]
  refine takeL (i := 2) (listed' := Lm 3 []) (oi := { dst := some 17, op := Op.load 40 (Operand.tmp 3), type := 40, pos := "law.go:20", after := #[], guard := none }) rfl sel5 (by kernel_rfl) (by kernel_rfl) (fun _ _ _ h => h) (yl (s := (at_ 2 0)) rfl rfl (by kernel_rfl) (fun _ h => h.f)) hHeld (by kernel_rfl) ?_
  try simp only [Act.put, List.getElem_toArray, List.getElem_cons_zero, List.getElem_cons_succ, List.setIfInBounds_toArray, List.set_cons_zero, List.set_cons_succ]
  refine wpAnyH_ready (rs := [3]) (by kernel_rfl) (by simp) ?_
  refine AllReadyH.cons (o := { dst := some 18, op := Op.buildSlice 22 3 #[(0, Operand.tmp 15), (1, Operand.tmp 16), (2, Operand.tmp 17)], type := 22, pos := "law.go:20", after := #[{ on := 0, ground := Ground.data }, { on := 1, ground := Ground.data }, { on := 2, ground := Ground.data }], guard := none }) rfl (fun K hK => ?_) AllReadyH.nil
  go_simp
  obtain ⟨W1, hW, kW, s1⟩ := lit10 Wd [at_ 0 0, at_ 1 0, at_ 2 0] 3 rfl
  rw [show Wd.alloc (.cells #[.int .i64 0, .int .i64 0, .int .i64 0, .int .i64 0, .int .u64 0, .int .i64 0, .slice none 0 0, .int .i64 0, .int .i64 0, .bool false, .int .i64 1, .int .i64 0, .int .i64 0, .int .i64 0, .int .u64 0, .int .i64 0, .slice none 0 0, .int .i64 0, .int .i64 0, .bool false, .int .i64 2, .int .i64 0, .int .i64 0, .int .i64 0, .int .u64 0, .int .i64 0, .slice none 0 0, .int .i64 0, .int .i64 0, .bool false] 40) = W1 from hW.symm]
  obtain ⟨q1, hq⟩ : ∃ q, q = Wd.heap.size := ⟨_, rfl⟩
  rw [← hq] at s1 ⊢
  clear hW hq
  replace hHeld := hHeld.next kW
  refine hK.out _ _ hHeld (fun _ => ?_)
  clear hK K
  refine relist (by kernel_rfl : _ = Lm 4 []) ?_
  try simp only [Act.put, List.getElem_toArray, List.getElem_cons_zero, List.getElem_cons_succ, List.setIfInBounds_toArray, List.set_cons_zero, List.set_cons_succ]
  refine wpAnyH_ready (rs := [4]) (by kernel_rfl) (by simp) ?_
  refine AllReadyH.cons (o := { dst := some 19, op := Op.call { callee := Callee.value (Operand.func 11), args := #[Operand.const (Value.int IntKind.i64 2), Operand.tmp 18], argTypes := #[3, 22] }, type := 3, pos := "law.go:20", after := #[{ on := 3, ground := Ground.data }], guard := none }) rfl (fun K hK => ?_) AllReadyH.nil
  go_simp
  refine (ofirst_any 2 _ [at_ 0 0, at_ 1 0, at_ 2 0] _ (by decide) (by decide) s1 (nil_all _ _ (by repeat (first | exact trivial | refine ⟨⟨rfl, rfl⟩, ?_⟩))) (by decide) _ _ _ (show _ = (-1, _, _) from rfl)).mono ?_
  rintro e W2 ⟨rfl, kW⟩
  replace hHeld := hHeld.next kW
  refine hK.out _ _ hHeld (fun _ => ?_)
  clear hK K
  refine relist (by kernel_rfl : _ = Lm 5 []) ?_
  try simp only [Act.put, List.getElem_toArray, List.getElem_cons_zero, List.getElem_cons_succ, List.setIfInBounds_toArray, List.set_cons_zero, List.set_cons_succ]
  clear s1 kW
  refine takeL (i := 5) (v := .bool true) (listed' := Lm 6 []) (oi := { dst := some 20, op := Op.binOp BinOp.eql 3 (Operand.tmp 19) (Operand.const (Value.int IntKind.i64 (-1))) 3, type := 4, pos := "law.go:20", after := #[{ on := 4, ground := Ground.data }], guard := none }) rfl sel5 (by kernel_rfl) (by kernel_rfl) (fun _ _ _ h => h) (Or.inl ⟨by kernel_rfl, ?_⟩) hHeld (by kernel_rfl) ?_
  · intro W hSW; clear hSW hHeld; go_simp
  try simp only [Act.put, List.getElem_toArray, List.getElem_cons_zero, List.getElem_cons_succ, List.setIfInBounds_toArray, List.set_cons_zero, List.set_cons_succ]
  refine takeL (i := 6) (v := .bool true) (listed' := Lm 7 []) (oi := { dst := some 21, op := Op.move (Operand.tmp 20), type := 4, pos := "law.go:20", after := #[{ on := 5, ground := Ground.data }, { on := 4, ground := Ground.chain }], guard := none }) rfl sel5 (by kernel_rfl) (by kernel_rfl) (fun _ _ _ h => h) (Or.inl ⟨by kernel_rfl, ?_⟩) hHeld (by kernel_rfl) ?_
  · intro W hSW; clear hSW hHeld; go_simp
  try simp only [Act.put, List.getElem_toArray, List.getElem_cons_zero, List.getElem_cons_succ, List.setIfInBounds_toArray, List.set_cons_zero, List.set_cons_succ]
  refine takeL (i := 7) (listed' := Lm 8 []) (oi := { dst := some 22, op := Op.load 40 (Operand.tmp 2), type := 40, pos := "law.go:20", after := #[{ on := 6, ground := Ground.guard }], guard := some (6, true) }) rfl sel5 (by kernel_rfl) (by kernel_rfl) (fun _ _ _ h => h) (yl (s := (at_ 1 0)) rfl rfl (by kernel_rfl) (fun _ h => h.d)) hHeld (by kernel_rfl) ?_
  try simp only [Act.put, List.getElem_toArray, List.getElem_cons_zero, List.getElem_cons_succ, List.setIfInBounds_toArray, List.set_cons_zero, List.set_cons_succ]
  refine wpAnyH_ready (rs := [8]) (by kernel_rfl) (by simp) ?_
  refine AllReadyH.cons (o := { dst := some 23, op := Op.buildSlice 22 1 #[(0, Operand.tmp 22)], type := 22, pos := "law.go:20", after := #[{ on := 7, ground := Ground.data }, { on := 6, ground := Ground.guard }], guard := some (6, true) }) rfl (fun K hK => ?_) AllReadyH.nil
  go_simp
  obtain ⟨W3, hW, kW, s3⟩ := lit10 W2 [at_ 1 0] 1 rfl
  rw [show W2.alloc (.cells #[.int .i64 1, .int .i64 0, .int .i64 0, .int .i64 0, .int .u64 0, .int .i64 0, .slice none 0 0, .int .i64 0, .int .i64 0, .bool false] 40) = W3 from hW.symm]
  obtain ⟨q3, hq⟩ : ∃ q, q = W2.heap.size := ⟨_, rfl⟩
  rw [← hq] at s3 ⊢
  clear hW hq
  replace hHeld := hHeld.next kW
  refine hK.out _ _ hHeld (fun _ => ?_)
  clear hK K
  refine relist (by kernel_rfl : _ = Lm 9 []) ?_
  try simp only [Act.put, List.getElem_toArray, List.getElem_cons_zero, List.getElem_cons_succ, List.setIfInBounds_toArray, List.set_cons_zero, List.set_cons_succ]
  refine wpAnyH_ready (rs := [9]) (by kernel_rfl) (by simp) ?_
  refine AllReadyH.cons (o := { dst := some 24, op := Op.call { callee := Callee.value (Operand.func 11), args := #[Operand.const (Value.int IntKind.i64 2), Operand.tmp 23], argTypes := #[3, 22] }, type := 3, pos := "law.go:20", after := #[{ on := 8, ground := Ground.data }, { on := 6, ground := Ground.chain }, { on := 6, ground := Ground.guard }], guard := some (6, true) }) rfl (fun K hK => ?_) AllReadyH.nil
  go_simp
  refine (ofirst_any 2 _ [at_ 1 0] _ (by decide) (by decide) s3 (nil_all _ _ (by repeat (first | exact trivial | refine ⟨⟨rfl, rfl⟩, ?_⟩))) (by decide) _ _ _ (show _ = (0, _, _) from rfl)).mono ?_
  rintro e W4 ⟨rfl, kW⟩
  replace hHeld := hHeld.next kW
  refine hK.out _ _ hHeld (fun _ => ?_)
  clear hK K
  refine relist (by kernel_rfl : _ = Lm 10 []) ?_
  try simp only [Act.put, List.getElem_toArray, List.getElem_cons_zero, List.getElem_cons_succ, List.setIfInBounds_toArray, List.set_cons_zero, List.set_cons_succ]
  clear s3 kW
  refine takeL (i := 10) (v := .bool true) (listed' := Lm 11 []) (oi := { dst := some 25, op := Op.binOp BinOp.eql 3 (Operand.tmp 24) (Operand.const (Value.int IntKind.i64 0)) 3, type := 4, pos := "law.go:20", after := #[{ on := 9, ground := Ground.data }, { on := 6, ground := Ground.guard }], guard := some (6, true) }) rfl sel5 (by kernel_rfl) (by kernel_rfl) (fun _ _ _ h => h) (Or.inl ⟨by kernel_rfl, ?_⟩) hHeld (by kernel_rfl) ?_
  · intro W hSW; clear hSW hHeld; go_simp
  try simp only [Act.put, List.getElem_toArray, List.getElem_cons_zero, List.getElem_cons_succ, List.setIfInBounds_toArray, List.set_cons_zero, List.set_cons_succ]
  refine takeL (i := 11) (v := .bool true) (listed' := Lm 12 []) (oi := { dst := some 26, op := Op.pick (Operand.tmp 21) (Operand.tmp 25) (Operand.const (Value.bool false)), type := 4, pos := "law.go:20", after := #[{ on := 6, ground := Ground.data }, { on := 10, ground := Ground.data }], guard := none }) rfl sel5 (by kernel_rfl) (by kernel_rfl) (fun _ _ _ h => h) (Or.inl ⟨by kernel_rfl, ?_⟩) hHeld (by kernel_rfl) ?_
  · intro W hSW; clear hSW hHeld; go_simp
  try simp only [Act.put, List.getElem_toArray, List.getElem_cons_zero, List.getElem_cons_succ, List.setIfInBounds_toArray, List.set_cons_zero, List.set_cons_succ]
  refine takeL (i := 12) (v := .bool true) (listed' := Lm 13 []) (oi := { dst := some 27, op := Op.move (Operand.tmp 26), type := 4, pos := "law.go:20", after := #[{ on := 11, ground := Ground.data }, { on := 9, ground := Ground.chain }], guard := none }) rfl sel5 (by kernel_rfl) (by kernel_rfl) (fun _ _ _ h => h) (Or.inl ⟨by kernel_rfl, ?_⟩) hHeld (by kernel_rfl) ?_
  · intro W hSW; clear hSW hHeld; go_simp
  try simp only [Act.put, List.getElem_toArray, List.getElem_cons_zero, List.getElem_cons_succ, List.setIfInBounds_toArray, List.set_cons_zero, List.set_cons_succ]
  refine takeL (i := 13) (listed' := Lm 14 []) (oi := { dst := some 28, op := Op.load 40 (Operand.tmp 1), type := 40, pos := "law.go:20", after := #[{ on := 12, ground := Ground.guard }], guard := some (12, true) }) rfl sel5 (by kernel_rfl) (by kernel_rfl) (fun _ _ _ h => h) (yl (s := (at_ 0 0)) rfl rfl (by kernel_rfl) (fun _ h => h.e)) hHeld (by kernel_rfl) ?_
  try simp only [Act.put, List.getElem_toArray, List.getElem_cons_zero, List.getElem_cons_succ, List.setIfInBounds_toArray, List.set_cons_zero, List.set_cons_succ]
  refine takeL (i := 14) (listed' := Lm 15 []) (oi := { dst := some 29, op := Op.load 40 (Operand.tmp 4), type := 40, pos := "law.go:20", after := #[{ on := 12, ground := Ground.guard }], guard := some (12, true) }) rfl sel5 (by kernel_rfl) (by kernel_rfl) (fun _ _ _ h => h) (yl (s := (at_ 0 1)) rfl rfl (by kernel_rfl) (fun _ h => h.g)) hHeld (by kernel_rfl) ?_
  try simp only [Act.put, List.getElem_toArray, List.getElem_cons_zero, List.getElem_cons_succ, List.setIfInBounds_toArray, List.set_cons_zero, List.set_cons_succ]
  refine takeL (i := 15) (listed' := Lm 16 []) (oi := { dst := some 30, op := Op.load 40 (Operand.tmp 5), type := 40, pos := "law.go:20", after := #[{ on := 12, ground := Ground.guard }], guard := some (12, true) }) rfl sel5 (by kernel_rfl) (by kernel_rfl) (fun _ _ _ h => h) (yl (s := (at_ 1 1)) rfl rfl (by kernel_rfl) (fun _ h => h.h)) hHeld (by kernel_rfl) ?_
  try simp only [Act.put, List.getElem_toArray, List.getElem_cons_zero, List.getElem_cons_succ, List.setIfInBounds_toArray, List.set_cons_zero, List.set_cons_succ]
  refine wpAnyH_ready (rs := [16]) (by kernel_rfl) (by simp) ?_
  refine AllReadyH.cons (o := { dst := some 31, op := Op.buildSlice 22 3 #[(0, Operand.tmp 28), (1, Operand.tmp 29), (2, Operand.tmp 30)], type := 22, pos := "law.go:20", after := #[{ on := 13, ground := Ground.data }, { on := 14, ground := Ground.data }, { on := 15, ground := Ground.data }, { on := 12, ground := Ground.guard }], guard := some (12, true) }) rfl (fun K hK => ?_) AllReadyH.nil
  go_simp
  obtain ⟨W5, hW, kW, s5⟩ := lit10 W4 [at_ 0 0, at_ 0 1, at_ 1 1] 3 rfl
  rw [show W4.alloc (.cells #[.int .i64 0, .int .i64 0, .int .i64 0, .int .i64 0, .int .u64 0, .int .i64 0, .slice none 0 0, .int .i64 0, .int .i64 0, .bool false, .int .i64 0, .int .i64 1, .int .i64 1, .int .i64 0, .int .u64 0, .int .i64 0, .slice none 0 0, .int .i64 0, .int .i64 0, .bool false, .int .i64 1, .int .i64 1, .int .i64 1, .int .i64 0, .int .u64 0, .int .i64 0, .slice none 0 0, .int .i64 0, .int .i64 0, .bool false] 40) = W5 from hW.symm]
  obtain ⟨q5, hq⟩ : ∃ q, q = W4.heap.size := ⟨_, rfl⟩
  rw [← hq] at s5 ⊢
  clear hW hq
  replace hHeld := hHeld.next kW
  refine hK.out _ _ hHeld (fun _ => ?_)
  clear hK K
  refine relist (by kernel_rfl : _ = Lm 17 []) ?_
  try simp only [Act.put, List.getElem_toArray, List.getElem_cons_zero, List.getElem_cons_succ, List.setIfInBounds_toArray, List.set_cons_zero, List.set_cons_succ]
  refine wpAnyH_ready (rs := [17]) (by kernel_rfl) (by simp) ?_
  refine AllReadyH.cons (o := { dst := some 32, op := Op.call { callee := Callee.value (Operand.func 11), args := #[Operand.const (Value.int IntKind.i64 2), Operand.tmp 31], argTypes := #[3, 22] }, type := 3, pos := "law.go:20", after := #[{ on := 16, ground := Ground.data }, { on := 12, ground := Ground.chain }, { on := 12, ground := Ground.guard }], guard := some (12, true) }) rfl (fun K hK => ?_) AllReadyH.nil
  go_simp
  refine (ofirst_any 2 _ [at_ 0 0, at_ 0 1, at_ 1 1] _ (by decide) (by decide) s5 (nil_all _ _ (by repeat (first | exact trivial | refine ⟨⟨rfl, rfl⟩, ?_⟩))) (by decide) _ _ _ (show _ = (2, _, _) from rfl)).mono ?_
  rintro e W6 ⟨rfl, kW⟩
  replace hHeld := hHeld.next kW
  refine hK.out _ _ hHeld (fun _ => ?_)
  clear hK K
  refine relist (by kernel_rfl : _ = Lm 18 []) ?_
  try simp only [Act.put, List.getElem_toArray, List.getElem_cons_zero, List.getElem_cons_succ, List.setIfInBounds_toArray, List.set_cons_zero, List.set_cons_succ]
  clear s5 kW
  refine takeL (i := 18) (v := .bool true) (listed' := Lm 19 []) (oi := { dst := some 33, op := Op.binOp BinOp.eql 3 (Operand.tmp 32) (Operand.const (Value.int IntKind.i64 2)) 3, type := 4, pos := "law.go:20", after := #[{ on := 17, ground := Ground.data }, { on := 12, ground := Ground.guard }], guard := some (12, true) }) rfl sel5 (by kernel_rfl) (by kernel_rfl) (fun _ _ _ h => h) (Or.inl ⟨by kernel_rfl, ?_⟩) hHeld (by kernel_rfl) ?_
  · intro W hSW; clear hSW hHeld; go_simp
  try simp only [Act.put, List.getElem_toArray, List.getElem_cons_zero, List.getElem_cons_succ, List.setIfInBounds_toArray, List.set_cons_zero, List.set_cons_succ]
  refine takeL (i := 19) (v := .bool true) (listed' := Lm 20 []) (oi := { dst := some 34, op := Op.pick (Operand.tmp 27) (Operand.tmp 33) (Operand.const (Value.bool false)), type := 4, pos := "law.go:20", after := #[{ on := 12, ground := Ground.data }, { on := 18, ground := Ground.data }], guard := none }) rfl sel5 (by kernel_rfl) (by kernel_rfl) (fun _ _ _ h => h) (Or.inl ⟨by kernel_rfl, ?_⟩) hHeld (by kernel_rfl) ?_
  · intro W hSW; clear hSW hHeld; go_simp
  try simp only [Act.put, List.getElem_toArray, List.getElem_cons_zero, List.getElem_cons_succ, List.setIfInBounds_toArray, List.set_cons_zero, List.set_cons_succ]
  refine takeL (i := 20) (v := .bool true) (listed' := Lm 21 []) (oi := { dst := some 35, op := Op.move (Operand.tmp 34), type := 4, pos := "law.go:20", after := #[{ on := 19, ground := Ground.data }, { on := 17, ground := Ground.chain }], guard := none }) rfl sel5 (by kernel_rfl) (by kernel_rfl) (fun _ _ _ h => h) (Or.inl ⟨by kernel_rfl, ?_⟩) hHeld (by kernel_rfl) ?_
  · intro W hSW; clear hSW hHeld; go_simp
  try simp only [Act.put, List.getElem_toArray, List.getElem_cons_zero, List.getElem_cons_succ, List.setIfInBounds_toArray, List.set_cons_zero, List.set_cons_succ]
  refine takeL (i := 21) (listed' := Lm 22 []) (oi := { dst := some 36, op := Op.load 40 (Operand.tmp 1), type := 40, pos := "law.go:20", after := #[{ on := 20, ground := Ground.guard }], guard := some (20, true) }) rfl sel5 (by kernel_rfl) (by kernel_rfl) (fun _ _ _ h => h) (yl (s := (at_ 0 0)) rfl rfl (by kernel_rfl) (fun _ h => h.e)) hHeld (by kernel_rfl) ?_
  try simp only [Act.put, List.getElem_toArray, List.getElem_cons_zero, List.getElem_cons_succ, List.setIfInBounds_toArray, List.set_cons_zero, List.set_cons_succ]
  refine takeL (i := 22) (listed' := Lm 23 []) (oi := { dst := some 37, op := Op.load 40 (Operand.tmp 2), type := 40, pos := "law.go:20", after := #[{ on := 20, ground := Ground.guard }], guard := some (20, true) }) rfl sel5 (by kernel_rfl) (by kernel_rfl) (fun _ _ _ h => h) (yl (s := (at_ 1 0)) rfl rfl (by kernel_rfl) (fun _ h => h.d)) hHeld (by kernel_rfl) ?_
  try simp only [Act.put, List.getElem_toArray, List.getElem_cons_zero, List.getElem_cons_succ, List.setIfInBounds_toArray, List.set_cons_zero, List.set_cons_succ]
  refine takeL (i := 23) (listed' := Lm 24 []) (oi := { dst := some 38, op := Op.load 40 (Operand.tmp 6), type := 40, pos := "law.go:20", after := #[{ on := 20, ground := Ground.guard }], guard := some (20, true) }) rfl sel5 (by kernel_rfl) (by kernel_rfl) (fun _ _ _ h => h) (yl (s := oth) rfl rfl (by kernel_rfl) (fun _ h => h.o)) hHeld (by kernel_rfl) ?_
  try simp only [Act.put, List.getElem_toArray, List.getElem_cons_zero, List.getElem_cons_succ, List.setIfInBounds_toArray, List.set_cons_zero, List.set_cons_succ]
  refine wpAnyH_ready (rs := [24]) (by kernel_rfl) (by simp) ?_
  refine AllReadyH.cons (o := { dst := some 39, op := Op.buildSlice 22 3 #[(0, Operand.tmp 36), (1, Operand.tmp 37), (2, Operand.tmp 38)], type := 22, pos := "law.go:20", after := #[{ on := 21, ground := Ground.data }, { on := 22, ground := Ground.data }, { on := 23, ground := Ground.data }, { on := 20, ground := Ground.guard }], guard := some (20, true) }) rfl (fun K hK => ?_) AllReadyH.nil
  go_simp
  obtain ⟨W7, hW, kW, s7⟩ := lit10 W6 [at_ 0 0, at_ 1 0, oth] 3 rfl
  rw [show W6.alloc (.cells #[.int .i64 0, .int .i64 0, .int .i64 0, .int .i64 0, .int .u64 0, .int .i64 0, .slice none 0 0, .int .i64 0, .int .i64 0, .bool false, .int .i64 1, .int .i64 0, .int .i64 0, .int .i64 0, .int .u64 0, .int .i64 0, .slice none 0 0, .int .i64 0, .int .i64 0, .bool false, .int .i64 2, .int .i64 0, .int .i64 0, .int .i64 0, .int .u64 9, .int .i64 0, .slice none 0 0, .int .i64 0, .int .i64 0, .bool false] 40) = W7 from hW.symm]
  obtain ⟨q7, hq⟩ : ∃ q, q = W6.heap.size := ⟨_, rfl⟩
  rw [← hq] at s7 ⊢
  clear hW hq
  replace hHeld := hHeld.next kW
  refine hK.out _ _ hHeld (fun _ => ?_)
  clear hK K
  refine relist (by kernel_rfl : _ = Lm 25 []) ?_
  try simp only [Act.put, List.getElem_toArray, List.getElem_cons_zero, List.getElem_cons_succ, List.setIfInBounds_toArray, List.set_cons_zero, List.set_cons_succ]
  refine wpAnyH_ready (rs := [25]) (by kernel_rfl) (by simp) ?_
  refine AllReadyH.cons (o := { dst := some 40, op := Op.call { callee := Callee.value (Operand.func 11), args := #[Operand.const (Value.int IntKind.i64 2), Operand.tmp 39], argTypes := #[3, 22] }, type := 3, pos := "law.go:20", after := #[{ on := 24, ground := Ground.data }, { on := 20, ground := Ground.chain }, { on := 20, ground := Ground.guard }], guard := some (20, true) }) rfl (fun K hK => ?_) AllReadyH.nil
  go_simp
  refine (ofirst_any 2 _ [at_ 0 0, at_ 1 0, oth] _ (by decide) (by decide) s7 (nil_all _ _ (by repeat (first | exact trivial | refine ⟨⟨rfl, rfl⟩, ?_⟩))) (by decide) _ _ _ (show _ = (2, _, _) from rfl)).mono ?_
  rintro e W8 ⟨rfl, kW⟩
  replace hHeld := hHeld.next kW
  refine hK.out _ _ hHeld (fun _ => ?_)
  clear hK K
  refine relist (by kernel_rfl : _ = Lm 26 []) ?_
  try simp only [Act.put, List.getElem_toArray, List.getElem_cons_zero, List.getElem_cons_succ, List.setIfInBounds_toArray, List.set_cons_zero, List.set_cons_succ]
  clear s7 kW
  refine takeL (i := 26) (v := .bool true) (listed' := Lm 27 []) (oi := { dst := some 41, op := Op.binOp BinOp.eql 3 (Operand.tmp 40) (Operand.const (Value.int IntKind.i64 2)) 3, type := 4, pos := "law.go:20", after := #[{ on := 25, ground := Ground.data }, { on := 20, ground := Ground.guard }], guard := some (20, true) }) rfl sel5 (by kernel_rfl) (by kernel_rfl) (fun _ _ _ h => h) (Or.inl ⟨by kernel_rfl, ?_⟩) hHeld (by kernel_rfl) ?_
  · intro W hSW; clear hSW hHeld; go_simp
  try simp only [Act.put, List.getElem_toArray, List.getElem_cons_zero, List.getElem_cons_succ, List.setIfInBounds_toArray, List.set_cons_zero, List.set_cons_succ]
  refine takeL (i := 27) (v := .bool true) (listed' := Lm 28 []) (oi := { dst := some 42, op := Op.pick (Operand.tmp 35) (Operand.tmp 41) (Operand.const (Value.bool false)), type := 4, pos := "law.go:20", after := #[{ on := 20, ground := Ground.data }, { on := 26, ground := Ground.data }], guard := none }) rfl sel5 (by kernel_rfl) (by kernel_rfl) (fun _ _ _ h => h) (Or.inl ⟨by kernel_rfl, ?_⟩) hHeld (by kernel_rfl) ?_
  · intro W hSW; clear hSW hHeld; go_simp
  try simp only [Act.put, List.getElem_toArray, List.getElem_cons_zero, List.getElem_cons_succ, List.setIfInBounds_toArray, List.set_cons_zero, List.set_cons_succ]
  refine takeL (i := 28) (v := .bool true) (listed' := Lm 29 []) (oi := { dst := some 43, op := Op.move (Operand.tmp 42), type := 4, pos := "law.go:20", after := #[{ on := 27, ground := Ground.data }, { on := 25, ground := Ground.chain }], guard := none }) rfl sel5 (by kernel_rfl) (by kernel_rfl) (fun _ _ _ h => h) (Or.inl ⟨by kernel_rfl, ?_⟩) hHeld (by kernel_rfl) ?_
  · intro W hSW; clear hSW hHeld; go_simp
  try simp only [Act.put, List.getElem_toArray, List.getElem_cons_zero, List.getElem_cons_succ, List.setIfInBounds_toArray, List.set_cons_zero, List.set_cons_succ]
  refine takeL (i := 29) (listed' := Lm 30 []) (oi := { dst := some 44, op := Op.load 40 (Operand.tmp 1), type := 40, pos := "law.go:20", after := #[{ on := 28, ground := Ground.guard }], guard := some (28, true) }) rfl sel5 (by kernel_rfl) (by kernel_rfl) (fun _ _ _ h => h) (yl (s := (at_ 0 0)) rfl rfl (by kernel_rfl) (fun _ h => h.e)) hHeld (by kernel_rfl) ?_
  try simp only [Act.put, List.getElem_toArray, List.getElem_cons_zero, List.getElem_cons_succ, List.setIfInBounds_toArray, List.set_cons_zero, List.set_cons_succ]
  refine wpAnyH_ready (rs := [30]) (by kernel_rfl) (by simp) ?_
  refine AllReadyH.cons (o := { dst := some 45, op := Op.buildSlice 22 1 #[(0, Operand.tmp 44)], type := 22, pos := "law.go:20", after := #[{ on := 29, ground := Ground.data }, { on := 28, ground := Ground.guard }], guard := some (28, true) }) rfl (fun K hK => ?_) AllReadyH.nil
  go_simp
  obtain ⟨W9, hW, kW, s9⟩ := lit10 W8 [at_ 0 0] 1 rfl
  rw [show W8.alloc (.cells #[.int .i64 0, .int .i64 0, .int .i64 0, .int .i64 0, .int .u64 0, .int .i64 0, .slice none 0 0, .int .i64 0, .int .i64 0, .bool false] 40) = W9 from hW.symm]
  obtain ⟨q9, hq⟩ : ∃ q, q = W8.heap.size := ⟨_, rfl⟩
  rw [← hq] at s9 ⊢
  clear hW hq
  replace hHeld := hHeld.next kW
  refine hK.out _ _ hHeld (fun _ => ?_)
  clear hK K
  refine relist (by kernel_rfl : _ = Lm 31 []) ?_
  try simp only [Act.put, List.getElem_toArray, List.getElem_cons_zero, List.getElem_cons_succ, List.setIfInBounds_toArray, List.set_cons_zero, List.set_cons_succ]
  refine wpAnyH_ready (rs := [31]) (by kernel_rfl) (by simp) ?_
  refine AllReadyH.cons (o := { dst := some 46, op := Op.call { callee := Callee.value (Operand.func 11), args := #[Operand.const (Value.int IntKind.i64 9), Operand.tmp 45], argTypes := #[3, 22] }, type := 3, pos := "law.go:20", after := #[{ on := 30, ground := Ground.data }, { on := 28, ground := Ground.chain }, { on := 28, ground := Ground.guard }], guard := some (28, true) }) rfl (fun K hK => ?_) AllReadyH.nil
  go_simp
  refine (ofirst_no 9 _ [at_ 0 0] _ (.inr (by decide)) s9 (fun s hs => (nil_all _ _ (by repeat (first | exact trivial | refine ⟨⟨rfl, rfl⟩, ?_⟩)) s hs).1) (by decide) 0 rfl).mono ?_
  rintro e W10 ⟨rfl, kW⟩
  replace hHeld := hHeld.next kW
  refine hK.out _ _ hHeld (fun _ => ?_)
  clear hK K
  refine relist (by kernel_rfl : _ = Lm 32 []) ?_
  try simp only [Act.put, List.getElem_toArray, List.getElem_cons_zero, List.getElem_cons_succ, List.setIfInBounds_toArray, List.set_cons_zero, List.set_cons_succ]
  clear s9 kW
  refine takeL (i := 32) (v := .bool true) (listed' := Lm 33 []) (oi := { dst := some 47, op := Op.binOp BinOp.eql 3 (Operand.tmp 46) (Operand.const (Value.int IntKind.i64 0)) 3, type := 4, pos := "law.go:20", after := #[{ on := 31, ground := Ground.data }, { on := 28, ground := Ground.guard }], guard := some (28, true) }) rfl sel5 (by kernel_rfl) (by kernel_rfl) (fun _ _ _ h => h) (Or.inl ⟨by kernel_rfl, ?_⟩) hHeld (by kernel_rfl) ?_
  · intro W hSW; clear hSW hHeld; go_simp
  try simp only [Act.put, List.getElem_toArray, List.getElem_cons_zero, List.getElem_cons_succ, List.setIfInBounds_toArray, List.set_cons_zero, List.set_cons_succ]
  refine takeL (i := 33) (v := .bool true) (listed' := Lm 34 []) (oi := { dst := some 48, op := Op.pick (Operand.tmp 43) (Operand.tmp 47) (Operand.const (Value.bool false)), type := 4, pos := "law.go:20", after := #[{ on := 28, ground := Ground.data }, { on := 32, ground := Ground.data }], guard := none }) rfl sel5 (by kernel_rfl) (by kernel_rfl) (fun _ _ _ h => h) (Or.inl ⟨by kernel_rfl, ?_⟩) hHeld (by kernel_rfl) ?_
  · intro W hSW; clear hSW hHeld; go_simp
  try simp only [Act.put, List.getElem_toArray, List.getElem_cons_zero, List.getElem_cons_succ, List.setIfInBounds_toArray, List.set_cons_zero, List.set_cons_succ]
  refine takeL (i := 34) (v := .bool true) (listed' := Lm 35 []) (oi := { dst := some 49, op := Op.move (Operand.tmp 48), type := 4, pos := "law.go:20", after := #[{ on := 33, ground := Ground.data }, { on := 31, ground := Ground.chain }], guard := none }) rfl sel5 (by kernel_rfl) (by kernel_rfl) (fun _ _ _ h => h) (Or.inl ⟨by kernel_rfl, ?_⟩) hHeld (by kernel_rfl) ?_
  · intro W hSW; clear hSW hHeld; go_simp
  try simp only [Act.put, List.getElem_toArray, List.getElem_cons_zero, List.getElem_cons_succ, List.setIfInBounds_toArray, List.set_cons_zero, List.set_cons_succ]
  refine wpAnyH_ready (rs := [35]) (by kernel_rfl) (by simp) ?_
  refine AllReadyH.cons (o := { dst := some 50, op := Op.call { callee := Callee.value (Operand.func 11), args := #[Operand.const (Value.int IntKind.i64 0), Operand.const (Value.slice none 0 0)], argTypes := #[3, 22] }, type := 3, pos := "law.go:20", after := #[{ on := 34, ground := Ground.chain }, { on := 34, ground := Ground.guard }], guard := some (34, true) }) rfl (fun K hK => ?_) AllReadyH.nil
  go_simp
  refine (ofirst_no 0 _ [] _ (.inl (by decide)) (srcNil10 _) (fun s hs => by cases hs) (by decide) (-1) rfl).mono ?_
  rintro e W11 ⟨rfl, kW⟩
  replace hHeld := hHeld.next kW
  refine hK.out _ _ hHeld (fun _ => ?_)
  clear hK K
  refine relist (by kernel_rfl : _ = Lm 36 []) ?_
  try simp only [Act.put, List.getElem_toArray, List.getElem_cons_zero, List.getElem_cons_succ, List.setIfInBounds_toArray, List.set_cons_zero, List.set_cons_succ]
  clear kW
  refine takeL (i := 36) (v := .bool true) (listed' := Lm 37 []) (oi := { dst := some 51, op := Op.binOp BinOp.eql 3 (Operand.tmp 50) (Operand.const (Value.int IntKind.i64 (-1))) 3, type := 4, pos := "law.go:20", after := #[{ on := 35, ground := Ground.data }, { on := 34, ground := Ground.guard }], guard := some (34, true) }) rfl sel5 (by kernel_rfl) (by kernel_rfl) (fun _ _ _ h => h) (Or.inl ⟨by kernel_rfl, ?_⟩) hHeld (by kernel_rfl) ?_
  · intro W hSW; clear hSW hHeld; go_simp
  try simp only [Act.put, List.getElem_toArray, List.getElem_cons_zero, List.getElem_cons_succ, List.setIfInBounds_toArray, List.set_cons_zero, List.set_cons_succ]
  refine takeL (i := 37) (v := .bool true) (listed' := Lm 38 []) (oi := { dst := some 52, op := Op.pick (Operand.tmp 49) (Operand.tmp 51) (Operand.const (Value.bool false)), type := 4, pos := "law.go:20", after := #[{ on := 34, ground := Ground.data }, { on := 36, ground := Ground.data }], guard := none }) rfl sel5 (by kernel_rfl) (by kernel_rfl) (fun _ _ _ h => h) (Or.inl ⟨by kernel_rfl, ?_⟩) hHeld (by kernel_rfl) ?_
  · intro W hSW; clear hSW hHeld; go_simp
  try simp only [Act.put, List.getElem_toArray, List.getElem_cons_zero, List.getElem_cons_succ, List.setIfInBounds_toArray, List.set_cons_zero, List.set_cons_succ]
  refine takeL (i := 38) (v := .bool true) (listed' := Lm 39 []) (oi := { dst := some 53, op := Op.move (Operand.tmp 52), type := 4, pos := "law.go:20", after := #[{ on := 37, ground := Ground.data }, { on := 35, ground := Ground.chain }], guard := none }) rfl sel5 (by kernel_rfl) (by kernel_rfl) (fun _ _ _ h => h) (Or.inl ⟨by kernel_rfl, ?_⟩) hHeld (by kernel_rfl) ?_
  · intro W hSW; clear hSW hHeld; go_simp
  try simp only [Act.put, List.getElem_toArray, List.getElem_cons_zero, List.getElem_cons_succ, List.setIfInBounds_toArray, List.set_cons_zero, List.set_cons_succ]
  refine takeL (i := 39) (listed' := Lm 40 []) (oi := { dst := some 54, op := Op.load 40 (Operand.tmp 1), type := 40, pos := "law.go:20", after := #[{ on := 38, ground := Ground.guard }], guard := some (38, true) }) rfl sel5 (by kernel_rfl) (by kernel_rfl) (fun _ _ _ h => h) (yl (s := (at_ 0 0)) rfl rfl (by kernel_rfl) (fun _ h => h.e)) hHeld (by kernel_rfl) ?_
  try simp only [Act.put, List.getElem_toArray, List.getElem_cons_zero, List.getElem_cons_succ, List.setIfInBounds_toArray, List.set_cons_zero, List.set_cons_succ]
  refine takeL (i := 40) (listed' := Lm 41 []) (oi := { dst := some 55, op := Op.load 40 (Operand.tmp 4), type := 40, pos := "law.go:20", after := #[{ on := 38, ground := Ground.guard }], guard := some (38, true) }) rfl sel5 (by kernel_rfl) (by kernel_rfl) (fun _ _ _ h => h) (yl (s := (at_ 0 1)) rfl rfl (by kernel_rfl) (fun _ h => h.g)) hHeld (by kernel_rfl) ?_
  try simp only [Act.put, List.getElem_toArray, List.getElem_cons_zero, List.getElem_cons_succ, List.setIfInBounds_toArray, List.set_cons_zero, List.set_cons_succ]
  refine takeL (i := 41) (listed' := Lm 42 []) (oi := { dst := some 56, op := Op.load 40 (Operand.tmp 2), type := 40, pos := "law.go:20", after := #[{ on := 38, ground := Ground.guard }], guard := some (38, true) }) rfl sel5 (by kernel_rfl) (by kernel_rfl) (fun _ _ _ h => h) (yl (s := (at_ 1 0)) rfl rfl (by kernel_rfl) (fun _ h => h.d)) hHeld (by kernel_rfl) ?_
  try simp only [Act.put, List.getElem_toArray, List.getElem_cons_zero, List.getElem_cons_succ, List.setIfInBounds_toArray, List.set_cons_zero, List.set_cons_succ]
  refine wpAnyH_ready (rs := [42, 44]) (by kernel_rfl) (by simp) ?_
  refine AllReadyH.cons (o := { dst := some 57, op := Op.buildSlice 22 3 #[(0, Operand.tmp 54), (1, Operand.tmp 55), (2, Operand.tmp 56)], type := 22, pos := "law.go:20", after := #[{ on := 39, ground := Ground.data }, { on := 40, ground := Ground.data }, { on := 41, ground := Ground.data }, { on := 38, ground := Ground.guard }], guard := some (38, true) }) rfl (fun K hK => ?_) (AllReadyH.cons (o := { dst := some 59, op := Op.buildSlice 26 2 #[(0, Operand.const (Value.int IntKind.i64 0)), (1, Operand.const (Value.int IntKind.i64 1))], type := 26, pos := "law.go:20", after := #[{ on := 38, ground := Ground.guard }], guard := some (38, true) }) rfl (fun K hK => ?_) AllReadyH.nil)
  · skip
    go_simp
    obtain ⟨W12, hW, kW, s12⟩ := lit10 W11 [at_ 0 0, at_ 0 1, at_ 1 0] 3 rfl
    rw [show W11.alloc (.cells #[.int .i64 0, .int .i64 0, .int .i64 0, .int .i64 0, .int .u64 0, .int .i64 0, .slice none 0 0, .int .i64 0, .int .i64 0, .bool false, .int .i64 0, .int .i64 1, .int .i64 1, .int .i64 0, .int .u64 0, .int .i64 0, .slice none 0 0, .int .i64 0, .int .i64 0, .bool false, .int .i64 1, .int .i64 0, .int .i64 0, .int .i64 0, .int .u64 0, .int .i64 0, .slice none 0 0, .int .i64 0, .int .i64 0, .bool false] 40) = W12 from hW.symm]
    obtain ⟨q12, hq⟩ : ∃ q, q = W11.heap.size := ⟨_, rfl⟩
    rw [← hq] at s12 ⊢
    clear hW hq
    replace hHeld := hHeld.next kW
    refine hK.out _ _ hHeld (fun _ => ?_)
    clear hK K
    refine relist (by kernel_rfl : _ = Lm 43 []) ?_
    try simp only [Act.put, List.getElem_toArray, List.getElem_cons_zero, List.getElem_cons_succ, List.setIfInBounds_toArray, List.set_cons_zero, List.set_cons_succ]
    clear kW
    refine wpAnyH_ready (rs := [43, 44]) (by kernel_rfl) (by simp) ?_
    refine AllReadyH.cons (o := { dst := some 58, op := Op.call { callee := Callee.value (Operand.func 14), args := #[Operand.const (Value.int IntKind.i64 2), Operand.tmp 57], argTypes := #[3, 22] }, type := 26, pos := "law.go:20", after := #[{ on := 42, ground := Ground.data }, { on := 38, ground := Ground.chain }, { on := 38, ground := Ground.guard }], guard := some (38, true) }) rfl (fun K hK => ?_) (AllReadyH.cons (o := { dst := some 59, op := Op.buildSlice 26 2 #[(0, Operand.const (Value.int IntKind.i64 0)), (1, Operand.const (Value.int IntKind.i64 1))], type := 26, pos := "law.go:20", after := #[{ on := 38, ground := Ground.guard }], guard := some (38, true) }) rfl (fun K hK => ?_) AllReadyH.nil)
    · skip
      go_simp
      refine (oline_any 2 _ [at_ 0 0, at_ 0 1, at_ 1 0] _ (by decide) (by decide) s12 (nil_all _ _ (by repeat (first | exact trivial | refine ⟨⟨rfl, rfl⟩, ?_⟩))) (by decide) _ [⟨0, 0, true, ⟨0, 0, 0, []⟩, .slice none 0 0, 0⟩, ⟨1, 1, false, ⟨0, 0, 0, []⟩, .slice none 0 0, 0⟩] _ (show _ = (-1, _, _) from rfl)).mono ?_
      rintro e W13 ⟨v13, rfl, ho, kW⟩
      replace hHeld := hHeld.next kW
      refine hK.out _ _ hHeld (fun _ => ?_)
      clear hK K
      refine relist (by kernel_rfl : _ = Lm 44 []) ?_
      try simp only [Act.put, List.getElem_toArray, List.getElem_cons_zero, List.getElem_cons_succ, List.setIfInBounds_toArray, List.set_cons_zero, List.set_cons_succ]
      have t13 := Src.of_own ho
      clear s12 ho kW
      refine wpAnyH_ready (rs := [44]) (by kernel_rfl) (by simp) ?_
      refine AllReadyH.cons (o := { dst := some 59, op := Op.buildSlice 26 2 #[(0, Operand.const (Value.int IntKind.i64 0)), (1, Operand.const (Value.int IntKind.i64 1))], type := 26, pos := "law.go:20", after := #[{ on := 38, ground := Ground.guard }], guard := some (38, true) }) rfl (fun K hK => ?_) AllReadyH.nil
      go_simp
      obtain ⟨W14, hW, kW, s14⟩ := litI W13 [0, 1] 2 rfl
      rw [show W13.alloc (.cells #[.int .i64 0, .int .i64 1] 3) = W14 from hW.symm]
      obtain ⟨q14, hq⟩ : ∃ q, q = W13.heap.size := ⟨_, rfl⟩
      rw [← hq] at s14 ⊢
      clear hW hq
      replace hHeld := hHeld.next kW
      refine hK.out _ _ hHeld (fun _ => ?_)
      clear hK K
      refine relist (by kernel_rfl : _ = Lm 45 []) ?_
      try simp only [Act.put, List.getElem_toArray, List.getElem_cons_zero, List.getElem_cons_succ, List.setIfInBounds_toArray, List.set_cons_zero, List.set_cons_succ]
      replace t13 := t13.same kW
      clear kW
      refine wpAnyH_ready (rs := [45]) (by kernel_rfl) (by simp) ?_
      refine AllReadyH.cons (o := { dst := some 60, op := Op.call { callee := Callee.value (Operand.func 13), args := #[Operand.tmp 58, Operand.tmp 59], argTypes := #[26, 26] }, type := 4, pos := "law.go:20", after := #[{ on := 43, ground := Ground.data }, { on := 44, ground := Ground.data }, { on := 43, ground := Ground.chain }, { on := 38, ground := Ground.guard }], guard := some (38, true) }) rfl (fun K hK => ?_) AllReadyH.nil
      go_simp
      refine (nums_any _ _ 2 2 [0, 1] [0, 1] _ t13 s14 (by decide) (by decide)).mono ?_
      rintro e W15 ⟨rfl, kW⟩
      replace hHeld := hHeld.next kW
      refine hK.out _ _ hHeld (fun _ => ?_)
      clear hK K
      refine relist (by kernel_rfl : _ = Lm 46 []) ?_
      try simp only [Act.put, List.getElem_toArray, List.getElem_cons_zero, List.getElem_cons_succ, List.setIfInBounds_toArray, List.set_cons_zero, List.set_cons_succ]
      clear t13 s14 kW
      refine takeL (i := 46) (v := .bool true) (listed' := Lm 47 []) (oi := { dst := some 61, op := Op.pick (Operand.tmp 53) (Operand.tmp 60) (Operand.const (Value.bool false)), type := 4, pos := "law.go:20", after := #[{ on := 38, ground := Ground.data }, { on := 45, ground := Ground.data }], guard := none }) rfl sel5 (by kernel_rfl) (by kernel_rfl) (fun _ _ _ h => h) (Or.inl ⟨by kernel_rfl, ?_⟩) hHeld (by kernel_rfl) ?_
      · intro W hSW; clear hSW hHeld; go_simp
      try simp only [Act.put, List.getElem_toArray, List.getElem_cons_zero, List.getElem_cons_succ, List.setIfInBounds_toArray, List.set_cons_zero, List.set_cons_succ]
      refine takeL (i := 47) (v := .bool true) (listed' := Lm 48 []) (oi := { dst := some 62, op := Op.move (Operand.tmp 61), type := 4, pos := "law.go:20", after := #[{ on := 46, ground := Ground.data }, { on := 45, ground := Ground.chain }], guard := none }) rfl sel5 (by kernel_rfl) (by kernel_rfl) (fun _ _ _ h => h) (Or.inl ⟨by kernel_rfl, ?_⟩) hHeld (by kernel_rfl) ?_
      · intro W hSW; clear hSW hHeld; go_simp
      try simp only [Act.put, List.getElem_toArray, List.getElem_cons_zero, List.getElem_cons_succ, List.setIfInBounds_toArray, List.set_cons_zero, List.set_cons_succ]
      refine takeL (i := 48) (listed' := Lm 49 []) (oi := { dst := some 63, op := Op.load 40 (Operand.tmp 5), type := 40, pos := "law.go:20", after := #[{ on := 47, ground := Ground.guard }], guard := some (47, true) }) rfl sel5 (by kernel_rfl) (by kernel_rfl) (fun _ _ _ h => h) (yl (s := (at_ 1 1)) rfl rfl (by kernel_rfl) (fun _ h => h.h)) hHeld (by kernel_rfl) ?_
      try simp only [Act.put, List.getElem_toArray, List.getElem_cons_zero, List.getElem_cons_succ, List.setIfInBounds_toArray, List.set_cons_zero, List.set_cons_succ]
      refine takeL (i := 49) (listed' := Lm 50 []) (oi := { dst := some 64, op := Op.load 40 (Operand.tmp 2), type := 40, pos := "law.go:20", after := #[{ on := 47, ground := Ground.guard }], guard := some (47, true) }) rfl sel5 (by kernel_rfl) (by kernel_rfl) (fun _ _ _ h => h) (yl (s := (at_ 1 0)) rfl rfl (by kernel_rfl) (fun _ h => h.d)) hHeld (by kernel_rfl) ?_
      try simp only [Act.put, List.getElem_toArray, List.getElem_cons_zero, List.getElem_cons_succ, List.setIfInBounds_toArray, List.set_cons_zero, List.set_cons_succ]
      refine takeL (i := 50) (listed' := Lm 51 []) (oi := { dst := some 65, op := Op.load 40 (Operand.tmp 1), type := 40, pos := "law.go:20", after := #[{ on := 47, ground := Ground.guard }], guard := some (47, true) }) rfl sel5 (by kernel_rfl) (by kernel_rfl) (fun _ _ _ h => h) (yl (s := (at_ 0 0)) rfl rfl (by kernel_rfl) (fun _ h => h.e)) hHeld (by kernel_rfl) ?_
      try simp only [Act.put, List.getElem_toArray, List.getElem_cons_zero, List.getElem_cons_succ, List.setIfInBounds_toArray, List.set_cons_zero, List.set_cons_succ]
      refine wpAnyH_ready (rs := [51, 53]) (by kernel_rfl) (by simp) ?_
      refine AllReadyH.cons (o := { dst := some 66, op := Op.buildSlice 22 3 #[(0, Operand.tmp 63), (1, Operand.tmp 64), (2, Operand.tmp 65)], type := 22, pos := "law.go:20", after := #[{ on := 48, ground := Ground.data }, { on := 49, ground := Ground.data }, { on := 50, ground := Ground.data }, { on := 47, ground := Ground.guard }], guard := some (47, true) }) rfl (fun K hK => ?_) (AllReadyH.cons (o := { dst := some 68, op := Op.buildSlice 26 2 #[(0, Operand.const (Value.int IntKind.i64 1)), (1, Operand.const (Value.int IntKind.i64 0))], type := 26, pos := "law.go:20", after := #[{ on := 47, ground := Ground.guard }], guard := some (47, true) }) rfl (fun K hK => ?_) AllReadyH.nil)
      · skip
        go_simp
        obtain ⟨W16, hW, kW, s16⟩ := lit10 W15 [at_ 1 1, at_ 1 0, at_ 0 0] 3 rfl
        rw [show W15.alloc (.cells #[.int .i64 1, .int .i64 1, .int .i64 1, .int .i64 0, .int .u64 0, .int .i64 0, .slice none 0 0, .int .i64 0, .int .i64 0, .bool false, .int .i64 1, .int .i64 0, .int .i64 0, .int .i64 0, .int .u64 0, .int .i64 0, .slice none 0 0, .int .i64 0, .int .i64 0, .bool false, .int .i64 0, .int .i64 0, .int .i64 0, .int .i64 0, .int .u64 0, .int .i64 0, .slice none 0 0, .int .i64 0, .int .i64 0, .bool false] 40) = W16 from hW.symm]
        obtain ⟨q16, hq⟩ : ∃ q, q = W15.heap.size := ⟨_, rfl⟩
        rw [← hq] at s16 ⊢
        clear hW hq
        replace hHeld := hHeld.next kW
        refine hK.out _ _ hHeld (fun _ => ?_)
        clear hK K
        refine relist (by kernel_rfl : _ = Lm 52 []) ?_
        try simp only [Act.put, List.getElem_toArray, List.getElem_cons_zero, List.getElem_cons_succ, List.setIfInBounds_toArray, List.set_cons_zero, List.set_cons_succ]
        clear kW
        refine wpAnyH_ready (rs := [52, 53]) (by kernel_rfl) (by simp) ?_
        refine AllReadyH.cons (o := { dst := some 67, op := Op.call { callee := Callee.value (Operand.func 16), args := #[Operand.tmp 66], argTypes := #[22] }, type := 26, pos := "law.go:20", after := #[{ on := 51, ground := Ground.data }, { on := 47, ground := Ground.chain }, { on := 47, ground := Ground.guard }], guard := some (47, true) }) rfl (fun K hK => ?_) (AllReadyH.cons (o := { dst := some 68, op := Op.buildSlice 26 2 #[(0, Operand.const (Value.int IntKind.i64 1)), (1, Operand.const (Value.int IntKind.i64 0))], type := 26, pos := "law.go:20", after := #[{ on := 47, ground := Ground.guard }], guard := some (47, true) }) rfl (fun K hK => ?_) AllReadyH.nil)
        · skip
          go_simp
          refine (ocalls_any _ [at_ 1 1, at_ 1 0, at_ 0 0] _ s16 (fun s hs => (nil_all _ _ (by repeat (first | exact trivial | refine ⟨⟨rfl, rfl⟩, ?_⟩)) s hs).1) (by decide)).mono ?_
          rintro e W17 ⟨v17, rfl, ho, kW⟩
          replace hHeld := hHeld.next kW
          refine hK.out _ _ hHeld (fun _ => ?_)
          clear hK K
          refine relist (by kernel_rfl : _ = Lm 53 []) ?_
          try simp only [Act.put, List.getElem_toArray, List.getElem_cons_zero, List.getElem_cons_succ, List.setIfInBounds_toArray, List.set_cons_zero, List.set_cons_succ]
          have t17 := Src.of_own ho
          clear s16 ho kW
          refine wpAnyH_ready (rs := [53]) (by kernel_rfl) (by simp) ?_
          refine AllReadyH.cons (o := { dst := some 68, op := Op.buildSlice 26 2 #[(0, Operand.const (Value.int IntKind.i64 1)), (1, Operand.const (Value.int IntKind.i64 0))], type := 26, pos := "law.go:20", after := #[{ on := 47, ground := Ground.guard }], guard := some (47, true) }) rfl (fun K hK => ?_) AllReadyH.nil
          go_simp
          obtain ⟨W18, hW, kW, s18⟩ := litI W17 [1, 0] 2 rfl
          rw [show W17.alloc (.cells #[.int .i64 1, .int .i64 0] 3) = W18 from hW.symm]
          obtain ⟨q18, hq⟩ : ∃ q, q = W17.heap.size := ⟨_, rfl⟩
          rw [← hq] at s18 ⊢
          clear hW hq
          replace hHeld := hHeld.next kW
          refine hK.out _ _ hHeld (fun _ => ?_)
          clear hK K
          refine relist (by kernel_rfl : _ = Lm 54 []) ?_
          try simp only [Act.put, List.getElem_toArray, List.getElem_cons_zero, List.getElem_cons_succ, List.setIfInBounds_toArray, List.set_cons_zero, List.set_cons_succ]
          replace t17 := t17.same kW
          clear kW
          refine wpAnyH_ready (rs := [54]) (by kernel_rfl) (by simp) ?_
          refine AllReadyH.cons (o := { dst := some 69, op := Op.call { callee := Callee.value (Operand.func 13), args := #[Operand.tmp 67, Operand.tmp 68], argTypes := #[26, 26] }, type := 4, pos := "law.go:20", after := #[{ on := 52, ground := Ground.data }, { on := 53, ground := Ground.data }, { on := 52, ground := Ground.chain }, { on := 47, ground := Ground.guard }], guard := some (47, true) }) rfl (fun K hK => ?_) AllReadyH.nil
          go_simp
          refine (nums_any _ _ 2 2 [1, 0] [1, 0] _ t17 s18 (by decide) (by decide)).mono ?_
          rintro e W19 ⟨rfl, kW⟩
          replace hHeld := hHeld.next kW
          refine hK.out _ _ hHeld (fun _ => ?_)
          clear hK K
          refine relist (by kernel_rfl : _ = Lm 55 []) ?_
          try simp only [Act.put, List.getElem_toArray, List.getElem_cons_zero, List.getElem_cons_succ, List.setIfInBounds_toArray, List.set_cons_zero, List.set_cons_succ]
          clear t17 s18 kW
          refine takeL (i := 55) (v := .bool true) (listed' := Lm 56 []) (oi := { dst := some 70, op := Op.pick (Operand.tmp 62) (Operand.tmp 69) (Operand.const (Value.bool false)), type := 4, pos := "law.go:20", after := #[{ on := 47, ground := Ground.data }, { on := 54, ground := Ground.data }], guard := none }) rfl sel5 (by kernel_rfl) (by kernel_rfl) (fun _ _ _ h => h) (Or.inl ⟨by kernel_rfl, ?_⟩) hHeld (by kernel_rfl) ?_
          · intro W hSW; clear hSW hHeld; go_simp
          try simp only [Act.put, List.getElem_toArray, List.getElem_cons_zero, List.getElem_cons_succ, List.setIfInBounds_toArray, List.set_cons_zero, List.set_cons_succ]
          refine takeL (i := 56) (v := .bool true) (listed' := Lm 57 []) (oi := { dst := some 71, op := Op.move (Operand.tmp 70), type := 4, pos := "law.go:20", after := #[{ on := 55, ground := Ground.data }, { on := 54, ground := Ground.chain }], guard := none }) rfl sel5 (by kernel_rfl) (by kernel_rfl) (fun _ _ _ h => h) (Or.inl ⟨by kernel_rfl, ?_⟩) hHeld (by kernel_rfl) ?_
          · intro W hSW; clear hSW hHeld; go_simp
          try simp only [Act.put, List.getElem_toArray, List.getElem_cons_zero, List.getElem_cons_succ, List.setIfInBounds_toArray, List.set_cons_zero, List.set_cons_succ]
          refine fixed_tail hHeld _ _ _ _ _ _ _ _ _ _ _ _ _ _ _ _ _ _ _ _ _ _ _ _ _ _ _ _ _ _ _ _ _ _ _ _ _ _ _ _ _ _ _ _ _ _ _ _ _ _ _ _ _ _ _ _ _ _ _ _ _ _ _ _ _ _ _ _ _ _ _ _ _ _ (fun _ _ _ _ _ h => h) (fun _ _ _ _ _ _ _ _ _ _ _ _ _ _ _ _ _ _ _ _ _ _ _ _ _ _ _ _ _ _ _ _ _ _ _ _ _ _ _ _ _ _ _ _ _ _ _ _ _ _ _ _ _ _ _ _ _ _ _ _ _ _ _ _ _ _ _ _ _ _ _ _ _ _ _ W h => ?_)
          go_wp2_with fail
          go_ret
          exact ⟨rfl, h.new⟩
        · skip
          go_simp
          obtain ⟨W20, hW, kW, s20⟩ := litI W16 [1, 0] 2 rfl
          rw [show W16.alloc (.cells #[.int .i64 1, .int .i64 0] 3) = W20 from hW.symm]
          obtain ⟨q20, hq⟩ : ∃ q, q = W16.heap.size := ⟨_, rfl⟩
          rw [← hq] at s20 ⊢
          clear hW hq
          replace hHeld := hHeld.next kW
          refine hK.out _ _ hHeld (fun _ => ?_)
          clear hK K
          refine relist (by kernel_rfl : _ = Lm 52 [53]) ?_
          try simp only [Act.put, List.getElem_toArray, List.getElem_cons_zero, List.getElem_cons_succ, List.setIfInBounds_toArray, List.set_cons_zero, List.set_cons_succ]
          replace s16 := s16.same kW
          clear kW
          refine wpAnyH_ready (rs := [52]) (by kernel_rfl) (by simp) ?_
          refine AllReadyH.cons (o := { dst := some 67, op := Op.call { callee := Callee.value (Operand.func 16), args := #[Operand.tmp 66], argTypes := #[22] }, type := 26, pos := "law.go:20", after := #[{ on := 51, ground := Ground.data }, { on := 47, ground := Ground.chain }, { on := 47, ground := Ground.guard }], guard := some (47, true) }) rfl (fun K hK => ?_) AllReadyH.nil
          go_simp
          refine (ocalls_any _ [at_ 1 1, at_ 1 0, at_ 0 0] _ s16 (fun s hs => (nil_all _ _ (by repeat (first | exact trivial | refine ⟨⟨rfl, rfl⟩, ?_⟩)) s hs).1) (by decide)).mono ?_
          rintro e W21 ⟨v21, rfl, ho, kW⟩
          replace hHeld := hHeld.next kW
          refine hK.out _ _ hHeld (fun _ => ?_)
          clear hK K
          refine relist (by kernel_rfl : _ = Lm 54 []) ?_
          try simp only [Act.put, List.getElem_toArray, List.getElem_cons_zero, List.getElem_cons_succ, List.setIfInBounds_toArray, List.set_cons_zero, List.set_cons_succ]
          have t21 := Src.of_own ho
          replace s20 := s20.same kW
          clear s16 ho kW
          refine wpAnyH_ready (rs := [54]) (by kernel_rfl) (by simp) ?_
          refine AllReadyH.cons (o := { dst := some 69, op := Op.call { callee := Callee.value (Operand.func 13), args := #[Operand.tmp 67, Operand.tmp 68], argTypes := #[26, 26] }, type := 4, pos := "law.go:20", after := #[{ on := 52, ground := Ground.data }, { on := 53, ground := Ground.data }, { on := 52, ground := Ground.chain }, { on := 47, ground := Ground.guard }], guard := some (47, true) }) rfl (fun K hK => ?_) AllReadyH.nil
          go_simp
          refine (nums_any _ _ 2 2 [1, 0] [1, 0] _ t21 s20 (by decide) (by decide)).mono ?_
          rintro e W22 ⟨rfl, kW⟩
          replace hHeld := hHeld.next kW
          refine hK.out _ _ hHeld (fun _ => ?_)
          clear hK K
          refine relist (by kernel_rfl : _ = Lm 55 []) ?_
          try simp only [Act.put, List.getElem_toArray, List.getElem_cons_zero, List.getElem_cons_succ, List.setIfInBounds_toArray, List.set_cons_zero, List.set_cons_succ]
          clear t21 s20 kW
          refine takeL (i := 55) (v := .bool true) (listed' := Lm 56 []) (oi := { dst := some 70, op := Op.pick (Operand.tmp 62) (Operand.tmp 69) (Operand.const (Value.bool false)), type := 4, pos := "law.go:20", after := #[{ on := 47, ground := Ground.data }, { on := 54, ground := Ground.data }], guard := none }) rfl sel5 (by kernel_rfl) (by kernel_rfl) (fun _ _ _ h => h) (Or.inl ⟨by kernel_rfl, ?_⟩) hHeld (by kernel_rfl) ?_
          · intro W hSW; clear hSW hHeld; go_simp
          try simp only [Act.put, List.getElem_toArray, List.getElem_cons_zero, List.getElem_cons_succ, List.setIfInBounds_toArray, List.set_cons_zero, List.set_cons_succ]
          refine takeL (i := 56) (v := .bool true) (listed' := Lm 57 []) (oi := { dst := some 71, op := Op.move (Operand.tmp 70), type := 4, pos := "law.go:20", after := #[{ on := 55, ground := Ground.data }, { on := 54, ground := Ground.chain }], guard := none }) rfl sel5 (by kernel_rfl) (by kernel_rfl) (fun _ _ _ h => h) (Or.inl ⟨by kernel_rfl, ?_⟩) hHeld (by kernel_rfl) ?_
          · intro W hSW; clear hSW hHeld; go_simp
          try simp only [Act.put, List.getElem_toArray, List.getElem_cons_zero, List.getElem_cons_succ, List.setIfInBounds_toArray, List.set_cons_zero, List.set_cons_succ]
          refine fixed_tail hHeld _ _ _ _ _ _ _ _ _ _ _ _ _ _ _ _ _ _ _ _ _ _ _ _ _ _ _ _ _ _ _ _ _ _ _ _ _ _ _ _ _ _ _ _ _ _ _ _ _ _ _ _ _ _ _ _ _ _ _ _ _ _ _ _ _ _ _ _ _ _ _ _ _ _ (fun _ _ _ _ _ h => h) (fun _ _ _ _ _ _ _ _ _ _ _ _ _ _ _ _ _ _ _ _ _ _ _ _ _ _ _ _ _ _ _ _ _ _ _ _ _ _ _ _ _ _ _ _ _ _ _ _ _ _ _ _ _ _ _ _ _ _ _ _ _ _ _ _ _ _ _ _ _ _ _ _ _ _ _ W h => ?_)
          go_wp2_with fail
          go_ret
          exact ⟨rfl, h.new⟩
      · skip
        go_simp
        obtain ⟨W23, hW, kW, s23⟩ := litI W15 [1, 0] 2 rfl
        rw [show W15.alloc (.cells #[.int .i64 1, .int .i64 0] 3) = W23 from hW.symm]
        obtain ⟨q23, hq⟩ : ∃ q, q = W15.heap.size := ⟨_, rfl⟩
        rw [← hq] at s23 ⊢
        clear hW hq
        replace hHeld := hHeld.next kW
        refine hK.out _ _ hHeld (fun _ => ?_)
        clear hK K
        refine relist (by kernel_rfl : _ = Lm 51 [53]) ?_
        try simp only [Act.put, List.getElem_toArray, List.getElem_cons_zero, List.getElem_cons_succ, List.setIfInBounds_toArray, List.set_cons_zero, List.set_cons_succ]
        clear kW
        refine wpAnyH_ready (rs := [51]) (by kernel_rfl) (by simp) ?_
        refine AllReadyH.cons (o := { dst := some 66, op := Op.buildSlice 22 3 #[(0, Operand.tmp 63), (1, Operand.tmp 64), (2, Operand.tmp 65)], type := 22, pos := "law.go:20", after := #[{ on := 48, ground := Ground.data }, { on := 49, ground := Ground.data }, { on := 50, ground := Ground.data }, { on := 47, ground := Ground.guard }], guard := some (47, true) }) rfl (fun K hK => ?_) AllReadyH.nil
        go_simp
        obtain ⟨W24, hW, kW, s24⟩ := lit10 W23 [at_ 1 1, at_ 1 0, at_ 0 0] 3 rfl
        rw [show W23.alloc (.cells #[.int .i64 1, .int .i64 1, .int .i64 1, .int .i64 0, .int .u64 0, .int .i64 0, .slice none 0 0, .int .i64 0, .int .i64 0, .bool false, .int .i64 1, .int .i64 0, .int .i64 0, .int .i64 0, .int .u64 0, .int .i64 0, .slice none 0 0, .int .i64 0, .int .i64 0, .bool false, .int .i64 0, .int .i64 0, .int .i64 0, .int .i64 0, .int .u64 0, .int .i64 0, .slice none 0 0, .int .i64 0, .int .i64 0, .bool false] 40) = W24 from hW.symm]
        obtain ⟨q24, hq⟩ : ∃ q, q = W23.heap.size := ⟨_, rfl⟩
        rw [← hq] at s24 ⊢
        clear hW hq
        replace hHeld := hHeld.next kW
        refine hK.out _ _ hHeld (fun _ => ?_)
        clear hK K
        refine relist (by kernel_rfl : _ = Lm 52 [53]) ?_
        try simp only [Act.put, List.getElem_toArray, List.getElem_cons_zero, List.getElem_cons_succ, List.setIfInBounds_toArray, List.set_cons_zero, List.set_cons_succ]
        replace s23 := s23.same kW
        clear kW
        refine wpAnyH_ready (rs := [52]) (by kernel_rfl) (by simp) ?_
        refine AllReadyH.cons (o := { dst := some 67, op := Op.call { callee := Callee.value (Operand.func 16), args := #[Operand.tmp 66], argTypes := #[22] }, type := 26, pos := "law.go:20", after := #[{ on := 51, ground := Ground.data }, { on := 47, ground := Ground.chain }, { on := 47, ground := Ground.guard }], guard := some (47, true) }) rfl (fun K hK => ?_) AllReadyH.nil
        go_simp
        refine (ocalls_any _ [at_ 1 1, at_ 1 0, at_ 0 0] _ s24 (fun s hs => (nil_all _ _ (by repeat (first | exact trivial | refine ⟨⟨rfl, rfl⟩, ?_⟩)) s hs).1) (by decide)).mono ?_
        rintro e W25 ⟨v25, rfl, ho, kW⟩
        replace hHeld := hHeld.next kW
        refine hK.out _ _ hHeld (fun _ => ?_)
        clear hK K
        refine relist (by kernel_rfl : _ = Lm 54 []) ?_
        try simp only [Act.put, List.getElem_toArray, List.getElem_cons_zero, List.getElem_cons_succ, List.setIfInBounds_toArray, List.set_cons_zero, List.set_cons_succ]
        have t25 := Src.of_own ho
        replace s23 := s23.same kW
        clear s24 ho kW
        refine wpAnyH_ready (rs := [54]) (by kernel_rfl) (by simp) ?_
        refine AllReadyH.cons (o := { dst := some 69, op := Op.call { callee := Callee.value (Operand.func 13), args := #[Operand.tmp 67, Operand.tmp 68], argTypes := #[26, 26] }, type := 4, pos := "law.go:20", after := #[{ on := 52, ground := Ground.data }, { on := 53, ground := Ground.data }, { on := 52, ground := Ground.chain }, { on := 47, ground := Ground.guard }], guard := some (47, true) }) rfl (fun K hK => ?_) AllReadyH.nil
        go_simp
        refine (nums_any _ _ 2 2 [1, 0] [1, 0] _ t25 s23 (by decide) (by decide)).mono ?_
        rintro e W26 ⟨rfl, kW⟩
        replace hHeld := hHeld.next kW
        refine hK.out _ _ hHeld (fun _ => ?_)
        clear hK K
        refine relist (by kernel_rfl : _ = Lm 55 []) ?_
        try simp only [Act.put, List.getElem_toArray, List.getElem_cons_zero, List.getElem_cons_succ, List.setIfInBounds_toArray, List.set_cons_zero, List.set_cons_succ]
        clear t25 s23 kW
        refine takeL (i := 55) (v := .bool true) (listed' := Lm 56 []) (oi := { dst := some 70, op := Op.pick (Operand.tmp 62) (Operand.tmp 69) (Operand.const (Value.bool false)), type := 4, pos := "law.go:20", after := #[{ on := 47, ground := Ground.data }, { on := 54, ground := Ground.data }], guard := none }) rfl sel5 (by kernel_rfl) (by kernel_rfl) (fun _ _ _ h => h) (Or.inl ⟨by kernel_rfl, ?_⟩) hHeld (by kernel_rfl) ?_
        · intro W hSW; clear hSW hHeld; go_simp
        try simp only [Act.put, List.getElem_toArray, List.getElem_cons_zero, List.getElem_cons_succ, List.setIfInBounds_toArray, List.set_cons_zero, List.set_cons_succ]
        refine takeL (i := 56) (v := .bool true) (listed' := Lm 57 []) (oi := { dst := some 71, op := Op.move (Operand.tmp 70), type := 4, pos := "law.go:20", after := #[{ on := 55, ground := Ground.data }, { on := 54, ground := Ground.chain }], guard := none }) rfl sel5 (by kernel_rfl) (by kernel_rfl) (fun _ _ _ h => h) (Or.inl ⟨by kernel_rfl, ?_⟩) hHeld (by kernel_rfl) ?_
        · intro W hSW; clear hSW hHeld; go_simp
        try simp only [Act.put, List.getElem_toArray, List.getElem_cons_zero, List.getElem_cons_succ, List.setIfInBounds_toArray, List.set_cons_zero, List.set_cons_succ]
        refine fixed_tail hHeld _ _ _ _ _ _ _ _ _ _ _ _ _ _ _ _ _ _ _ _ _ _ _ _ _ _ _ _ _ _ _ _ _ _ _ _ _ _ _ _ _ _ _ _ _ _ _ _ _ _ _ _ _ _ _ _ _ _ _ _ _ _ _ _ _ _ _ _ _ _ _ _ _ _ (fun _ _ _ _ _ h => h) (fun _ _ _ _ _ _ _ _ _ _ _ _ _ _ _ _ _ _ _ _ _ _ _ _ _ _ _ _ _ _ _ _ _ _ _ _ _ _ _ _ _ _ _ _ _ _ _ _ _ _ _ _ _ _ _ _ _ _ _ _ _ _ _ _ _ _ _ _ _ _ _ _ _ _ _ W h => ?_)
        go_wp2_with fail
        go_ret
        exact ⟨rfl, h.new⟩
    · skip
      go_simp
      obtain ⟨W27, hW, kW, s27⟩ := litI W12 [0, 1] 2 rfl
      rw [show W12.alloc (.cells #[.int .i64 0, .int .i64 1] 3) = W27 from hW.symm]
      obtain ⟨q27, hq⟩ : ∃ q, q = W12.heap.size := ⟨_, rfl⟩
      rw [← hq] at s27 ⊢
      clear hW hq
      replace hHeld := hHeld.next kW
      refine hK.out _ _ hHeld (fun _ => ?_)
      clear hK K
      refine relist (by kernel_rfl : _ = Lm 43 [44]) ?_
      try simp only [Act.put, List.getElem_toArray, List.getElem_cons_zero, List.getElem_cons_succ, List.setIfInBounds_toArray, List.set_cons_zero, List.set_cons_succ]
      replace s12 := s12.same kW
      clear kW
      refine wpAnyH_ready (rs := [43]) (by kernel_rfl) (by simp) ?_
      refine AllReadyH.cons (o := { dst := some 58, op := Op.call { callee := Callee.value (Operand.func 14), args := #[Operand.const (Value.int IntKind.i64 2), Operand.tmp 57], argTypes := #[3, 22] }, type := 26, pos := "law.go:20", after := #[{ on := 42, ground := Ground.data }, { on := 38, ground := Ground.chain }, { on := 38, ground := Ground.guard }], guard := some (38, true) }) rfl (fun K hK => ?_) AllReadyH.nil
      go_simp
      refine (oline_any 2 _ [at_ 0 0, at_ 0 1, at_ 1 0] _ (by decide) (by decide) s12 (nil_all _ _ (by repeat (first | exact trivial | refine ⟨⟨rfl, rfl⟩, ?_⟩))) (by decide) _ [⟨0, 0, true, ⟨0, 0, 0, []⟩, .slice none 0 0, 0⟩, ⟨1, 1, false, ⟨0, 0, 0, []⟩, .slice none 0 0, 0⟩] _ (show _ = (-1, _, _) from rfl)).mono ?_
      rintro e W28 ⟨v28, rfl, ho, kW⟩
      replace hHeld := hHeld.next kW
      refine hK.out _ _ hHeld (fun _ => ?_)
      clear hK K
      refine relist (by kernel_rfl : _ = Lm 45 []) ?_
      try simp only [Act.put, List.getElem_toArray, List.getElem_cons_zero, List.getElem_cons_succ, List.setIfInBounds_toArray, List.set_cons_zero, List.set_cons_succ]
      have t28 := Src.of_own ho
      replace s27 := s27.same kW
      clear s12 ho kW
      refine wpAnyH_ready (rs := [45]) (by kernel_rfl) (by simp) ?_
      refine AllReadyH.cons (o := { dst := some 60, op := Op.call { callee := Callee.value (Operand.func 13), args := #[Operand.tmp 58, Operand.tmp 59], argTypes := #[26, 26] }, type := 4, pos := "law.go:20", after := #[{ on := 43, ground := Ground.data }, { on := 44, ground := Ground.data }, { on := 43, ground := Ground.chain }, { on := 38, ground := Ground.guard }], guard := some (38, true) }) rfl (fun K hK => ?_) AllReadyH.nil
      go_simp
      refine (nums_any _ _ 2 2 [0, 1] [0, 1] _ t28 s27 (by decide) (by decide)).mono ?_
      rintro e W29 ⟨rfl, kW⟩
      replace hHeld := hHeld.next kW
      refine hK.out _ _ hHeld (fun _ => ?_)
      clear hK K
      refine relist (by kernel_rfl : _ = Lm 46 []) ?_
      try simp only [Act.put, List.getElem_toArray, List.getElem_cons_zero, List.getElem_cons_succ, List.setIfInBounds_toArray, List.set_cons_zero, List.set_cons_succ]
      clear t28 s27 kW
      refine takeL (i := 46) (v := .bool true) (listed' := Lm 47 []) (oi := { dst := some 61, op := Op.pick (Operand.tmp 53) (Operand.tmp 60) (Operand.const (Value.bool false)), type := 4, pos := "law.go:20", after := #[{ on := 38, ground := Ground.data }, { on := 45, ground := Ground.data }], guard := none }) rfl sel5 (by kernel_rfl) (by kernel_rfl) (fun _ _ _ h => h) (Or.inl ⟨by kernel_rfl, ?_⟩) hHeld (by kernel_rfl) ?_
      · intro W hSW; clear hSW hHeld; go_simp
      try simp only [Act.put, List.getElem_toArray, List.getElem_cons_zero, List.getElem_cons_succ, List.setIfInBounds_toArray, List.set_cons_zero, List.set_cons_succ]
      refine takeL (i := 47) (v := .bool true) (listed' := Lm 48 []) (oi := { dst := some 62, op := Op.move (Operand.tmp 61), type := 4, pos := "law.go:20", after := #[{ on := 46, ground := Ground.data }, { on := 45, ground := Ground.chain }], guard := none }) rfl sel5 (by kernel_rfl) (by kernel_rfl) (fun _ _ _ h => h) (Or.inl ⟨by kernel_rfl, ?_⟩) hHeld (by kernel_rfl) ?_
      · intro W hSW; clear hSW hHeld; go_simp
      try simp only [Act.put, List.getElem_toArray, List.getElem_cons_zero, List.getElem_cons_succ, List.setIfInBounds_toArray, List.set_cons_zero, List.set_cons_succ]
      refine takeL (i := 48) (listed' := Lm 49 []) (oi := { dst := some 63, op := Op.load 40 (Operand.tmp 5), type := 40, pos := "law.go:20", after := #[{ on := 47, ground := Ground.guard }], guard := some (47, true) }) rfl sel5 (by kernel_rfl) (by kernel_rfl) (fun _ _ _ h => h) (yl (s := (at_ 1 1)) rfl rfl (by kernel_rfl) (fun _ h => h.h)) hHeld (by kernel_rfl) ?_
      try simp only [Act.put, List.getElem_toArray, List.getElem_cons_zero, List.getElem_cons_succ, List.setIfInBounds_toArray, List.set_cons_zero, List.set_cons_succ]
      refine takeL (i := 49) (listed' := Lm 50 []) (oi := { dst := some 64, op := Op.load 40 (Operand.tmp 2), type := 40, pos := "law.go:20", after := #[{ on := 47, ground := Ground.guard }], guard := some (47, true) }) rfl sel5 (by kernel_rfl) (by kernel_rfl) (fun _ _ _ h => h) (yl (s := (at_ 1 0)) rfl rfl (by kernel_rfl) (fun _ h => h.d)) hHeld (by kernel_rfl) ?_
      try simp only [Act.put, List.getElem_toArray, List.getElem_cons_zero, List.getElem_cons_succ, List.setIfInBounds_toArray, List.set_cons_zero, List.set_cons_succ]
      refine takeL (i := 50) (listed' := Lm 51 []) (oi := { dst := some 65, op := Op.load 40 (Operand.tmp 1), type := 40, pos := "law.go:20", after := #[{ on := 47, ground := Ground.guard }], guard := some (47, true) }) rfl sel5 (by kernel_rfl) (by kernel_rfl) (fun _ _ _ h => h) (yl (s := (at_ 0 0)) rfl rfl (by kernel_rfl) (fun _ h => h.e)) hHeld (by kernel_rfl) ?_
      try simp only [Act.put, List.getElem_toArray, List.getElem_cons_zero, List.getElem_cons_succ, List.setIfInBounds_toArray, List.set_cons_zero, List.set_cons_succ]
      refine wpAnyH_ready (rs := [51, 53]) (by kernel_rfl) (by simp) ?_
      refine AllReadyH.cons (o := { dst := some 66, op := Op.buildSlice 22 3 #[(0, Operand.tmp 63), (1, Operand.tmp 64), (2, Operand.tmp 65)], type := 22, pos := "law.go:20", after := #[{ on := 48, ground := Ground.data }, { on := 49, ground := Ground.data }, { on := 50, ground := Ground.data }, { on := 47, ground := Ground.guard }], guard := some (47, true) }) rfl (fun K hK => ?_) (AllReadyH.cons (o := { dst := some 68, op := Op.buildSlice 26 2 #[(0, Operand.const (Value.int IntKind.i64 1)), (1, Operand.const (Value.int IntKind.i64 0))], type := 26, pos := "law.go:20", after := #[{ on := 47, ground := Ground.guard }], guard := some (47, true) }) rfl (fun K hK => ?_) AllReadyH.nil)
      · skip
        go_simp
        obtain ⟨W30, hW, kW, s30⟩ := lit10 W29 [at_ 1 1, at_ 1 0, at_ 0 0] 3 rfl
        rw [show W29.alloc (.cells #[.int .i64 1, .int .i64 1, .int .i64 1, .int .i64 0, .int .u64 0, .int .i64 0, .slice none 0 0, .int .i64 0, .int .i64 0, .bool false, .int .i64 1, .int .i64 0, .int .i64 0, .int .i64 0, .int .u64 0, .int .i64 0, .slice none 0 0, .int .i64 0, .int .i64 0, .bool false, .int .i64 0, .int .i64 0, .int .i64 0, .int .i64 0, .int .u64 0, .int .i64 0, .slice none 0 0, .int .i64 0, .int .i64 0, .bool false] 40) = W30 from hW.symm]
        obtain ⟨q30, hq⟩ : ∃ q, q = W29.heap.size := ⟨_, rfl⟩
        rw [← hq] at s30 ⊢
        clear hW hq
        replace hHeld := hHeld.next kW
        refine hK.out _ _ hHeld (fun _ => ?_)
        clear hK K
        refine relist (by kernel_rfl : _ = Lm 52 []) ?_
        try simp only [Act.put, List.getElem_toArray, List.getElem_cons_zero, List.getElem_cons_succ, List.setIfInBounds_toArray, List.set_cons_zero, List.set_cons_succ]
        clear kW
        refine wpAnyH_ready (rs := [52, 53]) (by kernel_rfl) (by simp) ?_
        refine AllReadyH.cons (o := { dst := some 67, op := Op.call { callee := Callee.value (Operand.func 16), args := #[Operand.tmp 66], argTypes := #[22] }, type := 26, pos := "law.go:20", after := #[{ on := 51, ground := Ground.data }, { on := 47, ground := Ground.chain }, { on := 47, ground := Ground.guard }], guard := some (47, true) }) rfl (fun K hK => ?_) (AllReadyH.cons (o := { dst := some 68, op := Op.buildSlice 26 2 #[(0, Operand.const (Value.int IntKind.i64 1)), (1, Operand.const (Value.int IntKind.i64 0))], type := 26, pos := "law.go:20", after := #[{ on := 47, ground := Ground.guard }], guard := some (47, true) }) rfl (fun K hK => ?_) AllReadyH.nil)
        · skip
          go_simp
          refine (ocalls_any _ [at_ 1 1, at_ 1 0, at_ 0 0] _ s30 (fun s hs => (nil_all _ _ (by repeat (first | exact trivial | refine ⟨⟨rfl, rfl⟩, ?_⟩)) s hs).1) (by decide)).mono ?_
          rintro e W31 ⟨v31, rfl, ho, kW⟩
          replace hHeld := hHeld.next kW
          refine hK.out _ _ hHeld (fun _ => ?_)
          clear hK K
          refine relist (by kernel_rfl : _ = Lm 53 []) ?_
          try simp only [Act.put, List.getElem_toArray, List.getElem_cons_zero, List.getElem_cons_succ, List.setIfInBounds_toArray, List.set_cons_zero, List.set_cons_succ]
          have t31 := Src.of_own ho
          clear s30 ho kW
          refine wpAnyH_ready (rs := [53]) (by kernel_rfl) (by simp) ?_
          refine AllReadyH.cons (o := { dst := some 68, op := Op.buildSlice 26 2 #[(0, Operand.const (Value.int IntKind.i64 1)), (1, Operand.const (Value.int IntKind.i64 0))], type := 26, pos := "law.go:20", after := #[{ on := 47, ground := Ground.guard }], guard := some (47, true) }) rfl (fun K hK => ?_) AllReadyH.nil
          go_simp
          obtain ⟨W32, hW, kW, s32⟩ := litI W31 [1, 0] 2 rfl
          rw [show W31.alloc (.cells #[.int .i64 1, .int .i64 0] 3) = W32 from hW.symm]
          obtain ⟨q32, hq⟩ : ∃ q, q = W31.heap.size := ⟨_, rfl⟩
          rw [← hq] at s32 ⊢
          clear hW hq
          replace hHeld := hHeld.next kW
          refine hK.out _ _ hHeld (fun _ => ?_)
          clear hK K
          refine relist (by kernel_rfl : _ = Lm 54 []) ?_
          try simp only [Act.put, List.getElem_toArray, List.getElem_cons_zero, List.getElem_cons_succ, List.setIfInBounds_toArray, List.set_cons_zero, List.set_cons_succ]
          replace t31 := t31.same kW
          clear kW
          refine wpAnyH_ready (rs := [54]) (by kernel_rfl) (by simp) ?_
          refine AllReadyH.cons (o := { dst := some 69, op := Op.call { callee := Callee.value (Operand.func 13), args := #[Operand.tmp 67, Operand.tmp 68], argTypes := #[26, 26] }, type := 4, pos := "law.go:20", after := #[{ on := 52, ground := Ground.data }, { on := 53, ground := Ground.data }, { on := 52, ground := Ground.chain }, { on := 47, ground := Ground.guard }], guard := some (47, true) }) rfl (fun K hK => ?_) AllReadyH.nil
          go_simp
          refine (nums_any _ _ 2 2 [1, 0] [1, 0] _ t31 s32 (by decide) (by decide)).mono ?_
          rintro e W33 ⟨rfl, kW⟩
          replace hHeld := hHeld.next kW
          refine hK.out _ _ hHeld (fun _ => ?_)
          clear hK K
          refine relist (by kernel_rfl : _ = Lm 55 []) ?_
          try simp only [Act.put, List.getElem_toArray, List.getElem_cons_zero, List.getElem_cons_succ, List.setIfInBounds_toArray, List.set_cons_zero, List.set_cons_succ]
          clear t31 s32 kW
          refine takeL (i := 55) (v := .bool true) (listed' := Lm 56 []) (oi := { dst := some 70, op := Op.pick (Operand.tmp 62) (Operand.tmp 69) (Operand.const (Value.bool false)), type := 4, pos := "law.go:20", after := #[{ on := 47, ground := Ground.data }, { on := 54, ground := Ground.data }], guard := none }) rfl sel5 (by kernel_rfl) (by kernel_rfl) (fun _ _ _ h => h) (Or.inl ⟨by kernel_rfl, ?_⟩) hHeld (by kernel_rfl) ?_
          · intro W hSW; clear hSW hHeld; go_simp
          try simp only [Act.put, List.getElem_toArray, List.getElem_cons_zero, List.getElem_cons_succ, List.setIfInBounds_toArray, List.set_cons_zero, List.set_cons_succ]
          refine takeL (i := 56) (v := .bool true) (listed' := Lm 57 []) (oi := { dst := some 71, op := Op.move (Operand.tmp 70), type := 4, pos := "law.go:20", after := #[{ on := 55, ground := Ground.data }, { on := 54, ground := Ground.chain }], guard := none }) rfl sel5 (by kernel_rfl) (by kernel_rfl) (fun _ _ _ h => h) (Or.inl ⟨by kernel_rfl, ?_⟩) hHeld (by kernel_rfl) ?_
          · intro W hSW; clear hSW hHeld; go_simp
          try simp only [Act.put, List.getElem_toArray, List.getElem_cons_zero, List.getElem_cons_succ, List.setIfInBounds_toArray, List.set_cons_zero, List.set_cons_succ]
          refine fixed_tail hHeld _ _ _ _ _ _ _ _ _ _ _ _ _ _ _ _ _ _ _ _ _ _ _ _ _ _ _ _ _ _ _ _ _ _ _ _ _ _ _ _ _ _ _ _ _ _ _ _ _ _ _ _ _ _ _ _ _ _ _ _ _ _ _ _ _ _ _ _ _ _ _ _ _ _ (fun _ _ _ _ _ h => h) (fun _ _ _ _ _ _ _ _ _ _ _ _ _ _ _ _ _ _ _ _ _ _ _ _ _ _ _ _ _ _ _ _ _ _ _ _ _ _ _ _ _ _ _ _ _ _ _ _ _ _ _ _ _ _ _ _ _ _ _ _ _ _ _ _ _ _ _ _ _ _ _ _ _ _ _ W h => ?_)
          go_wp2_with fail
          go_ret
          exact ⟨rfl, h.new⟩
        · skip
          go_simp
          obtain ⟨W34, hW, kW, s34⟩ := litI W30 [1, 0] 2 rfl
          rw [show W30.alloc (.cells #[.int .i64 1, .int .i64 0] 3) = W34 from hW.symm]
          obtain ⟨q34, hq⟩ : ∃ q, q = W30.heap.size := ⟨_, rfl⟩
          rw [← hq] at s34 ⊢
          clear hW hq
          replace hHeld := hHeld.next kW
          refine hK.out _ _ hHeld (fun _ => ?_)
          clear hK K
          refine relist (by kernel_rfl : _ = Lm 52 [53]) ?_
          try simp only [Act.put, List.getElem_toArray, List.getElem_cons_zero, List.getElem_cons_succ, List.setIfInBounds_toArray, List.set_cons_zero, List.set_cons_succ]
          replace s30 := s30.same kW
          clear kW
          refine wpAnyH_ready (rs := [52]) (by kernel_rfl) (by simp) ?_
          refine AllReadyH.cons (o := { dst := some 67, op := Op.call { callee := Callee.value (Operand.func 16), args := #[Operand.tmp 66], argTypes := #[22] }, type := 26, pos := "law.go:20", after := #[{ on := 51, ground := Ground.data }, { on := 47, ground := Ground.chain }, { on := 47, ground := Ground.guard }], guard := some (47, true) }) rfl (fun K hK => ?_) AllReadyH.nil
          go_simp
          refine (ocalls_any _ [at_ 1 1, at_ 1 0, at_ 0 0] _ s30 (fun s hs => (nil_all _ _ (by repeat (first | exact trivial | refine ⟨⟨rfl, rfl⟩, ?_⟩)) s hs).1) (by decide)).mono ?_
          rintro e W35 ⟨v35, rfl, ho, kW⟩
          replace hHeld := hHeld.next kW
          refine hK.out _ _ hHeld (fun _ => ?_)
          clear hK K
          refine relist (by kernel_rfl : _ = Lm 54 []) ?_
          try simp only [Act.put, List.getElem_toArray, List.getElem_cons_zero, List.getElem_cons_succ, List.setIfInBounds_toArray, List.set_cons_zero, List.set_cons_succ]
          have t35 := Src.of_own ho
          replace s34 := s34.same kW
          clear s30 ho kW
          refine wpAnyH_ready (rs := [54]) (by kernel_rfl) (by simp) ?_
          refine AllReadyH.cons (o := { dst := some 69, op := Op.call { callee := Callee.value (Operand.func 13), args := #[Operand.tmp 67, Operand.tmp 68], argTypes := #[26, 26] }, type := 4, pos := "law.go:20", after := #[{ on := 52, ground := Ground.data }, { on := 53, ground := Ground.data }, { on := 52, ground := Ground.chain }, { on := 47, ground := Ground.guard }], guard := some (47, true) }) rfl (fun K hK => ?_) AllReadyH.nil
          go_simp
          refine (nums_any _ _ 2 2 [1, 0] [1, 0] _ t35 s34 (by decide) (by decide)).mono ?_
          rintro e W36 ⟨rfl, kW⟩
          replace hHeld := hHeld.next kW
          refine hK.out _ _ hHeld (fun _ => ?_)
          clear hK K
          refine relist (by kernel_rfl : _ = Lm 55 []) ?_
          try simp only [Act.put, List.getElem_toArray, List.getElem_cons_zero, List.getElem_cons_succ, List.setIfInBounds_toArray, List.set_cons_zero, List.set_cons_succ]
          clear t35 s34 kW
          refine takeL (i := 55) (v := .bool true) (listed' := Lm 56 []) (oi := { dst := some 70, op := Op.pick (Operand.tmp 62) (Operand.tmp 69) (Operand.const (Value.bool false)), type := 4, pos := "law.go:20", after := #[{ on := 47, ground := Ground.data }, { on := 54, ground := Ground.data }], guard := none }) rfl sel5 (by kernel_rfl) (by kernel_rfl) (fun _ _ _ h => h) (Or.inl ⟨by kernel_rfl, ?_⟩) hHeld (by kernel_rfl) ?_
          · intro W hSW; clear hSW hHeld; go_simp
          try simp only [Act.put, List.getElem_toArray, List.getElem_cons_zero, List.getElem_cons_succ, List.setIfInBounds_toArray, List.set_cons_zero, List.set_cons_succ]
          refine takeL (i := 56) (v := .bool true) (listed' := Lm 57 []) (oi := { dst := some 71, op := Op.move (Operand.tmp 70), type := 4, pos := "law.go:20", after := #[{ on := 55, ground := Ground.data }, { on := 54, ground := Ground.chain }], guard := none }) rfl sel5 (by kernel_rfl) (by kernel_rfl) (fun _ _ _ h => h) (Or.inl ⟨by kernel_rfl, ?_⟩) hHeld (by kernel_rfl) ?_
          · intro W hSW; clear hSW hHeld; go_simp
          try simp only [Act.put, List.getElem_toArray, List.getElem_cons_zero, List.getElem_cons_succ, List.setIfInBounds_toArray, List.set_cons_zero, List.set_cons_succ]
          refine fixed_tail hHeld _ _ _ _ _ _ _ _ _ _ _ _ _ _ _ _ _ _ _ _ _ _ _ _ _ _ _ _ _ _ _ _ _ _ _ _ _ _ _ _ _ _ _ _ _ _ _ _ _ _ _ _ _ _ _ _ _ _ _ _ _ _ _ _ _ _ _ _ _ _ _ _ _ _ (fun _ _ _ _ _ h => h) (fun _ _ _ _ _ _ _ _ _ _ _ _ _ _ _ _ _ _ _ _ _ _ _ _ _ _ _ _ _ _ _ _ _ _ _ _ _ _ _ _ _ _ _ _ _ _ _ _ _ _ _ _ _ _ _ _ _ _ _ _ _ _ _ _ _ _ _ _ _ _ _ _ _ _ _ W h => ?_)
          go_wp2_with fail
          go_ret
          exact ⟨rfl, h.new⟩
      · skip
        go_simp
        obtain ⟨W37, hW, kW, s37⟩ := litI W29 [1, 0] 2 rfl
        rw [show W29.alloc (.cells #[.int .i64 1, .int .i64 0] 3) = W37 from hW.symm]
        obtain ⟨q37, hq⟩ : ∃ q, q = W29.heap.size := ⟨_, rfl⟩
        rw [← hq] at s37 ⊢
        clear hW hq
        replace hHeld := hHeld.next kW
        refine hK.out _ _ hHeld (fun _ => ?_)
        clear hK K
        refine relist (by kernel_rfl : _ = Lm 51 [53]) ?_
        try simp only [Act.put, List.getElem_toArray, List.getElem_cons_zero, List.getElem_cons_succ, List.setIfInBounds_toArray, List.set_cons_zero, List.set_cons_succ]
        clear kW
        refine wpAnyH_ready (rs := [51]) (by kernel_rfl) (by simp) ?_
        refine AllReadyH.cons (o := { dst := some 66, op := Op.buildSlice 22 3 #[(0, Operand.tmp 63), (1, Operand.tmp 64), (2, Operand.tmp 65)], type := 22, pos := "law.go:20", after := #[{ on := 48, ground := Ground.data }, { on := 49, ground := Ground.data }, { on := 50, ground := Ground.data }, { on := 47, ground := Ground.guard }], guard := some (47, true) }) rfl (fun K hK => ?_) AllReadyH.nil
        go_simp
        obtain ⟨W38, hW, kW, s38⟩ := lit10 W37 [at_ 1 1, at_ 1 0, at_ 0 0] 3 rfl
        rw [show W37.alloc (.cells #[.int .i64 1, .int .i64 1, .int .i64 1, .int .i64 0, .int .u64 0, .int .i64 0, .slice none 0 0, .int .i64 0, .int .i64 0, .bool false, .int .i64 1, .int .i64 0, .int .i64 0, .int .i64 0, .int .u64 0, .int .i64 0, .slice none 0 0, .int .i64 0, .int .i64 0, .bool false, .int .i64 0, .int .i64 0, .int .i64 0, .int .i64 0, .int .u64 0, .int .i64 0, .slice none 0 0, .int .i64 0, .int .i64 0, .bool false] 40) = W38 from hW.symm]
        obtain ⟨q38, hq⟩ : ∃ q, q = W37.heap.size := ⟨_, rfl⟩
        rw [← hq] at s38 ⊢
        clear hW hq
        replace hHeld := hHeld.next kW
        refine hK.out _ _ hHeld (fun _ => ?_)
        clear hK K
        refine relist (by kernel_rfl : _ = Lm 52 [53]) ?_
        try simp only [Act.put, List.getElem_toArray, List.getElem_cons_zero, List.getElem_cons_succ, List.setIfInBounds_toArray, List.set_cons_zero, List.set_cons_succ]
        replace s37 := s37.same kW
        clear kW
        refine wpAnyH_ready (rs := [52]) (by kernel_rfl) (by simp) ?_
        refine AllReadyH.cons (o := { dst := some 67, op := Op.call { callee := Callee.value (Operand.func 16), args := #[Operand.tmp 66], argTypes := #[22] }, type := 26, pos := "law.go:20", after := #[{ on := 51, ground := Ground.data }, { on := 47, ground := Ground.chain }, { on := 47, ground := Ground.guard }], guard := some (47, true) }) rfl (fun K hK => ?_) AllReadyH.nil
        go_simp
        refine (ocalls_any _ [at_ 1 1, at_ 1 0, at_ 0 0] _ s38 (fun s hs => (nil_all _ _ (by repeat (first | exact trivial | refine ⟨⟨rfl, rfl⟩, ?_⟩)) s hs).1) (by decide)).mono ?_
        rintro e W39 ⟨v39, rfl, ho, kW⟩
        replace hHeld := hHeld.next kW
        refine hK.out _ _ hHeld (fun _ => ?_)
        clear hK K
        refine relist (by kernel_rfl : _ = Lm 54 []) ?_
        try simp only [Act.put, List.getElem_toArray, List.getElem_cons_zero, List.getElem_cons_succ, List.setIfInBounds_toArray, List.set_cons_zero, List.set_cons_succ]
        have t39 := Src.of_own ho
        replace s37 := s37.same kW
        clear s38 ho kW
        refine wpAnyH_ready (rs := [54]) (by kernel_rfl) (by simp) ?_
        refine AllReadyH.cons (o := { dst := some 69, op := Op.call { callee := Callee.value (Operand.func 13), args := #[Operand.tmp 67, Operand.tmp 68], argTypes := #[26, 26] }, type := 4, pos := "law.go:20", after := #[{ on := 52, ground := Ground.data }, { on := 53, ground := Ground.data }, { on := 52, ground := Ground.chain }, { on := 47, ground := Ground.guard }], guard := some (47, true) }) rfl (fun K hK => ?_) AllReadyH.nil
        go_simp
        refine (nums_any _ _ 2 2 [1, 0] [1, 0] _ t39 s37 (by decide) (by decide)).mono ?_
        rintro e W40 ⟨rfl, kW⟩
        replace hHeld := hHeld.next kW
        refine hK.out _ _ hHeld (fun _ => ?_)
        clear hK K
        refine relist (by kernel_rfl : _ = Lm 55 []) ?_
        try simp only [Act.put, List.getElem_toArray, List.getElem_cons_zero, List.getElem_cons_succ, List.setIfInBounds_toArray, List.set_cons_zero, List.set_cons_succ]
        clear t39 s37 kW
        refine takeL (i := 55) (v := .bool true) (listed' := Lm 56 []) (oi := { dst := some 70, op := Op.pick (Operand.tmp 62) (Operand.tmp 69) (Operand.const (Value.bool false)), type := 4, pos := "law.go:20", after := #[{ on := 47, ground := Ground.data }, { on := 54, ground := Ground.data }], guard := none }) rfl sel5 (by kernel_rfl) (by kernel_rfl) (fun _ _ _ h => h) (Or.inl ⟨by kernel_rfl, ?_⟩) hHeld (by kernel_rfl) ?_
        · intro W hSW; clear hSW hHeld; go_simp
        try simp only [Act.put, List.getElem_toArray, List.getElem_cons_zero, List.getElem_cons_succ, List.setIfInBounds_toArray, List.set_cons_zero, List.set_cons_succ]
        refine takeL (i := 56) (v := .bool true) (listed' := Lm 57 []) (oi := { dst := some 71, op := Op.move (Operand.tmp 70), type := 4, pos := "law.go:20", after := #[{ on := 55, ground := Ground.data }, { on := 54, ground := Ground.chain }], guard := none }) rfl sel5 (by kernel_rfl) (by kernel_rfl) (fun _ _ _ h => h) (Or.inl ⟨by kernel_rfl, ?_⟩) hHeld (by kernel_rfl) ?_
        · intro W hSW; clear hSW hHeld; go_simp
        try simp only [Act.put, List.getElem_toArray, List.getElem_cons_zero, List.getElem_cons_succ, List.setIfInBounds_toArray, List.set_cons_zero, List.set_cons_succ]
        refine fixed_tail hHeld _ _ _ _ _ _ _ _ _ _ _ _ _ _ _ _ _ _ _ _ _ _ _ _ _ _ _ _ _ _ _ _ _ _ _ _ _ _ _ _ _ _ _ _ _ _ _ _ _ _ _ _ _ _ _ _ _ _ _ _ _ _ _ _ _ _ _ _ _ _ _ _ _ _ (fun _ _ _ _ _ h => h) (fun _ _ _ _ _ _ _ _ _ _ _ _ _ _ _ _ _ _ _ _ _ _ _ _ _ _ _ _ _ _ _ _ _ _ _ _ _ _ _ _ _ _ _ _ _ _ _ _ _ _ _ _ _ _ _ _ _ _ _ _ _ _ _ _ _ _ _ _ _ _ _ _ _ _ _ W h => ?_)
        go_wp2_with fail
        go_ret
        exact ⟨rfl, h.new⟩
  · skip
    go_simp
    obtain ⟨W41, hW, kW, s41⟩ := litI W11 [0, 1] 2 rfl
    rw [show W11.alloc (.cells #[.int .i64 0, .int .i64 1] 3) = W41 from hW.symm]
    obtain ⟨q41, hq⟩ : ∃ q, q = W11.heap.size := ⟨_, rfl⟩
    rw [← hq] at s41 ⊢
    clear hW hq
    replace hHeld := hHeld.next kW
    refine hK.out _ _ hHeld (fun _ => ?_)
    clear hK K
    refine relist (by kernel_rfl : _ = Lm 42 [44]) ?_
    try simp only [Act.put, List.getElem_toArray, List.getElem_cons_zero, List.getElem_cons_succ, List.setIfInBounds_toArray, List.set_cons_zero, List.set_cons_succ]
    clear kW
    refine wpAnyH_ready (rs := [42]) (by kernel_rfl) (by simp) ?_
    refine AllReadyH.cons (o := { dst := some 57, op := Op.buildSlice 22 3 #[(0, Operand.tmp 54), (1, Operand.tmp 55), (2, Operand.tmp 56)], type := 22, pos := "law.go:20", after := #[{ on := 39, ground := Ground.data }, { on := 40, ground := Ground.data }, { on := 41, ground := Ground.data }, { on := 38, ground := Ground.guard }], guard := some (38, true) }) rfl (fun K hK => ?_) AllReadyH.nil
    go_simp
    obtain ⟨W42, hW, kW, s42⟩ := lit10 W41 [at_ 0 0, at_ 0 1, at_ 1 0] 3 rfl
    rw [show W41.alloc (.cells #[.int .i64 0, .int .i64 0, .int .i64 0, .int .i64 0, .int .u64 0, .int .i64 0, .slice none 0 0, .int .i64 0, .int .i64 0, .bool false, .int .i64 0, .int .i64 1, .int .i64 1, .int .i64 0, .int .u64 0, .int .i64 0, .slice none 0 0, .int .i64 0, .int .i64 0, .bool false, .int .i64 1, .int .i64 0, .int .i64 0, .int .i64 0, .int .u64 0, .int .i64 0, .slice none 0 0, .int .i64 0, .int .i64 0, .bool false] 40) = W42 from hW.symm]
    obtain ⟨q42, hq⟩ : ∃ q, q = W41.heap.size := ⟨_, rfl⟩
    rw [← hq] at s42 ⊢
    clear hW hq
    replace hHeld := hHeld.next kW
    refine hK.out _ _ hHeld (fun _ => ?_)
    clear hK K
    refine relist (by kernel_rfl : _ = Lm 43 [44]) ?_
    try simp only [Act.put, List.getElem_toArray, List.getElem_cons_zero, List.getElem_cons_succ, List.setIfInBounds_toArray, List.set_cons_zero, List.set_cons_succ]
    replace s41 := s41.same kW
    clear kW
    refine wpAnyH_ready (rs := [43]) (by kernel_rfl) (by simp) ?_
    refine AllReadyH.cons (o := { dst := some 58, op := Op.call { callee := Callee.value (Operand.func 14), args := #[Operand.const (Value.int IntKind.i64 2), Operand.tmp 57], argTypes := #[3, 22] }, type := 26, pos := "law.go:20", after := #[{ on := 42, ground := Ground.data }, { on := 38, ground := Ground.chain }, { on := 38, ground := Ground.guard }], guard := some (38, true) }) rfl (fun K hK => ?_) AllReadyH.nil
    go_simp
    refine (oline_any 2 _ [at_ 0 0, at_ 0 1, at_ 1 0] _ (by decide) (by decide) s42 (nil_all _ _ (by repeat (first | exact trivial | refine ⟨⟨rfl, rfl⟩, ?_⟩))) (by decide) _ [⟨0, 0, true, ⟨0, 0, 0, []⟩, .slice none 0 0, 0⟩, ⟨1, 1, false, ⟨0, 0, 0, []⟩, .slice none 0 0, 0⟩] _ (show _ = (-1, _, _) from rfl)).mono ?_
    rintro e W43 ⟨v43, rfl, ho, kW⟩
    replace hHeld := hHeld.next kW
    refine hK.out _ _ hHeld (fun _ => ?_)
    clear hK K
    refine relist (by kernel_rfl : _ = Lm 45 []) ?_
    try simp only [Act.put, List.getElem_toArray, List.getElem_cons_zero, List.getElem_cons_succ, List.setIfInBounds_toArray, List.set_cons_zero, List.set_cons_succ]
    have t43 := Src.of_own ho
    replace s41 := s41.same kW
    clear s42 ho kW
    refine wpAnyH_ready (rs := [45]) (by kernel_rfl) (by simp) ?_
    refine AllReadyH.cons (o := { dst := some 60, op := Op.call { callee := Callee.value (Operand.func 13), args := #[Operand.tmp 58, Operand.tmp 59], argTypes := #[26, 26] }, type := 4, pos := "law.go:20", after := #[{ on := 43, ground := Ground.data }, { on := 44, ground := Ground.data }, { on := 43, ground := Ground.chain }, { on := 38, ground := Ground.guard }], guard := some (38, true) }) rfl (fun K hK => ?_) AllReadyH.nil
    go_simp
    refine (nums_any _ _ 2 2 [0, 1] [0, 1] _ t43 s41 (by decide) (by decide)).mono ?_
    rintro e W44 ⟨rfl, kW⟩
    replace hHeld := hHeld.next kW
    refine hK.out _ _ hHeld (fun _ => ?_)
    clear hK K
    refine relist (by kernel_rfl : _ = Lm 46 []) ?_
    try simp only [Act.put, List.getElem_toArray, List.getElem_cons_zero, List.getElem_cons_succ, List.setIfInBounds_toArray, List.set_cons_zero, List.set_cons_succ]
    clear t43 s41 kW
    refine takeL (i := 46) (v := .bool true) (listed' := Lm 47 []) (oi := { dst := some 61, op := Op.pick (Operand.tmp 53) (Operand.tmp 60) (Operand.const (Value.bool false)), type := 4, pos := "law.go:20", after := #[{ on := 38, ground := Ground.data }, { on := 45, ground := Ground.data }], guard := none }) rfl sel5 (by kernel_rfl) (by kernel_rfl) (fun _ _ _ h => h) (Or.inl ⟨by kernel_rfl, ?_⟩) hHeld (by kernel_rfl) ?_
    · intro W hSW; clear hSW hHeld; go_simp
    try simp only [Act.put, List.getElem_toArray, List.getElem_cons_zero, List.getElem_cons_succ, List.setIfInBounds_toArray, List.set_cons_zero, List.set_cons_succ]
    refine takeL (i := 47) (v := .bool true) (listed' := Lm 48 []) (oi := { dst := some 62, op := Op.move (Operand.tmp 61), type := 4, pos := "law.go:20", after := #[{ on := 46, ground := Ground.data }, { on := 45, ground := Ground.chain }], guard := none }) rfl sel5 (by kernel_rfl) (by kernel_rfl) (fun _ _ _ h => h) (Or.inl ⟨by kernel_rfl, ?_⟩) hHeld (by kernel_rfl) ?_
    · intro W hSW; clear hSW hHeld; go_simp
    try simp only [Act.put, List.getElem_toArray, List.getElem_cons_zero, List.getElem_cons_succ, List.setIfInBounds_toArray, List.set_cons_zero, List.set_cons_succ]
    refine takeL (i := 48) (listed' := Lm 49 []) (oi := { dst := some 63, op := Op.load 40 (Operand.tmp 5), type := 40, pos := "law.go:20", after := #[{ on := 47, ground := Ground.guard }], guard := some (47, true) }) rfl sel5 (by kernel_rfl) (by kernel_rfl) (fun _ _ _ h => h) (yl (s := (at_ 1 1)) rfl rfl (by kernel_rfl) (fun _ h => h.h)) hHeld (by kernel_rfl) ?_
    try simp only [Act.put, List.getElem_toArray, List.getElem_cons_zero, List.getElem_cons_succ, List.setIfInBounds_toArray, List.set_cons_zero, List.set_cons_succ]
    refine takeL (i := 49) (listed' := Lm 50 []) (oi := { dst := some 64, op := Op.load 40 (Operand.tmp 2), type := 40, pos := "law.go:20", after := #[{ on := 47, ground := Ground.guard }], guard := some (47, true) }) rfl sel5 (by kernel_rfl) (by kernel_rfl) (fun _ _ _ h => h) (yl (s := (at_ 1 0)) rfl rfl (by kernel_rfl) (fun _ h => h.d)) hHeld (by kernel_rfl) ?_
    try simp only [Act.put, List.getElem_toArray, List.getElem_cons_zero, List.getElem_cons_succ, List.setIfInBounds_toArray, List.set_cons_zero, List.set_cons_succ]
    refine takeL (i := 50) (listed' := Lm 51 []) (oi := { dst := some 65, op := Op.load 40 (Operand.tmp 1), type := 40, pos := "law.go:20", after := #[{ on := 47, ground := Ground.guard }], guard := some (47, true) }) rfl sel5 (by kernel_rfl) (by kernel_rfl) (fun _ _ _ h => h) (yl (s := (at_ 0 0)) rfl rfl (by kernel_rfl) (fun _ h => h.e)) hHeld (by kernel_rfl) ?_
    try simp only [Act.put, List.getElem_toArray, List.getElem_cons_zero, List.getElem_cons_succ, List.setIfInBounds_toArray, List.set_cons_zero, List.set_cons_succ]
    refine wpAnyH_ready (rs := [51, 53]) (by kernel_rfl) (by simp) ?_
    refine AllReadyH.cons (o := { dst := some 66, op := Op.buildSlice 22 3 #[(0, Operand.tmp 63), (1, Operand.tmp 64), (2, Operand.tmp 65)], type := 22, pos := "law.go:20", after := #[{ on := 48, ground := Ground.data }, { on := 49, ground := Ground.data }, { on := 50, ground := Ground.data }, { on := 47, ground := Ground.guard }], guard := some (47, true) }) rfl (fun K hK => ?_) (AllReadyH.cons (o := { dst := some 68, op := Op.buildSlice 26 2 #[(0, Operand.const (Value.int IntKind.i64 1)), (1, Operand.const (Value.int IntKind.i64 0))], type := 26, pos := "law.go:20", after := #[{ on := 47, ground := Ground.guard }], guard := some (47, true) }) rfl (fun K hK => ?_) AllReadyH.nil)
    · skip
      go_simp
      obtain ⟨W45, hW, kW, s45⟩ := lit10 W44 [at_ 1 1, at_ 1 0, at_ 0 0] 3 rfl
      rw [show W44.alloc (.cells #[.int .i64 1, .int .i64 1, .int .i64 1, .int .i64 0, .int .u64 0, .int .i64 0, .slice none 0 0, .int .i64 0, .int .i64 0, .bool false, .int .i64 1, .int .i64 0, .int .i64 0, .int .i64 0, .int .u64 0, .int .i64 0, .slice none 0 0, .int .i64 0, .int .i64 0, .bool false, .int .i64 0, .int .i64 0, .int .i64 0, .int .i64 0, .int .u64 0, .int .i64 0, .slice none 0 0, .int .i64 0, .int .i64 0, .bool false] 40) = W45 from hW.symm]
      obtain ⟨q45, hq⟩ : ∃ q, q = W44.heap.size := ⟨_, rfl⟩
      rw [← hq] at s45 ⊢
      clear hW hq
      replace hHeld := hHeld.next kW
      refine hK.out _ _ hHeld (fun _ => ?_)
      clear hK K
      refine relist (by kernel_rfl : _ = Lm 52 []) ?_
      try simp only [Act.put, List.getElem_toArray, List.getElem_cons_zero, List.getElem_cons_succ, List.setIfInBounds_toArray, List.set_cons_zero, List.set_cons_succ]
      clear kW
      refine wpAnyH_ready (rs := [52, 53]) (by kernel_rfl) (by simp) ?_
      refine AllReadyH.cons (o := { dst := some 67, op := Op.call { callee := Callee.value (Operand.func 16), args := #[Operand.tmp 66], argTypes := #[22] }, type := 26, pos := "law.go:20", after := #[{ on := 51, ground := Ground.data }, { on := 47, ground := Ground.chain }, { on := 47, ground := Ground.guard }], guard := some (47, true) }) rfl (fun K hK => ?_) (AllReadyH.cons (o := { dst := some 68, op := Op.buildSlice 26 2 #[(0, Operand.const (Value.int IntKind.i64 1)), (1, Operand.const (Value.int IntKind.i64 0))], type := 26, pos := "law.go:20", after := #[{ on := 47, ground := Ground.guard }], guard := some (47, true) }) rfl (fun K hK => ?_) AllReadyH.nil)
      · skip
        go_simp
        refine (ocalls_any _ [at_ 1 1, at_ 1 0, at_ 0 0] _ s45 (fun s hs => (nil_all _ _ (by repeat (first | exact trivial | refine ⟨⟨rfl, rfl⟩, ?_⟩)) s hs).1) (by decide)).mono ?_
        rintro e W46 ⟨v46, rfl, ho, kW⟩
        replace hHeld := hHeld.next kW
        refine hK.out _ _ hHeld (fun _ => ?_)
        clear hK K
        refine relist (by kernel_rfl : _ = Lm 53 []) ?_
        try simp only [Act.put, List.getElem_toArray, List.getElem_cons_zero, List.getElem_cons_succ, List.setIfInBounds_toArray, List.set_cons_zero, List.set_cons_succ]
        have t46 := Src.of_own ho
        clear s45 ho kW
        refine wpAnyH_ready (rs := [53]) (by kernel_rfl) (by simp) ?_
        refine AllReadyH.cons (o := { dst := some 68, op := Op.buildSlice 26 2 #[(0, Operand.const (Value.int IntKind.i64 1)), (1, Operand.const (Value.int IntKind.i64 0))], type := 26, pos := "law.go:20", after := #[{ on := 47, ground := Ground.guard }], guard := some (47, true) }) rfl (fun K hK => ?_) AllReadyH.nil
        go_simp
        obtain ⟨W47, hW, kW, s47⟩ := litI W46 [1, 0] 2 rfl
        rw [show W46.alloc (.cells #[.int .i64 1, .int .i64 0] 3) = W47 from hW.symm]
        obtain ⟨q47, hq⟩ : ∃ q, q = W46.heap.size := ⟨_, rfl⟩
        rw [← hq] at s47 ⊢
        clear hW hq
        replace hHeld := hHeld.next kW
        refine hK.out _ _ hHeld (fun _ => ?_)
        clear hK K
        refine relist (by kernel_rfl : _ = Lm 54 []) ?_
        try simp only [Act.put, List.getElem_toArray, List.getElem_cons_zero, List.getElem_cons_succ, List.setIfInBounds_toArray, List.set_cons_zero, List.set_cons_succ]
        replace t46 := t46.same kW
        clear kW
        refine wpAnyH_ready (rs := [54]) (by kernel_rfl) (by simp) ?_
        refine AllReadyH.cons (o := { dst := some 69, op := Op.call { callee := Callee.value (Operand.func 13), args := #[Operand.tmp 67, Operand.tmp 68], argTypes := #[26, 26] }, type := 4, pos := "law.go:20", after := #[{ on := 52, ground := Ground.data }, { on := 53, ground := Ground.data }, { on := 52, ground := Ground.chain }, { on := 47, ground := Ground.guard }], guard := some (47, true) }) rfl (fun K hK => ?_) AllReadyH.nil
        go_simp
        refine (nums_any _ _ 2 2 [1, 0] [1, 0] _ t46 s47 (by decide) (by decide)).mono ?_
        rintro e W48 ⟨rfl, kW⟩
        replace hHeld := hHeld.next kW
        refine hK.out _ _ hHeld (fun _ => ?_)
        clear hK K
        refine relist (by kernel_rfl : _ = Lm 55 []) ?_
        try simp only [Act.put, List.getElem_toArray, List.getElem_cons_zero, List.getElem_cons_succ, List.setIfInBounds_toArray, List.set_cons_zero, List.set_cons_succ]
        clear t46 s47 kW
        refine takeL (i := 55) (v := .bool true) (listed' := Lm 56 []) (oi := { dst := some 70, op := Op.pick (Operand.tmp 62) (Operand.tmp 69) (Operand.const (Value.bool false)), type := 4, pos := "law.go:20", after := #[{ on := 47, ground := Ground.data }, { on := 54, ground := Ground.data }], guard := none }) rfl sel5 (by kernel_rfl) (by kernel_rfl) (fun _ _ _ h => h) (Or.inl ⟨by kernel_rfl, ?_⟩) hHeld (by kernel_rfl) ?_
        · intro W hSW; clear hSW hHeld; go_simp
        try simp only [Act.put, List.getElem_toArray, List.getElem_cons_zero, List.getElem_cons_succ, List.setIfInBounds_toArray, List.set_cons_zero, List.set_cons_succ]
        refine takeL (i := 56) (v := .bool true) (listed' := Lm 57 []) (oi := { dst := some 71, op := Op.move (Operand.tmp 70), type := 4, pos := "law.go:20", after := #[{ on := 55, ground := Ground.data }, { on := 54, ground := Ground.chain }], guard := none }) rfl sel5 (by kernel_rfl) (by kernel_rfl) (fun _ _ _ h => h) (Or.inl ⟨by kernel_rfl, ?_⟩) hHeld (by kernel_rfl) ?_
        · intro W hSW; clear hSW hHeld; go_simp
        try simp only [Act.put, List.getElem_toArray, List.getElem_cons_zero, List.getElem_cons_succ, List.setIfInBounds_toArray, List.set_cons_zero, List.set_cons_succ]
        refine fixed_tail hHeld _ _ _ _ _ _ _ _ _ _ _ _ _ _ _ _ _ _ _ _ _ _ _ _ _ _ _ _ _ _ _ _ _ _ _ _ _ _ _ _ _ _ _ _ _ _ _ _ _ _ _ _ _ _ _ _ _ _ _ _ _ _ _ _ _ _ _ _ _ _ _ _ _ _ (fun _ _ _ _ _ h => h) (fun _ _ _ _ _ _ _ _ _ _ _ _ _ _ _ _ _ _ _ _ _ _ _ _ _ _ _ _ _ _ _ _ _ _ _ _ _ _ _ _ _ _ _ _ _ _ _ _ _ _ _ _ _ _ _ _ _ _ _ _ _ _ _ _ _ _ _ _ _ _ _ _ _ _ _ W h => ?_)
        go_wp2_with fail
        go_ret
        exact ⟨rfl, h.new⟩
      · skip
        go_simp
        obtain ⟨W49, hW, kW, s49⟩ := litI W45 [1, 0] 2 rfl
        rw [show W45.alloc (.cells #[.int .i64 1, .int .i64 0] 3) = W49 from hW.symm]
        obtain ⟨q49, hq⟩ : ∃ q, q = W45.heap.size := ⟨_, rfl⟩
        rw [← hq] at s49 ⊢
        clear hW hq
        replace hHeld := hHeld.next kW
        refine hK.out _ _ hHeld (fun _ => ?_)
        clear hK K
        refine relist (by kernel_rfl : _ = Lm 52 [53]) ?_
        try simp only [Act.put, List.getElem_toArray, List.getElem_cons_zero, List.getElem_cons_succ, List.setIfInBounds_toArray, List.set_cons_zero, List.set_cons_succ]
        replace s45 := s45.same kW
        clear kW
        refine wpAnyH_ready (rs := [52]) (by kernel_rfl) (by simp) ?_
        refine AllReadyH.cons (o := { dst := some 67, op := Op.call { callee := Callee.value (Operand.func 16), args := #[Operand.tmp 66], argTypes := #[22] }, type := 26, pos := "law.go:20", after := #[{ on := 51, ground := Ground.data }, { on := 47, ground := Ground.chain }, { on := 47, ground := Ground.guard }], guard := some (47, true) }) rfl (fun K hK => ?_) AllReadyH.nil
        go_simp
        refine (ocalls_any _ [at_ 1 1, at_ 1 0, at_ 0 0] _ s45 (fun s hs => (nil_all _ _ (by repeat (first | exact trivial | refine ⟨⟨rfl, rfl⟩, ?_⟩)) s hs).1) (by decide)).mono ?_
        rintro e W50 ⟨v50, rfl, ho, kW⟩
        replace hHeld := hHeld.next kW
        refine hK.out _ _ hHeld (fun _ => ?_)
        clear hK K
        refine relist (by kernel_rfl : _ = Lm 54 []) ?_
        try simp only [Act.put, List.getElem_toArray, List.getElem_cons_zero, List.getElem_cons_succ, List.setIfInBounds_toArray, List.set_cons_zero, List.set_cons_succ]
        have t50 := Src.of_own ho
        replace s49 := s49.same kW
        clear s45 ho kW
        refine wpAnyH_ready (rs := [54]) (by kernel_rfl) (by simp) ?_
        refine AllReadyH.cons (o := { dst := some 69, op := Op.call { callee := Callee.value (Operand.func 13), args := #[Operand.tmp 67, Operand.tmp 68], argTypes := #[26, 26] }, type := 4, pos := "law.go:20", after := #[{ on := 52, ground := Ground.data }, { on := 53, ground := Ground.data }, { on := 52, ground := Ground.chain }, { on := 47, ground := Ground.guard }], guard := some (47, true) }) rfl (fun K hK => ?_) AllReadyH.nil
        go_simp
        refine (nums_any _ _ 2 2 [1, 0] [1, 0] _ t50 s49 (by decide) (by decide)).mono ?_
        rintro e W51 ⟨rfl, kW⟩
        replace hHeld := hHeld.next kW
        refine hK.out _ _ hHeld (fun _ => ?_)
        clear hK K
        refine relist (by kernel_rfl : _ = Lm 55 []) ?_
        try simp only [Act.put, List.getElem_toArray, List.getElem_cons_zero, List.getElem_cons_succ, List.setIfInBounds_toArray, List.set_cons_zero, List.set_cons_succ]
        clear t50 s49 kW
        refine takeL (i := 55) (v := .bool true) (listed' := Lm 56 []) (oi := { dst := some 70, op := Op.pick (Operand.tmp 62) (Operand.tmp 69) (Operand.const (Value.bool false)), type := 4, pos := "law.go:20", after := #[{ on := 47, ground := Ground.data }, { on := 54, ground := Ground.data }], guard := none }) rfl sel5 (by kernel_rfl) (by kernel_rfl) (fun _ _ _ h => h) (Or.inl ⟨by kernel_rfl, ?_⟩) hHeld (by kernel_rfl) ?_
        · intro W hSW; clear hSW hHeld; go_simp
        try simp only [Act.put, List.getElem_toArray, List.getElem_cons_zero, List.getElem_cons_succ, List.setIfInBounds_toArray, List.set_cons_zero, List.set_cons_succ]
        refine takeL (i := 56) (v := .bool true) (listed' := Lm 57 []) (oi := { dst := some 71, op := Op.move (Operand.tmp 70), type := 4, pos := "law.go:20", after := #[{ on := 55, ground := Ground.data }, { on := 54, ground := Ground.chain }], guard := none }) rfl sel5 (by kernel_rfl) (by kernel_rfl) (fun _ _ _ h => h) (Or.inl ⟨by kernel_rfl, ?_⟩) hHeld (by kernel_rfl) ?_
        · intro W hSW; clear hSW hHeld; go_simp
        try simp only [Act.put, List.getElem_toArray, List.getElem_cons_zero, List.getElem_cons_succ, List.setIfInBounds_toArray, List.set_cons_zero, List.set_cons_succ]
        refine fixed_tail hHeld _ _ _ _ _ _ _ _ _ _ _ _ _ _ _ _ _ _ _ _ _ _ _ _ _ _ _ _ _ _ _ _ _ _ _ _ _ _ _ _ _ _ _ _ _ _ _ _ _ _ _ _ _ _ _ _ _ _ _ _ _ _ _ _ _ _ _ _ _ _ _ _ _ _ (fun _ _ _ _ _ h => h) (fun _ _ _ _ _ _ _ _ _ _ _ _ _ _ _ _ _ _ _ _ _ _ _ _ _ _ _ _ _ _ _ _ _ _ _ _ _ _ _ _ _ _ _ _ _ _ _ _ _ _ _ _ _ _ _ _ _ _ _ _ _ _ _ _ _ _ _ _ _ _ _ _ _ _ _ W h => ?_)
        go_wp2_with fail
        go_ret
        exact ⟨rfl, h.new⟩
    · skip
      go_simp
      obtain ⟨W52, hW, kW, s52⟩ := litI W44 [1, 0] 2 rfl
      rw [show W44.alloc (.cells #[.int .i64 1, .int .i64 0] 3) = W52 from hW.symm]
      obtain ⟨q52, hq⟩ : ∃ q, q = W44.heap.size := ⟨_, rfl⟩
      rw [← hq] at s52 ⊢
      clear hW hq
      replace hHeld := hHeld.next kW
      refine hK.out _ _ hHeld (fun _ => ?_)
      clear hK K
      refine relist (by kernel_rfl : _ = Lm 51 [53]) ?_
      try simp only [Act.put, List.getElem_toArray, List.getElem_cons_zero, List.getElem_cons_succ, List.setIfInBounds_toArray, List.set_cons_zero, List.set_cons_succ]
      clear kW
      refine wpAnyH_ready (rs := [51]) (by kernel_rfl) (by simp) ?_
      refine AllReadyH.cons (o := { dst := some 66, op := Op.buildSlice 22 3 #[(0, Operand.tmp 63), (1, Operand.tmp 64), (2, Operand.tmp 65)], type := 22, pos := "law.go:20", after := #[{ on := 48, ground := Ground.data }, { on := 49, ground := Ground.data }, { on := 50, ground := Ground.data }, { on := 47, ground := Ground.guard }], guard := some (47, true) }) rfl (fun K hK => ?_) AllReadyH.nil
      go_simp
      obtain ⟨W53, hW, kW, s53⟩ := lit10 W52 [at_ 1 1, at_ 1 0, at_ 0 0] 3 rfl
      rw [show W52.alloc (.cells #[.int .i64 1, .int .i64 1, .int .i64 1, .int .i64 0, .int .u64 0, .int .i64 0, .slice none 0 0, .int .i64 0, .int .i64 0, .bool false, .int .i64 1, .int .i64 0, .int .i64 0, .int .i64 0, .int .u64 0, .int .i64 0, .slice none 0 0, .int .i64 0, .int .i64 0, .bool false, .int .i64 0, .int .i64 0, .int .i64 0, .int .i64 0, .int .u64 0, .int .i64 0, .slice none 0 0, .int .i64 0, .int .i64 0, .bool false] 40) = W53 from hW.symm]
      obtain ⟨q53, hq⟩ : ∃ q, q = W52.heap.size := ⟨_, rfl⟩
      rw [← hq] at s53 ⊢
      clear hW hq
      replace hHeld := hHeld.next kW
      refine hK.out _ _ hHeld (fun _ => ?_)
      clear hK K
      refine relist (by kernel_rfl : _ = Lm 52 [53]) ?_
      try simp only [Act.put, List.getElem_toArray, List.getElem_cons_zero, List.getElem_cons_succ, List.setIfInBounds_toArray, List.set_cons_zero, List.set_cons_succ]
      replace s52 := s52.same kW
      clear kW
      refine wpAnyH_ready (rs := [52]) (by kernel_rfl) (by simp) ?_
      refine AllReadyH.cons (o := { dst := some 67, op := Op.call { callee := Callee.value (Operand.func 16), args := #[Operand.tmp 66], argTypes := #[22] }, type := 26, pos := "law.go:20", after := #[{ on := 51, ground := Ground.data }, { on := 47, ground := Ground.chain }, { on := 47, ground := Ground.guard }], guard := some (47, true) }) rfl (fun K hK => ?_) AllReadyH.nil
      go_simp
      refine (ocalls_any _ [at_ 1 1, at_ 1 0, at_ 0 0] _ s53 (fun s hs => (nil_all _ _ (by repeat (first | exact trivial | refine ⟨⟨rfl, rfl⟩, ?_⟩)) s hs).1) (by decide)).mono ?_
      rintro e W54 ⟨v54, rfl, ho, kW⟩
      replace hHeld := hHeld.next kW
      refine hK.out _ _ hHeld (fun _ => ?_)
      clear hK K
      refine relist (by kernel_rfl : _ = Lm 54 []) ?_
      try simp only [Act.put, List.getElem_toArray, List.getElem_cons_zero, List.getElem_cons_succ, List.setIfInBounds_toArray, List.set_cons_zero, List.set_cons_succ]
      have t54 := Src.of_own ho
      replace s52 := s52.same kW
      clear s53 ho kW
      refine wpAnyH_ready (rs := [54]) (by kernel_rfl) (by simp) ?_
      refine AllReadyH.cons (o := { dst := some 69, op := Op.call { callee := Callee.value (Operand.func 13), args := #[Operand.tmp 67, Operand.tmp 68], argTypes := #[26, 26] }, type := 4, pos := "law.go:20", after := #[{ on := 52, ground := Ground.data }, { on := 53, ground := Ground.data }, { on := 52, ground := Ground.chain }, { on := 47, ground := Ground.guard }], guard := some (47, true) }) rfl (fun K hK => ?_) AllReadyH.nil
      go_simp
      refine (nums_any _ _ 2 2 [1, 0] [1, 0] _ t54 s52 (by decide) (by decide)).mono ?_
      rintro e W55 ⟨rfl, kW⟩
      replace hHeld := hHeld.next kW
      refine hK.out _ _ hHeld (fun _ => ?_)
      clear hK K
      refine relist (by kernel_rfl : _ = Lm 55 []) ?_
      try simp only [Act.put, List.getElem_toArray, List.getElem_cons_zero, List.getElem_cons_succ, List.setIfInBounds_toArray, List.set_cons_zero, List.set_cons_succ]
      clear t54 s52 kW
      refine takeL (i := 55) (v := .bool true) (listed' := Lm 56 []) (oi := { dst := some 70, op := Op.pick (Operand.tmp 62) (Operand.tmp 69) (Operand.const (Value.bool false)), type := 4, pos := "law.go:20", after := #[{ on := 47, ground := Ground.data }, { on := 54, ground := Ground.data }], guard := none }) rfl sel5 (by kernel_rfl) (by kernel_rfl) (fun _ _ _ h => h) (Or.inl ⟨by kernel_rfl, ?_⟩) hHeld (by kernel_rfl) ?_
      · intro W hSW; clear hSW hHeld; go_simp
      try simp only [Act.put, List.getElem_toArray, List.getElem_cons_zero, List.getElem_cons_succ, List.setIfInBounds_toArray, List.set_cons_zero, List.set_cons_succ]
      refine takeL (i := 56) (v := .bool true) (listed' := Lm 57 []) (oi := { dst := some 71, op := Op.move (Operand.tmp 70), type := 4, pos := "law.go:20", after := #[{ on := 55, ground := Ground.data }, { on := 54, ground := Ground.chain }], guard := none }) rfl sel5 (by kernel_rfl) (by kernel_rfl) (fun _ _ _ h => h) (Or.inl ⟨by kernel_rfl, ?_⟩) hHeld (by kernel_rfl) ?_
      · intro W hSW; clear hSW hHeld; go_simp
      try simp only [Act.put, List.getElem_toArray, List.getElem_cons_zero, List.getElem_cons_succ, List.setIfInBounds_toArray, List.set_cons_zero, List.set_cons_succ]
      refine fixed_tail hHeld _ _ _ _ _ _ _ _ _ _ _ _ _ _ _ _ _ _ _ _ _ _ _ _ _ _ _ _ _ _ _ _ _ _ _ _ _ _ _ _ _ _ _ _ _ _ _ _ _ _ _ _ _ _ _ _ _ _ _ _ _ _ _ _ _ _ _ _ _ _ _ _ _ _ (fun _ _ _ _ _ h => h) (fun _ _ _ _ _ _ _ _ _ _ _ _ _ _ _ _ _ _ _ _ _ _ _ _ _ _ _ _ _ _ _ _ _ _ _ _ _ _ _ _ _ _ _ _ _ _ _ _ _ _ _ _ _ _ _ _ _ _ _ _ _ _ _ _ _ _ _ _ _ _ _ _ _ _ _ W h => ?_)
      go_wp2_with fail
      go_ret
      exact ⟨rfl, h.new⟩

end Go.Proofs.Ytjimjkfnpklhiaa

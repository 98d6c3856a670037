/- Package mailbox: the boxes; is there a core, new ones, a box. -/
import Derived.Test.YtfdnmgebpfopjaaBoxA
set_option linter.all false
namespace Go.Proofs.Ytfdnmgebpfopjaa
open Go.RowKit

/-- The boxes of cores: their block b, the row g of slices vs. -/
structure Bw (O : Nat → Prop) (w : World) (b : Nat) (X : List (List Ml)) (g : Nat) (vs : List Value) : Prop where
  hb : w.heap[b]? = some (.cells #[.slice (some ⟨g, 0, none⟩) X.length X.length] 46 (0, 0))
  hg : Row w g X.length 38 vs
  hl : vs.length = X.length
  ob : O b
  og : O g
  own : ∀ (i : Nat) (v : Value) (L : List Ml), vs[i]? = some v → X[i]? = some L → w.ownsRow 0 30 3 v L.length (L.flatMap encM)
  blk : ∀ (i : Nat) (v : Value) (k : Nat), vs[i]? = some v → v.ownBlock = some k → O k
  one : ∀ (i j : Nat) (v u : Value) (k : Nat), vs[i]? = some v → vs[j]? = some u → v.ownBlock = some k → u.ownBlock = some k → i = j
def Bs (O : Nat → Prop) (w : World) (b : Nat) (X : List (List Ml)) : Prop := ∃ g vs, Bw O w b X g vs
section
variable {O O' F : Nat → Prop} {w w' : World} {b g : Nat} {X : List (List Ml)} {vs : List Value}
theorem Bw.has (h : Bw O w b X g vs) {i : Nat} {v : Value} (hv : vs[i]? = some v) : ∃ L, X[i]? = some L := ⟨_, List.getElem?_eq_getElem (by have := lt_of_some hv; have := h.hl; omega)⟩
theorem Bw.size (h : Bw O w b X g vs) {i k : Nat} {v : Value} (hv : vs[i]? = some v) (hk : v.ownBlock = some k) : k < w.heap.size := by
  obtain ⟨L, hL⟩ := h.has hv
  exact own_size (h.own i v L hv hL) hk
theorem Bw.mono (h : Bw O w b X g vs) (hO : ∀ k, O k → O' k) : Bw O' w b X g vs := ⟨h.hb, h.hg, h.hl, hO _ h.ob, hO _ h.og, h.own, fun i v k h1 h2 => hO _ (h.blk i v k h1 h2), h.one⟩
theorem Bw.kept (h : Bw O w b X g vs) (k : Kept F w w') (hF : ∀ i, O i → ¬ F i) : Bw O w' b X g vs :=
  ⟨k.heap h.hb (hF _ h.ob), h.hg.kept k (hF _ h.og), h.hl, h.ob, h.og, fun i v L h1 h2 => own_kept (h.own i v L h1 h2) k (fun j hj => hF j (h.blk i v j h1 hj)), h.blk, h.one⟩
theorem Bw.sized (h : Bw O w b X g vs) : Bw (fun k => O k ∧ k < w.heap.size) w b X g vs :=
  ⟨h.hb, h.hg, h.hl, ⟨h.ob, lt_of_heap h.hb⟩, ⟨h.og, h.hg.lt⟩, h.own, fun i v k h1 h2 => ⟨h.blk i v k h1 h2, h.size h1 h2⟩, h.one⟩
theorem Bs.mono (h : Bs O w b X) (hO : ∀ k, O k → O' k) : Bs O' w b X := let ⟨g, vs, h⟩ := h; ⟨g, vs, h.mono hO⟩
theorem Bs.kept (h : Bs O w b X) (k : Kept F w w') (hF : ∀ i, O i → ¬ F i) : Bs O w' b X := let ⟨g, vs, h⟩ := h; ⟨g, vs, h.kept k hF⟩
theorem Bs.same (h : Bs O w b X) (k : New w w') : Bs O w' b X := h.kept k (fun _ _ h => h)
theorem Bs.sized (h : Bs O w b X) : Bs (fun k => O k ∧ k < w.heap.size) w b X := let ⟨g, vs, h⟩ := h; ⟨g, vs, h.sized⟩
theorem Bw.bg (h : Bw O w b X g vs) : g ≠ b := by
  rintro rfl
  obtain ⟨cur, h1, -⟩ := h.hg.ex
  exact heap_ne h.hb h1 (by decide) rfl
theorem Bw.nb (h : Bw O w b X g vs) {i k : Nat} {v : Value} (hv : vs[i]? = some v) (hk : v.ownBlock = some k) : k ≠ b ∧ k ≠ g := by
  obtain ⟨L, hL⟩ := h.has hv
  obtain ⟨cc, hcc⟩ := own_type (h.own i v L hv hL) hk
  constructor
  · rintro rfl
    exact heap_ne h.hb hcc (by decide) rfl
  · rintro rfl
    obtain ⟨cur, h1, -⟩ := h.hg.ex
    exact heap_ne h1 hcc (by decide) rfl
/-- One box. -/
theorem Bw.at (h : Bw O w b X g vs) {i : Nat} {L : List Ml} (hL : X[i]? = some L) : ∃ ao c, vs[i]? = some (.slice ao L.length c) ∧ w.cell? ⟨g, i, none⟩ = some (.slice ao L.length c) ∧ w.ownsRow 0 30 3 (.slice ao L.length c) L.length (L.flatMap encM) := by
  have hi : i < vs.length := by have := lt_of_some hL; have := h.hl; omega
  obtain ⟨v, hv⟩ : ∃ v, vs[i]? = some v := ⟨_, List.getElem?_eq_getElem hi⟩
  have ho := h.own i v L hv hL
  have hc := h.hg.cell hi
  rw [List.getElem?_eq_getElem hi] at hv
  obtain ⟨ao, c, he, -⟩ := Src.of_own ho
  cases hv
  refine ⟨ao, c, ?_, ?_, ?_⟩
  · rw [List.getElem?_eq_getElem hi, he]
  · rw [hc, he]
  · rw [← he]; exact ho
/-- One box is another one. -/
theorem Bw.put {w1 : World} (h : Bw O w b X g vs) {i : Nat} {L L' : List Ml} {v v' : Value} (hv : vs[i]? = some v) (hL : X[i]? = some L) (k : Kept (fun k => v.ownBlock = some k) w w1) (hown : w1.ownsRow 0 30 3 v' L'.length (L'.flatMap encM)) (hid : ∀ k, v'.ownBlock = some k → v.ownBlock = some k ∨ w.heap.size ≤ k) :
    Bw (fun k => O k ∨ w.heap.size ≤ k) (w1.setCell ⟨g, i, none⟩ v') b (X.set i L') g (vs.set i v') ∧ Kept O w (w1.setCell ⟨g, i, none⟩ v') := by
  have kg : Kept (fun k => k = g) w1 (w1.setCell ⟨g, i, none⟩ v') := (Kept.refl (fun k => k = g) w1).setCell (.inr rfl) _
  have hgl := h.hg.lt
  have hbl := lt_of_heap h.hb
  have hne : v'.ownBlock ≠ some g := fun e => (hid g e).elim (fun h1 => (h.nb hv h1).2 rfl) (fun h1 => by omega)
  refine ⟨⟨?_, ?_, by simp [h.hl], .inl h.ob, .inl h.og, ?_, ?_, ?_⟩, ?_⟩
  · rw [List.length_set]
    exact kg.heap (k.heap h.hb (fun e => (h.nb hv e).1 rfl)) (fun e => h.bg e.symm)
  · rw [List.length_set]
    exact (h.hg.kept k (fun e => (h.nb hv e).2 rfl)).set i v'
  · intro j u M hu hM
    by_cases hj : j = i
    · subst hj
      rw [List.getElem?_set_self (lt_of_some hv)] at hu
      rw [List.getElem?_set_self (lt_of_some hL)] at hM
      cases hu; cases hM
      exact own_kept hown kg (fun q hq e => hne (by rw [hq, e]))
    · rw [List.getElem?_set_ne (fun e => hj e.symm)] at hu hM
      exact own_kept (own_kept (h.own j u M hu hM) k (fun q hq e => hj (h.one j i u v q hu hv hq e))) kg (fun q hq e => (h.nb hu hq).2 e)
  · intro j u q hu hq
    by_cases hj : j = i
    · subst hj
      rw [List.getElem?_set_self (lt_of_some hv)] at hu
      cases hu
      exact (hid q hq).imp (fun h1 => h.blk j v q hv h1) id
    · rw [List.getElem?_set_ne (fun e => hj e.symm)] at hu
      exact .inl (h.blk j u q hu hq)
  · intro j j' u u' q hu hu' hq hq'
    by_cases hj : j = i
    · by_cases hj' : j' = i
      · omega
      · subst hj
        rw [List.getElem?_set_self (lt_of_some hv)] at hu
        rw [List.getElem?_set_ne (fun e => hj' e.symm)] at hu'
        cases hu
        rcases hid q hq with h1 | h1
        · exact h.one j j' v u' q hv hu' h1 hq'
        · have := h.size hu' hq'; omega
    · by_cases hj' : j' = i
      · subst hj'
        rw [List.getElem?_set_self (lt_of_some hv)] at hu'
        rw [List.getElem?_set_ne (fun e => hj e.symm)] at hu
        cases hu'
        rcases hid q hq' with h1 | h1
        · exact h.one j j' u v q hu hv hq h1
        · have := h.size hu hq; omega
      · rw [List.getElem?_set_ne (fun e => hj e.symm)] at hu
        rw [List.getElem?_set_ne (fun e => hj' e.symm)] at hu'
        exact h.one j j' u u' q hu hu' hq hq'
  · exact (k.mono (fun q _ e => h.blk i v q hv e)).trans' kg (fun q _ e => by rw [e]; exact h.og)
end
def BX (b : Nat) (X : List (List Ml)) : Thing := fun O w => Bs O w b X
theorem BX.ok (b : Nat) (X : List (List Ml)) : (BX b X).Ok := ⟨fun h k hF => Bs.kept h k hF, fun h => Bs.sized h, fun h hO => Bs.mono h hO⟩

theorem is_any {O : Nat → Prop} (b : Nat) (X : List (List Ml)) (c : Int) (r : Bool) (w : World) (h : Bs O w b X) (hX : X.length ≤ 8) (hr : r = decide (0 ≤ c ∧ c < X.length)) :
    Calls Try.prog 16 #[.pointer (some ⟨b, 0, none⟩), .int .i64 c] w fun e w' => e = .returned (.bool r) ∧ w = w' := by
  obtain ⟨g, vs, h⟩ := h
  have c0 := cell_blk h.hb 0
  have hbl := lt_of_heap h.hb
  obtain ⟨n, hn⟩ : ∃ n, n = X.length := ⟨_, rfl⟩
  rw [← hn] at c0 hr
  have Hr := Lib.hid hr
  clear h hn hr
  by_cases h0 : 0 ≤ c
  · by_cases h1 : c < n
    · obtain rfl : r = true := by rw [Hr.out]; simpa using ⟨h0, h1⟩
      go_enter Try.func16, Try.ntmps16
      go_wp2_with fail
      go_ret
      exact ⟨rfl, rfl⟩
    · obtain rfl : r = false := by rw [Hr.out]; simp; omega
      go_enter Try.func16, Try.ntmps16
      go_wp2_with fail
      go_ret
      exact ⟨rfl, rfl⟩
  · obtain rfl : r = false := by rw [Hr.out]; simp; omega
    go_enter Try.func16, Try.ntmps16
    go_wp2_with fail
    go_ret
    exact ⟨rfl, rfl⟩

theorem info38 : (Try.prog.info? 38).map (fun i => (i.zero, i.size, i.bytes)) = some (some (.slice none 0 0), 1, 24) := by kernel_rfl
theorem made1 (n : Nat) : (madeCells #[Value.slice none 0 0] n).toList = List.replicate n (Value.slice none 0 0) := by
  have h := made_enc (α := Unit) (enc := fun _ => [Value.slice none 0 0]) (s := 1) (no := ()) (fun _ => rfl) n
  rw [Nat.mul_one] at h
  rw [show (madeCells #[Value.slice none 0 0] n) = madeCells [Value.slice none 0 0].toArray n from rfl, h]
  induction n with
  | zero => rfl
  | succ n ih => rw [List.replicate_succ, List.replicate_succ, List.flatMap_cons]; simp [List.flatMap_replicate]
theorem new_bx (n : Nat) (w : World) : Bs (fun k => w.heap.size ≤ k) ((w.alloc (.cells (madeCells #[Value.slice none 0 0] n) 38)).alloc (.cells #[.slice (some ⟨w.heap.size, 0, none⟩) n n] 46)) (w.heap.size + 1) (List.replicate n []) := by
  have hsz : (w.alloc (.cells (madeCells #[Value.slice none 0 0] n) 38)).heap.size = w.heap.size + 1 := Array.size_push ..
  have hv : ∀ (i : Nat) (v : Value), (List.replicate n (Value.slice none 0 0))[i]? = some v → v = Value.slice none 0 0 := fun i v h => List.eq_of_mem_replicate (List.mem_of_getElem? h)
  refine ⟨w.heap.size, List.replicate n (.slice none 0 0), ?_, ⟨⟨madeCells #[Value.slice none 0 0] n, ?_, ?_, ?_⟩, ?_⟩, by simp, by show w.heap.size ≤ w.heap.size + 1; omega, Nat.le_refl _, ?_, ?_, ?_⟩
  · rw [List.length_replicate, ← hsz]; exact heap_alloc_new _ _
  · rw [Below.heap_alloc _ _ _ (by simp)]; exact heap_alloc_new _ _
  · rw [List.length_replicate]; exact size_madeCells _ _
  · rw [made1, List.take_length]
  · simp
  · intro i v L h1 h2
    rw [hv i v h1, List.eq_of_mem_replicate (List.mem_of_getElem? h2)]
    exact ⟨rfl, .inl ⟨rfl, rfl⟩⟩
  · intro i v k h1 h2
    rw [hv i v h1] at h2; cases h2
  · intro i j v u k h1 _ h3 _
    rw [hv i v h1] at h3; cases h3
theorem new_any (n : Nat) (w : World) (h0 : 1 ≤ n) (h1 : n ≤ 8) :
    Calls Try.prog 8 #[.int .i64 n] w fun e w' => ∃ b, e = .returned (.tuple #[.pointer (some ⟨b, 0, none⟩), .int .i64 0]) ∧ w.heap.size ≤ b ∧ Bs (fun k => w.heap.size ≤ k) w' b (List.replicate n []) ∧ New w w' := by
  obtain ⟨i0, hi, hz0, hz1, hz2⟩ := info_parts info38
  have hmk := run_make (P := Try.prog) w 44 38 i0 _ Try.underlying44 hi hz0 .i64 .i64 n n (by omega) (by omega) (by rw [hz2]; omega) (by omega)
  rw [hz1] at hmk
  go_enter Try.func8, Try.ntmps8
  go_wp2
  go_ret2
  exact ⟨w.heap.size + 1, rfl, by omega, new_bx n w, ((Kept.refl _ _).alloc _).alloc _⟩
theorem new_no (n : Int) (w : World) (h : n < 1 ∨ 8 < n) :
    Calls Try.prog 8 #[.int .i64 n] w fun e w' => e = .returned (.tuple #[.pointer none, .int .i64 1]) ∧ w = w' := by
  rcases h with h | h
  · go_enter Try.func8, Try.ntmps8
    go_wp2
    go_ret2
    exact ⟨rfl, rfl⟩
  · have h' : ¬ n < 1 := by omega
    go_enter Try.func8, Try.ntmps8
    go_wp2
    go_ret2
    exact ⟨rfl, rfl⟩

/-- Is a box full? -/
def fullB (X : List (List Ml)) (i : Nat) : Bool := decide (64 ≤ (X.getD i []).length)
theorem full_any {O : Nat → Prop} (b : Nat) (X : List (List Ml)) (i bb : Nat) (r : Bool) (w : World) (h : Bs O w b X) (hi : i < X.length) (hX : X.length ≤ 8) (hbb : w.heap[bb]? = some (.cells #[.pointer (some ⟨b, 0, none⟩)] 22 (0, 0))) (hr : fullB X i = r) (hs : ∀ L ∈ X, L.length ≤ 1000) :
    Calls Try.prog 21 #[.int .i64 i, .pointer (some ⟨bb, 0, none⟩)] w fun e w' => e = .returned (.bool r) ∧ w = w' := by
  obtain ⟨g, vs, h⟩ := h
  have c0 := cell_blk h.hb 0
  have cb := cell_blk hbb 0
  obtain ⟨L, hL⟩ : ∃ L, X[i]? = some L := ⟨_, List.getElem?_eq_getElem hi⟩
  obtain ⟨ao, c, -, c1, ho⟩ := h.at hL
  have hbl := lt_of_heap h.hb
  have hbbl := lt_of_heap hbb
  have hLs := hs L (List.mem_of_getElem? hL)
  obtain ⟨l, hl⟩ : ∃ l, l = L.length := ⟨_, rfl⟩
  have hrr : decide (64 ≤ l) = r := by rw [← hr, hl]; unfold fullB; rw [List.getD_eq_getElem?_getD, hL]; rfl
  obtain ⟨n, hn⟩ : ∃ n, n = X.length := ⟨_, rfl⟩
  rw [← hn] at c0 hi
  rw [← hl] at c1
  have Hrr := Lib.hid hrr
  clear h hn hl hL ho hs hLs hr hrr
  by_cases h1 : 64 ≤ l
  · have h1' : (64 : Int) ≤ l := by omega
    obtain rfl : true = r := by rw [← Hrr.out]; simpa using h1
    go_enter Try.func21, Try.ntmps21
    go_wp2_with fail
    go_ret
    exact ⟨rfl, rfl⟩
  · have h1' : ¬ (64 : Int) ≤ l := by omega
    obtain rfl : false = r := by rw [← Hrr.out]; simpa using h1
    go_enter Try.func21, Try.ntmps21
    go_wp2_with fail
    go_ret
    exact ⟨rfl, rfl⟩

abbrev vN (T : List Nat) : List Value := T.map (fun (i : Nat) => Value.int .i64 (i : Int))
theorem Src.nats {w : World} {v : Value} {n : Nat} {T : List Nat} (h : Src w v n 1 (vN T)) : T.length = n ∧ ∃ ao c, v = .slice ao n c ∧ ∀ (i x : Nat), T[i]? = some x → ∃ B Of, ao = some ⟨B, Of, none⟩ ∧ w.cell? ⟨B, Of + i, none⟩ = some (.int .i64 (x : Int)) := by
  have h' : Src w v n 1 (vI (T.map (fun i : Nat => (i : Int)))) := by rw [vI, List.map_map]; exact h
  obtain ⟨h1, ao, c, h2, h3⟩ := Src.nums h'
  refine ⟨by simpa using h1, ao, c, h2, fun i x hx => h3 i (x : Int) (by rw [List.getElem?_map, hx]; rfl)⟩
set_option maxRecDepth 100000 in
theorem index_any {O : Nat → Prop} (b : Nat) (X : List (List Ml)) (bb : Nat) (v : Value) (m : Nat) (T : List Nat) (w : World) (h : Bs O w b X) (hX : X.length ≤ 8) (hbb : w.heap[bb]? = some (.cells #[.pointer (some ⟨b, 0, none⟩)] 22 (0, 0))) (hs : ∀ L ∈ X, L.length ≤ 1000) (hT : Src w v m 1 (vN T)) (hm : m ≤ 1000) (hTX : ∀ i ∈ T, i < X.length) :
    Calls Try.prog 22 #[v, .func (.func 21) #[] #[.pointer (some ⟨bb, 0, none⟩)]] w fun e w' => w = w' ∧ ∃ r : Int, e = .returned (.int .i64 r) ∧ ((r = -1 ∧ T.any (fullB X) = false) ∨ 0 ≤ r ∧ T.any (fullB X) = true) := by
  obtain ⟨hl, ao, c, rfl, hcl⟩ := Src.nats hT
  have Hcl := Lib.hid hcl
  have Hl := Lib.hid hl
  have hf := fun (i : Nat) (r : Bool) (hi : i < X.length) (hr : fullB X i = r) => full_any b X i bb r w h hi hX hbb hr hs
  have Hf := Lib.hid hf
  have HTX := Lib.hid hTX
  clear hcl hT hl h hf hTX
  go_enter Try.func22, Try.ntmps22
  go_wp2_with fail
  go_loopw [8] (fun i wr => ∃ k : Nat, k ≤ m ∧ i = .int .i64 k ∧ Hid ((T.take k).any (fullB X) = false) ∧ w = wr) (fun i _ => m - (intOf i).toNat)
  case atStart => exact ⟨0, by omega, rfl, by simp [Hid], rfl⟩
  case round =>
    obtain ⟨k, hk, rfl, Hk, rfl⟩ := hrel
    by_cases h1 : k < m
    · obtain ⟨x, hx⟩ : ∃ x, T[k]? = some x := ⟨_, List.getElem?_eq_getElem (by rw [Hl.out]; exact h1)⟩
      obtain ⟨B, Of, rfl, hc⟩ := Hcl.out k x hx
      have hxX := HTX.out x (List.mem_of_getElem? hx)
      have Hx := Lib.hid hx
      clear hx
      cases hr : fullB X x with
      | true =>
        have hw1 := Hf.out x true hxX hr
        have Hr := Lib.hid hr
        clear hr
        go_wp2_with fail
        refine hw1.mono ?_
        rintro e w1 ⟨rfl, rfl⟩
        go_wp2_with fail
        go_ret
        refine ⟨rfl, k, rfl, .inr ⟨by omega, ?_⟩⟩
        rw [List.any_eq_true]
        exact ⟨x, List.mem_of_getElem? Hx.out, Hr.out⟩
      | false =>
        have hw1 := Hf.out x false hxX hr
        have Hr := Lib.hid hr
        clear hr
        go_wp2_with fail
        refine hw1.mono ?_
        rintro e w1 ⟨rfl, rfl⟩
        go_wp2_with fail
        go_roundw
        case rel => exact ⟨k + 1, by omega, by go_num, by
          show (T.take (k + 1)).any (fullB X) = false
          rw [List.take_add_one, Hx.out, List.any_append, Hk.out]
          simpa using Hr.out, trivial⟩
        case measure => simp [intOf]; omega
    · go_wp2_with fail
      go_ret
      refine ⟨rfl, -1, rfl, .inl ⟨rfl, ?_⟩⟩
      have h2 := Hk.out
      rw [List.take_of_length_le (by rw [Hl.out]; omega)] at h2
      exact h2
theorem contains_any {O : Nat → Prop} (b : Nat) (X : List (List Ml)) (bb : Nat) (v : Value) (m : Nat) (T : List Nat) (r : Bool) (w : World) (h : Bs O w b X) (hX : X.length ≤ 8) (hbb : w.heap[bb]? = some (.cells #[.pointer (some ⟨b, 0, none⟩)] 22 (0, 0))) (hs : ∀ L ∈ X, L.length ≤ 1000) (hT : Src w v m 1 (vN T)) (hm : m ≤ 1000) (hTX : ∀ i ∈ T, i < X.length) (hr : T.any (fullB X) = r) :
    Calls Try.prog 20 #[v, .func (.func 21) #[] #[.pointer (some ⟨bb, 0, none⟩)]] w fun e w' => e = .returned (.bool r) ∧ w = w' := by
  have hi := index_any b X bb v m T w h hX hbb hs hT hm hTX
  have Hi := Lib.hid hi
  have Hr := Lib.hid hr
  clear hi h hr hT
  go_enter Try.func20, Try.ntmps20
  go_wp2_with fail
  refine Hi.out.mono ?_
  rintro e w1 ⟨rfl, q, rfl, ⟨rfl, h1⟩ | ⟨h0, h1⟩⟩
  · obtain rfl : false = r := by rw [← Hr.out, h1]
    go_wp2_with fail
    go_ret
    exact ⟨rfl, rfl⟩
  · obtain rfl : true = r := by rw [← Hr.out, h1]
    go_wp2_with fail
    go_ret
    exact ⟨rfl, rfl⟩
end Go.Proofs.Ytfdnmgebpfopjaa

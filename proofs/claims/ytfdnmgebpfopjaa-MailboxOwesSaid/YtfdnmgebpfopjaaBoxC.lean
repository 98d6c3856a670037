/- Package mailbox: one is sent to some. -/
import Derived.Test.YtfdnmgebpfopjaaBoxB
set_option linter.all false
namespace Go.Proofs.Ytfdnmgebpfopjaa
open Go.RowKit

/-- One more in each box of some. -/
def addB (X : List (List Ml)) (m : Ml) (T : List Nat) : List (List Ml) := T.foldl (fun X i => X.set i (X.getD i [] ++ [m])) X
theorem addB_take {X : List (List Ml)} {m : Ml} {T : List Nat} {j i : Nat} (h : T[j]? = some i) : addB X m (T.take (j + 1)) = (addB X m (T.take j)).set i ((addB X m (T.take j)).getD i [] ++ [m]) := by
  unfold addB
  rw [List.take_add_one, h]
  simp
theorem addB_length (m : Ml) : ∀ (T : List Nat) (X : List (List Ml)), (addB X m T).length = X.length
  | [], X => rfl
  | i :: T, X => by
    show (addB (X.set i _) m T).length = _
    rw [addB_length m T, List.length_set]
theorem addB_size (m : Ml) (q : Nat) : ∀ (T : List Nat) (X : List (List Ml)), (∀ L ∈ X, L.length ≤ q) → ∀ L ∈ addB X m T, L.length ≤ q + T.length
  | [], X, h, L, hL => by simpa using h L hL
  | i :: T, X, h, L, hL => by
    have h2 : ∀ L ∈ X.set i (X.getD i [] ++ [m]), L.length ≤ q + 1 := by
      intro L hL
      rcases List.mem_or_eq_of_mem_set hL with h3 | h3
      · have := h L h3; omega
      · rw [h3, List.length_append]
        simp only [List.length_cons, List.length_nil]
        rcases Nat.lt_or_ge i X.length with h4 | h4
        · have h5 : X.getD i [] = X[i] := by rw [List.getD_eq_getElem?_getD, List.getElem?_eq_getElem h4]; rfl
          rw [h5]
          have := h X[i] (List.getElem_mem h4)
          omega
        · have h5 : X.getD i [] = [] := by rw [List.getD_eq_getElem?_getD, List.getElem?_eq_none h4]; rfl
          rw [h5]; simp
    have := addB_size m (q + 1) T _ h2 L hL
    simp only [List.length_cons]
    omega
theorem getD_at {X : List (List Ml)} {i : Nat} {L : List Ml} (h : X[i]? = some L) : X.getD i [] = L := by rw [List.getD_eq_getElem?_getD, h]; rfl
def sendB (X : List (List Ml)) (m : Ml) (T : List Nat) : Int × List (List Ml) := if T.any (fullB X) then (2, X) else (0, addB X m T)
theorem lies3 {w : World} {v : Value} {o : Obj} {g n cap : Nat} (h : v.ownBlock = some g ∨ g = w.heap.size + 1) : ∀ k, (Value.slice (some ⟨g, 0, none⟩) n cap).ownBlock = some k → v.ownBlock = some k ∨ (w.drew.alloc o).heap.size ≤ k := by
  intro k hk
  simp only [Value.ownBlock, Option.map_some, Option.some.injEq] at hk
  subst hk
  rcases h with h | h
  · exact .inl h
  · exact .inr (by simp; omega)

set_option maxRecDepth 100000 in
set_option maxHeartbeats 4000000 in
theorem send_any {O : Nat → Prop} (b : Nat) (X X' : List (List Ml)) (m : Ml) (v : Value) (tn : Nat) (T : List Nat) (er : Int) (w : World) (h : Bs O w b X) (hX : X.length ≤ 8) (hs : ∀ L ∈ X, L.length ≤ 64) (htn : tn ≤ 8) (hT : ∀ W, Kept (fun k => (O k ∧ k < w.heap.size) ∨ w.heap.size ≤ k) w W → Src W v tn 1 (vN T)) (hTX : ∀ i ∈ T, i < X.length) (he : sendB X m T = (er, X')) :
    Calls Try.prog 17 #[.pointer (some ⟨b, 0, none⟩), aggM m, v] w fun e w' => e = .returned (.int .i64 er) ∧ Bs (fun k => O k ∨ w.heap.size ≤ k) w' b X' ∧ Kept O w w' := by
  have k1 : New w (w.alloc (.cells #[.pointer (some ⟨b, 0, none⟩)] 22)) := (Kept.refl _ _).alloc _
  have k2 : New w ((w.alloc (.cells #[.pointer (some ⟨b, 0, none⟩)] 22)).alloc (blkM m)) := k1.alloc _
  have hsz : (w.alloc (.cells #[.pointer (some ⟨b, 0, none⟩)] 22)).heap.size = w.heap.size + 1 := Array.size_push ..
  obtain ⟨W, hW⟩ : ∃ W, W = (w.alloc (.cells #[.pointer (some ⟨b, 0, none⟩)] 22)).alloc (blkM m) := ⟨_, rfl⟩
  rw [← hW] at k2
  have hbb : W.heap[w.heap.size]? = some (.cells #[.pointer (some ⟨b, 0, none⟩)] 22 (0, 0)) := by rw [hW]; exact ((Kept.refl (fun _ => False) _).alloc _).heap (heap_alloc_new _ _) (fun h => h)
  have hmm : W.heap[w.heap.size + 1]? = some (blkM m) := by rw [hW, ← hsz]; exact heap_alloc_new _ _
  have hWs : W.heap.size = w.heap.size + 2 := by rw [hW, show ((w.alloc (.cells #[.pointer (some ⟨b, 0, none⟩)] 22)).alloc (blkM m)).heap.size = (w.alloc (.cells #[.pointer (some ⟨b, 0, none⟩)] 22)).heap.size + 1 from Array.size_push .., hsz]
  have hB := (h.sized).same k2
  have hbl : b < w.heap.size := by obtain ⟨g, vs, h⟩ := h; exact lt_of_heap h.hb
  have hTW := hT W (k2.mono (fun _ _ h => h.elim))
  obtain ⟨r, hr⟩ : ∃ r, T.any (fullB X) = r := ⟨_, rfl⟩
  have hcon := contains_any b X w.heap.size v tn T r W hB hX hbb (fun L hL => by have := hs L hL; omega) hTW (by omega) hTX hr
  obtain ⟨hTl, ao, c, rfl, hTc⟩ := Src.nats hTW
  have Hcon := Lib.hid hcon
  have HW := Lib.hid hW
  have Hbb := Lib.hid hbb
  have Hmm := Lib.hid hmm
  have HWs := Lib.hid hWs
  have HT := Lib.hid hT
  have HTX := Lib.hid hTX
  have HTl := Lib.hid hTl
  have Hhs := Lib.hid hs
  have HB := Lib.hid hB
  have K2 := Lib.hid k2
  unfold sendB at he
  clear hcon hW hbb hmm hWs hTX hTl hTc hB hsz k1 hTW hs hT h k2
  cases r with
  | true =>
    rw [if_pos hr] at he
    simp only [Prod.mk.injEq] at he
    obtain ⟨rfl, rfl⟩ := he
    clear hr
    go_enter Try.func17, Try.ntmps17
    go_wp2_with fail
    have hW2 := HW.out
    simp only [blkM] at hW2
    rw [← hW2]
    clear hW2
    refine Hcon.out.mono ?_
    rintro e w1 ⟨rfl, rfl⟩
    go_wp2_with fail
    go_ret
    exact ⟨rfl, HB.out.mono (fun _ h => .inl h.1), K2.out.mono (fun _ _ h => h.elim)⟩
  | false =>
    rw [if_neg (by rw [hr]; decide)] at he
    simp only [Prod.mk.injEq] at he
    obtain ⟨rfl, rfl⟩ := he
    clear hr
    go_enter Try.func17, Try.ntmps17
    go_wp2_with fail
    have hW2 := HW.out
    simp only [blkM] at hW2
    rw [← hW2]
    clear hW2
    refine Hcon.out.mono ?_
    rintro e w1 ⟨rfl, rfl⟩
    go_wp2_with fail
    go_loopw [14] (fun i wr => ∃ j : Nat, j ≤ tn ∧ i = .int .i64 j ∧ Bs (fun k => (O k ∧ k < w.heap.size) ∨ w.heap.size + 2 ≤ k) wr b (addB X m (T.take j)) ∧ Kept (fun k => (O k ∧ k < w.heap.size) ∨ w.heap.size + 2 ≤ k) W wr) (fun i _ => tn - (intOf i).toNat)
    case atStart => exact ⟨0, by omega, rfl, HB.out.mono (fun _ h => .inl h), Kept.refl _ _⟩
    case round =>
      obtain ⟨j, hj, rfl, ⟨g, vs, hw⟩, hkr⟩ := hrel
      by_cases h1 : j < tn
      · obtain ⟨i, hi⟩ : ∃ i, T[j]? = some i := ⟨_, List.getElem?_eq_getElem (by rw [HTl.out]; exact h1)⟩
        have hsT := HT.out wr ((K2.out.mono (fun _ _ h => h.elim)).trans' hkr (fun k _ h => h.imp id (fun h => by omega)))
        obtain ⟨-, ao', c', he, hcl⟩ := Src.nats hsT
        cases he
        obtain ⟨B, Of, rfl, ct⟩ := hcl j i hi
        have hiX := HTX.out i (List.mem_of_getElem? hi)
        have hxl := addB_length m (T.take j) X
        obtain ⟨L, hL⟩ : ∃ L, (addB X m (T.take j))[i]? = some L := ⟨_, List.getElem?_eq_getElem (by rw [hxl]; exact hiX)⟩
        have hL9 : L.length ≤ 1000 := by
          have := addB_size m 64 (T.take j) X Hhs.out L (List.mem_of_getElem? hL)
          rw [List.length_take] at this
          omega
        obtain ⟨aL, cL, hvi, ci, hown⟩ := hw.at hL
        have hbr := hw.hb
        have hgr0 := hw.hg
        obtain ⟨curg, hgh, -, -⟩ := hgr0.ex
        have hnb := fun k (hk : (Value.slice aL L.length cL).ownBlock = some k) => hw.nb hvi hk
        have hgb := hw.bg
        rw [hxl] at hbr
        obtain ⟨n, hn⟩ : ∃ n, n = X.length := ⟨_, rfl⟩
        obtain ⟨l, hl⟩ : ∃ l, l = L.length := ⟨_, rfl⟩
        have Hl := Lib.hid hl
        rw [← hn] at hbr hiX hX
        rw [← hl] at ci hown hvi hnb hL9
        have c0 := cell_blk hbr 0
        have hbb2 := hkr.heap Hbb.out (fun h => by rcases h with h | h <;> omega)
        have hmm2 := hkr.heap Hmm.out (fun h => by rcases h with h | h <;> omega)
        have cb := cell_blk hbb2 0
        obtain ⟨cm0, cm1, cm2⟩ := of3 hmm2
        have hx2 := addB_take (X := X) (m := m) hi
        have Hx2 := Lib.hid hx2
        have HL := Lib.hid hL
        have Hw := Lib.hid hw
        have Hown := Lib.hid hown
        have Hvi := Lib.hid hvi
        have Hnb := Lib.hid hnb
        obtain ⟨i30, hi30, hz0, hz1, hz2⟩ := info_parts info30
        have kA : New wr (wr.drew.alloc (blkM m)) := (Kept.refl _ _).drew.alloc _
        have hbA := kA.heap hbr (fun h => h)
        have hgA := kA.heap hgh (fun h => h)
        have hbbA := kA.heap hbb2 (fun h => h)
        have a0 := cell_blk (((Kept.refl (fun _ => False) wr).alloc (blkM m)).heap hbr (fun h => h)) 0
        have ab := cell_blk (((Kept.refl (fun _ => False) wr).alloc (blkM m)).heap hbb2 (fun h => h)) 0
        have ai := cell_kept ((Kept.refl (fun _ => False) wr).alloc (blkM m)) ci (fun h => h)
        have hbrl := lt_of_heap hbr
        have hgl := lt_of_heap hgh
        have hbbl := lt_of_heap hbb2
        have hmml := lt_of_heap hmm2
        have hiz : (i : Int) < n := by omega
        have hblk : ∀ k, (Value.slice aL l cL).ownBlock = some k → k < w.heap.size ∨ w.heap.size + 2 ≤ k := fun k hk => (hw.blk i _ k hvi hk).imp (fun h => h.2) id
        have hgO : g < w.heap.size ∨ w.heap.size + 2 ≤ g := hw.og.imp (fun h => h.2) id
        have hsk : ∀ W', Kept (fun k => (Value.slice aL l cL).ownBlock = some k ∨ k = g) wr W' → W'.cell? ⟨w.heap.size, 0, none⟩ = some (.pointer (some ⟨b, 0, none⟩)) ∧ W'.cell? ⟨b, 0, none⟩ = some (.slice (some ⟨g, 0, none⟩) n n) ∧ W'.cell? ⟨w.heap.size + 1, 0, none⟩ = some (.int .i64 m.fr) ∧ W'.cell? ⟨w.heap.size + 1, 1, none⟩ = some (.int .i64 m.kd) ∧ W'.cell? ⟨w.heap.size + 1, 2, none⟩ = some (.int .i64 m.ab) := fun W' hk => ⟨cell_kept hk cb (fun h => h.elim (fun e => by have h9 : w.heap.size < w.heap.size ∨ w.heap.size + 2 ≤ w.heap.size := hblk _ e; omega) (fun e => by have h9 : w.heap.size = g := e; omega)), cell_kept hk c0 (fun h => h.elim (fun e => (hnb b e).1 rfl) (fun e => hgb e.symm)), cell_kept hk cm0 (fun h => h.elim (fun e => by have h9 : w.heap.size + 1 < w.heap.size ∨ w.heap.size + 2 ≤ w.heap.size + 1 := hblk _ e; omega) (fun e => by have h9 : w.heap.size + 1 = g := e; omega)), cell_kept hk cm1 (fun h => h.elim (fun e => by have h9 : w.heap.size + 1 < w.heap.size ∨ w.heap.size + 2 ≤ w.heap.size + 1 := hblk _ e; omega) (fun e => by have h9 : w.heap.size + 1 = g := e; omega)), cell_kept hk cm2 (fun h => h.elim (fun e => by have h9 : w.heap.size + 1 < w.heap.size ∨ w.heap.size + 2 ≤ w.heap.size + 1 := hblk _ e; omega) (fun e => by have h9 : w.heap.size + 1 = g := e; omega))⟩
        have Hsk := Lib.hid hsk
        have q0 : Kept (fun k => (Value.slice aL l cL).ownBlock = some k ∨ k = g) wr wr := Kept.refl _ _
        have q1 : Kept (fun k => (Value.slice aL l cL).ownBlock = some k ∨ k = g) wr wr.drew := (Kept.refl _ _).drew
        have q2 : Kept (fun k => (Value.slice aL l cL).ownBlock = some k ∨ k = g) wr (wr.alloc (blkM m)) := (Kept.refl _ _).alloc _
        have q3 : Kept (fun k => (Value.slice aL l cL).ownBlock = some k ∨ k = g) wr (wr.drew.alloc (blkM m)) := (Kept.refl _ _).drew.alloc _
        clear hsk hblk hgO
        clear hw hL hvi hown hnb hl hn hi hx2 hgr0 hxl hsT hcl
        go_wp2_with fail
        refine wp_region_held_drew (S := fun W' => W'.cell? ⟨w.heap.size, 0, none⟩ = some (.pointer (some ⟨b, 0, none⟩)) ∧ W'.cell? ⟨b, 0, none⟩ = some (.slice (some ⟨g, 0, none⟩) n n) ∧ W'.cell? ⟨w.heap.size + 1, 0, none⟩ = some (.int .i64 m.fr) ∧ W'.cell? ⟨w.heap.size + 1, 1, none⟩ = some (.int .i64 m.kd) ∧ W'.cell? ⟨w.heap.size + 1, 2, none⟩ = some (.int .i64 m.ab)) (by kernel_rfl) (Hsk.out _ q1) (fun hHeld => ?_)
        refine wpAnyH_take (i := 0) (v := .pointer (some ⟨b, 0, none⟩)) rfl (by kernel_rfl) (by kernel_rfl) (by kernel_rfl) (fun _ _ _ h => h) (Or.inl ⟨by rfl, ?_⟩) hHeld ?_
        · intro W' hSW; clear hHeld; obtain ⟨z0, z1, z2, z3, z4⟩ := hSW; go_simp
        try simp only [Act.put, List.getElem_toArray, List.getElem_cons_zero, List.getElem_cons_succ, List.setIfInBounds_toArray, List.set_cons_zero, List.set_cons_succ]
        refine wpAnyH_take (i := 1) (v := .pointer (some ⟨b, 0, none⟩)) rfl (by kernel_rfl) (by kernel_rfl) (by kernel_rfl) (fun _ _ _ h => h) (Or.inl ⟨by rfl, ?_⟩) hHeld ?_
        · intro W' hSW; clear hHeld; obtain ⟨z0, z1, z2, z3, z4⟩ := hSW; go_simp
        try simp only [Act.put, List.getElem_toArray, List.getElem_cons_zero, List.getElem_cons_succ, List.setIfInBounds_toArray, List.set_cons_zero, List.set_cons_succ]
        refine wpAnyH_take (i := 2) (v := .pointer (some ⟨b, 0, none⟩)) rfl (by kernel_rfl) (by kernel_rfl) (by kernel_rfl) (fun _ _ _ h => h) (Or.inl ⟨by rfl, ?_⟩) hHeld ?_
        · intro W' hSW; clear hHeld; obtain ⟨z0, z1, z2, z3, z4⟩ := hSW; go_simp
        try simp only [Act.put, List.getElem_toArray, List.getElem_cons_zero, List.getElem_cons_succ, List.setIfInBounds_toArray, List.set_cons_zero, List.set_cons_succ]
        refine wpAnyH_take (i := 3) (v := .slice (some ⟨g, 0, none⟩) n n) rfl (by kernel_rfl) (by kernel_rfl) (by kernel_rfl) (fun _ _ _ h => h) (Or.inl ⟨by rfl, ?_⟩) hHeld ?_
        · intro W' hSW; clear hHeld; obtain ⟨z0, z1, z2, z3, z4⟩ := hSW; go_simp
        try simp only [Act.put, List.getElem_toArray, List.getElem_cons_zero, List.getElem_cons_succ, List.setIfInBounds_toArray, List.set_cons_zero, List.set_cons_succ]
        refine wpAnyH_take (i := 4) (v := .int .i64 (i : Int)) rfl (by kernel_rfl) (by kernel_rfl) (by kernel_rfl) (fun _ _ _ h => h) (Or.inl ⟨by rfl, ?_⟩) hHeld ?_
        · intro W' hSW; clear hHeld; obtain ⟨z0, z1, z2, z3, z4⟩ := hSW; go_simp
        try simp only [Act.put, List.getElem_toArray, List.getElem_cons_zero, List.getElem_cons_succ, List.setIfInBounds_toArray, List.set_cons_zero, List.set_cons_succ]
        refine wpAnyH_take (i := 5) (v := .pointer (some ⟨b, 0, none⟩)) rfl (by kernel_rfl) (by kernel_rfl) (by kernel_rfl) (fun _ _ _ h => h) (Or.inl ⟨by rfl, ?_⟩) hHeld ?_
        · intro W' hSW; clear hHeld; obtain ⟨z0, z1, z2, z3, z4⟩ := hSW; go_simp
        try simp only [Act.put, List.getElem_toArray, List.getElem_cons_zero, List.getElem_cons_succ, List.setIfInBounds_toArray, List.set_cons_zero, List.set_cons_succ]
        refine wpAnyH_take (i := 6) (v := .pointer (some ⟨b, 0, none⟩)) rfl (by kernel_rfl) (by kernel_rfl) (by kernel_rfl) (fun _ _ _ h => h) (Or.inl ⟨by rfl, ?_⟩) hHeld ?_
        · intro W' hSW; clear hHeld; obtain ⟨z0, z1, z2, z3, z4⟩ := hSW; go_simp
        try simp only [Act.put, List.getElem_toArray, List.getElem_cons_zero, List.getElem_cons_succ, List.setIfInBounds_toArray, List.set_cons_zero, List.set_cons_succ]
        refine wpAnyH_take (i := 7) (v := .pointer (some ⟨b, 0, none⟩)) rfl (by kernel_rfl) (by kernel_rfl) (by kernel_rfl) (fun _ _ _ h => h) (Or.inl ⟨by rfl, ?_⟩) hHeld ?_
        · intro W' hSW; clear hHeld; obtain ⟨z0, z1, z2, z3, z4⟩ := hSW; go_simp
        try simp only [Act.put, List.getElem_toArray, List.getElem_cons_zero, List.getElem_cons_succ, List.setIfInBounds_toArray, List.set_cons_zero, List.set_cons_succ]
        refine wpAnyH_take (i := 8) (v := .slice (some ⟨g, 0, none⟩) n n) rfl (by kernel_rfl) (by kernel_rfl) (by kernel_rfl) (fun _ _ _ h => h) (Or.inl ⟨by rfl, ?_⟩) hHeld ?_
        · intro W' hSW; clear hHeld; obtain ⟨z0, z1, z2, z3, z4⟩ := hSW; go_simp
        try simp only [Act.put, List.getElem_toArray, List.getElem_cons_zero, List.getElem_cons_succ, List.setIfInBounds_toArray, List.set_cons_zero, List.set_cons_succ]
        refine wpAnyH_take (i := 9) (v := .int .i64 (i : Int)) rfl (by kernel_rfl) (by kernel_rfl) (by kernel_rfl) (fun _ _ _ h => h) (Or.inl ⟨by rfl, ?_⟩) hHeld ?_
        · intro W' hSW; clear hHeld; obtain ⟨z0, z1, z2, z3, z4⟩ := hSW; go_simp
        try simp only [Act.put, List.getElem_toArray, List.getElem_cons_zero, List.getElem_cons_succ, List.setIfInBounds_toArray, List.set_cons_zero, List.set_cons_succ]
        refine wpAnyH_take (i := 10) (v := .pointer (some ⟨g, i, none⟩)) rfl (by kernel_rfl) (by kernel_rfl) (by kernel_rfl) (fun _ _ _ h => h) (Or.inl ⟨by rfl, ?_⟩) hHeld ?_
        · intro W' hSW; clear hHeld; obtain ⟨z0, z1, z2, z3, z4⟩ := hSW; go_simp
        try simp only [Act.put, List.getElem_toArray, List.getElem_cons_zero, List.getElem_cons_succ, List.setIfInBounds_toArray, List.set_cons_zero, List.set_cons_succ]
        refine wpAnyH_take (i := 12) (v := aggM m) rfl (by kernel_rfl) (by kernel_rfl) (by kernel_rfl) (fun _ _ _ h => h) (Or.inl ⟨by rfl, ?_⟩) hHeld ?_
        · intro W' hSW; clear hHeld; obtain ⟨z0, z1, z2, z3, z4⟩ := hSW; go_simp
        try simp only [Act.put, List.getElem_toArray, List.getElem_cons_zero, List.getElem_cons_succ, List.setIfInBounds_toArray, List.set_cons_zero, List.set_cons_succ]
        refine wpAnyH_ready (rs := [11, 13]) (by kernel_rfl) (by simp) ?_
        refine AllReadyH.cons rfl (fun K hK => ?_) (AllReadyH.cons rfl (fun K hK => ?_) AllReadyH.nil)
        · go_simp
          refine hK.out _ _ (Hsk.out _ q1) (fun hHeld => ?_)
          clear hK K
          try simp only [Act.put, List.getElem_toArray, List.getElem_cons_zero, List.getElem_cons_succ, List.setIfInBounds_toArray, List.set_cons_zero, List.set_cons_succ]
          refine wpAnyH_ready (rs := [13]) (by kernel_rfl) (by simp) ?_
          refine AllReadyH.cons rfl (fun K hK => ?_) AllReadyH.nil
          go_simp
          refine hK.out _ _ (Hsk.out _ q3) (fun hHeld => ?_)
          clear hK K
          try simp only [Act.put, List.getElem_toArray, List.getElem_cons_zero, List.getElem_cons_succ, List.setIfInBounds_toArray, List.set_cons_zero, List.set_cons_succ]
          refine wpAnyH_ready (rs := [14]) (by kernel_rfl) (by simp) ?_
          refine AllReadyH.cons rfl (fun K hK => ?_) AllReadyH.nil
          refine step_append_lies _ (by rfl) _ _ _ (by rfl) 0 30 i30 (aggM ⟨0, 0, 0⟩) 3 24 Try.underlying38 hi30 hz0 hz1 hz2 rfl (by decide) _ l (L.flatMap encM) (by rfl) (own_same Hown.out kA) ⟨wr.heap.size, 0, none⟩ 1 1 (encM m) (by rfl) rfl (World.news_of_block (heap_alloc_new wr (blkM m))) (encM_one1 m) (by decide) (by simp [maxLen]; omega) (by omega) (by simp) (wr.heap.size + 1) (by simp) ?_
          intro g5 cap5 w5 hown' hgr hat hlt5
          have kG := Kept.of_grown hgr
          have q4 : Kept (fun k => (Value.slice aL l cL).ownBlock = some k ∨ k = g) wr w5 := (kA.mono (fun _ _ h => h.elim)).trans' kG (fun _ _ h => .inl h)
          have hg5 := kG.heap hgA (fun e => (Hnb.out g e).2 rfl)
          have ef := frozen_of_row w5 g i curg 38 hg5
          have ei := cell_kept kG (cell_kept kA ci (fun h => h)) (fun e => (Hnb.out g e).2 rfl)
          have q5 : Kept (fun k => (Value.slice aL l cL).ownBlock = some k ∨ k = g) wr (w5.setCell ⟨g, i, none⟩ (.slice (some ⟨g5, 0, none⟩) (l + 1) cap5)) := q4.trans' ((Kept.refl (fun k => k = g) w5).setCell (.inr rfl) _) (fun _ _ h => .inr h)
          refine hK.out _ _ (Hsk.out _ q4) (fun hHeld => ?_)
          clear hK K
          try simp only [Act.put, List.getElem_toArray, List.getElem_cons_zero, List.getElem_cons_succ, List.setIfInBounds_toArray, List.set_cons_zero, List.set_cons_succ]
          refine wpAnyH_take (i := 15) (v := .pointer (some ⟨g, i, none⟩)) rfl (by kernel_rfl) (by kernel_rfl) (by kernel_rfl) (fun _ _ _ h => h) (Or.inl ⟨by rfl, ?_⟩) hHeld ?_
          · intro W' hSW; clear hHeld; obtain ⟨z0, z1, z2, z3, z4⟩ := hSW; go_simp
          try simp only [Act.put, List.getElem_toArray, List.getElem_cons_zero, List.getElem_cons_succ, List.setIfInBounds_toArray, List.set_cons_zero, List.set_cons_succ]
          refine wpAnyH_ready (rs := [16]) (by kernel_rfl) (by simp) ?_
          refine AllReadyH.cons rfl (fun K hK => ?_) AllReadyH.nil
          go_simp
          refine hK.out _ _ (Hsk.out _ q5) (fun hHeld => ?_)
          clear hK K
          try simp only [Act.put, List.getElem_toArray, List.getElem_cons_zero, List.getElem_cons_succ, List.setIfInBounds_toArray, List.set_cons_zero, List.set_cons_succ]
          refine wpAnyH_done (by kernel_rfl) ?_ _
          have hid := lies3 (o := blkM m) (n := l + 1) (cap := cap5) hat
          obtain ⟨hw2, hk2⟩ := Bw.put Hw.out Hvi.out HL.out ((kA.mono (fun _ _ h => h.elim)).trans' kG (fun _ _ h => h)) (v' := .slice (some ⟨g5, 0, none⟩) (l + 1) cap5) (L' := L ++ [m]) (by rw [List.length_append, ← Hl.out, encM_snoc]; exact hown') (fun k hk => (hid k hk).imp id (fun h => Nat.le_trans kA.size h))
          have hws := hkr.size
          have HWsz := HWs.out
          have hw3 := hw2.mono (O' := fun k => (O k ∧ k < w.heap.size) ∨ w.heap.size + 2 ≤ k) (fun k h => h.elim id (fun h => .inr (by omega)))
          have hk3 := hkr.trans hk2
          have Hw3 := Lib.hid hw3
          have Hk3 := Lib.hid hk3
          clear hw2 hk2 hw3 hk3 hHeld hown' hgr hat hlt5 kG q4 q5 hg5 ef ei hid
          go_wp2_with fail
          go_roundw
          case rel => exact ⟨j + 1, by omega, by go_num, ⟨g, _, by rw [Hx2.out, getD_at HL.out]; exact Hw3.out⟩, Hk3.out⟩
          case measure => simp [intOf]; omega
        · go_simp
          refine hK.out _ _ (Hsk.out _ q3) (fun hHeld => ?_)
          clear hK K
          try simp only [Act.put, List.getElem_toArray, List.getElem_cons_zero, List.getElem_cons_succ, List.setIfInBounds_toArray, List.set_cons_zero, List.set_cons_succ]
          refine wpAnyH_ready (rs := [11]) (by kernel_rfl) (by simp) ?_
          refine AllReadyH.cons rfl (fun K hK => ?_) AllReadyH.nil
          go_simp
          refine hK.out _ _ (Hsk.out _ q3) (fun hHeld => ?_)
          clear hK K
          try simp only [Act.put, List.getElem_toArray, List.getElem_cons_zero, List.getElem_cons_succ, List.setIfInBounds_toArray, List.set_cons_zero, List.set_cons_succ]
          refine wpAnyH_ready (rs := [14]) (by kernel_rfl) (by simp) ?_
          refine AllReadyH.cons rfl (fun K hK => ?_) AllReadyH.nil
          refine step_append_lies _ (by rfl) _ _ _ (by rfl) 0 30 i30 (aggM ⟨0, 0, 0⟩) 3 24 Try.underlying38 hi30 hz0 hz1 hz2 rfl (by decide) _ l (L.flatMap encM) (by rfl) (own_same Hown.out kA) ⟨wr.heap.size, 0, none⟩ 1 1 (encM m) (by rfl) rfl (World.news_of_block (heap_alloc_new wr (blkM m))) (encM_one1 m) (by decide) (by simp [maxLen]; omega) (by omega) (by simp) (wr.heap.size + 1) (by simp) ?_
          intro g5 cap5 w5 hown' hgr hat hlt5
          have kG := Kept.of_grown hgr
          have q4 : Kept (fun k => (Value.slice aL l cL).ownBlock = some k ∨ k = g) wr w5 := (kA.mono (fun _ _ h => h.elim)).trans' kG (fun _ _ h => .inl h)
          have hg5 := kG.heap hgA (fun e => (Hnb.out g e).2 rfl)
          have ef := frozen_of_row w5 g i curg 38 hg5
          have ei := cell_kept kG (cell_kept kA ci (fun h => h)) (fun e => (Hnb.out g e).2 rfl)
          have q5 : Kept (fun k => (Value.slice aL l cL).ownBlock = some k ∨ k = g) wr (w5.setCell ⟨g, i, none⟩ (.slice (some ⟨g5, 0, none⟩) (l + 1) cap5)) := q4.trans' ((Kept.refl (fun k => k = g) w5).setCell (.inr rfl) _) (fun _ _ h => .inr h)
          refine hK.out _ _ (Hsk.out _ q4) (fun hHeld => ?_)
          clear hK K
          try simp only [Act.put, List.getElem_toArray, List.getElem_cons_zero, List.getElem_cons_succ, List.setIfInBounds_toArray, List.set_cons_zero, List.set_cons_succ]
          refine wpAnyH_take (i := 15) (v := .pointer (some ⟨g, i, none⟩)) rfl (by kernel_rfl) (by kernel_rfl) (by kernel_rfl) (fun _ _ _ h => h) (Or.inl ⟨by rfl, ?_⟩) hHeld ?_
          · intro W' hSW; clear hHeld; obtain ⟨z0, z1, z2, z3, z4⟩ := hSW; go_simp
          try simp only [Act.put, List.getElem_toArray, List.getElem_cons_zero, List.getElem_cons_succ, List.setIfInBounds_toArray, List.set_cons_zero, List.set_cons_succ]
          refine wpAnyH_ready (rs := [16]) (by kernel_rfl) (by simp) ?_
          refine AllReadyH.cons rfl (fun K hK => ?_) AllReadyH.nil
          go_simp
          refine hK.out _ _ (Hsk.out _ q5) (fun hHeld => ?_)
          clear hK K
          try simp only [Act.put, List.getElem_toArray, List.getElem_cons_zero, List.getElem_cons_succ, List.setIfInBounds_toArray, List.set_cons_zero, List.set_cons_succ]
          refine wpAnyH_done (by kernel_rfl) ?_ _
          have hid := lies3 (o := blkM m) (n := l + 1) (cap := cap5) hat
          obtain ⟨hw2, hk2⟩ := Bw.put Hw.out Hvi.out HL.out ((kA.mono (fun _ _ h => h.elim)).trans' kG (fun _ _ h => h)) (v' := .slice (some ⟨g5, 0, none⟩) (l + 1) cap5) (L' := L ++ [m]) (by rw [List.length_append, ← Hl.out, encM_snoc]; exact hown') (fun k hk => (hid k hk).imp id (fun h => Nat.le_trans kA.size h))
          have hws := hkr.size
          have HWsz := HWs.out
          have hw3 := hw2.mono (O' := fun k => (O k ∧ k < w.heap.size) ∨ w.heap.size + 2 ≤ k) (fun k h => h.elim id (fun h => .inr (by omega)))
          have hk3 := hkr.trans hk2
          have Hw3 := Lib.hid hw3
          have Hk3 := Lib.hid hk3
          clear hw2 hk2 hw3 hk3 hHeld hown' hgr hat hlt5 kG q4 q5 hg5 ef ei hid
          go_wp2_with fail
          go_roundw
          case rel => exact ⟨j + 1, by omega, by go_num, ⟨g, _, by rw [Hx2.out, getD_at HL.out]; exact Hw3.out⟩, Hk3.out⟩
          case measure => simp [intOf]; omega
      · obtain rfl : j = tn := by omega
        go_wp2_with fail
        go_ret
        refine ⟨rfl, ?_, ?_⟩
        · have h9 : T.take j = T := List.take_of_length_le (by rw [HTl.out]; omega)
          rw [← h9]
          exact Bs.mono ⟨g, vs, hw⟩ (fun k h => h.imp (fun h => h.1) (fun h => by omega))
        · exact (K2.out.mono (fun _ _ h => h.elim)).trans' hkr (fun k hk h => h.elim (fun h => h.1) (fun h => by omega))
end Go.Proofs.Ytfdnmgebpfopjaa

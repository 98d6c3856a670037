/- The walk of the law EndpointBadges. -/
import Derived.Test.YtanongcaokldmaaEndK
set_option linter.all false
namespace Go.Proofs.Ytanongcaokldmaa
open Go.RowKit

/-- Nobody waits with the badge; who waits sends. -/
def NoB (sd : Bool) (M : List On) (s : Int) : Prop := (M = [] ∨ sd = true) ∧ ∀ x ∈ M, (x.bg == s) = false
theorem NoB.send {sd sd' wa : Bool} {M M' : List On} {x : On} {s : Int} {r : Bool × Int × Int × On × Int} (h : NoB sd M s) (hx : (x.bg == s) = false) (he : sendE sd M x wa = (r, sd', M')) : NoB sd' M' s := by
  unfold sendE at he
  obtain ⟨h1, h2⟩ := h
  split at he
  · simp only [Prod.mk.injEq] at he; obtain ⟨-, rfl, rfl⟩ := he; exact ⟨h1, h2⟩
  · split at he
    · rename_i h3
      exact (h1.elim (fun h => h3.2 h) (fun h => by rw [h] at h3; cases h3.1)).elim
    · split at he
      · simp only [Prod.mk.injEq] at he
        obtain ⟨-, rfl, rfl⟩ := he
        refine ⟨.inr rfl, fun y hy => ?_⟩
        rcases List.mem_append.1 hy with hy | hy
        · exact h2 y hy
        · rw [List.mem_singleton.1 hy]; exact hx
      · simp only [Prod.mk.injEq] at he; obtain ⟨-, rfl, rfl⟩ := he; exact ⟨h1, h2⟩
theorem NoB.badge {sd : Bool} {M : List On} {s : Int} (h : NoB sd M s) : badgeE sd M s = ([], M) := by
  unfold badgeE
  split
  · rw [hasB_nil h.2]
    have : M.filter (fun x => !(x.bg == s)) = M := by
      rw [List.filter_eq_self]
      intro x hx
      rw [h.2 x hx]; rfl
    rw [this]
  · rfl
theorem sendE_er {sd wa sd' m1 : Bool} {m2 m3 er : Int} {m4 : On} {M M' : List On} {x : On} (he : sendE sd M x wa = ((m1, m2, m3, m4, er), sd', M')) : er = 0 ∨ er = 110 := by
  unfold sendE at he
  split at he
  · simp only [Prod.mk.injEq] at he; exact .inr he.1.2.2.2.2.symm
  · split at he
    · simp only [Prod.mk.injEq] at he; exact .inl he.1.2.2.2.2.symm
    · split at he
      · simp only [Prod.mk.injEq] at he; exact .inl he.1.2.2.2.2.symm
      · simp only [Prod.mk.injEq] at he; exact .inl he.1.2.2.2.2.symm
theorem wrapu (n : Int) : IntKind.u64.wrap n = n % 18446744073709551616 := by simp [IntKind.wrap, IntKind.bits, IntKind.signed]
theorem next_ne {s nb : Int} (hwf : (Lit.int .u64 s).wf = true) (h : IntKind.u64.wrap (s + 1) = nb) : (nb == s) = false := by
  rw [wrapu] at h
  have h1 : IntKind.u64.min ≤ s ∧ s ≤ IntKind.u64.max := by simpa [Lit.wf] using hwf
  have h2 : IntKind.u64.min = 0 := rfl
  have h3 : IntKind.u64.max = 18446744073709551615 := rfl
  simp only [beq_eq_false_iff_ne, ne_eq]
  omega

set_option maxRecDepth 100000 in
set_option maxHeartbeats 8000000 in
theorem walkEndpointBadges (w : World) (v : Value) (rows : List (List Value)) (hs : Src w v rows.length 10 rows.flatten) (hr : ∀ x ∈ rows, FlatOk [.int .i64, .int .i64, .int .i64, .int .u64, .int .u64, .int .u64, .int .u64, .int .u64, .bool, .bool] x) (hm : rows.length ≤ maxLen) (s : Int) (hwf : (Lit.int .u64 s).wf = true) :
    Calls Try.prog 7 #[v, .int .u64 s] w fun e w' => e = .returned (.bool true) ∧ Below w.heap.size w w' := by
  obtain ⟨L, hfl, hll, -⟩ := ops_of_rows hr
  rw [hfl] at hs
  obtain ⟨len, hlen⟩ : ∃ len, len = rows.length := ⟨_, rfl⟩
  rw [← hlen] at hs hm hll
  clear hr hfl hlen
  have Hs := Lib.hid hs
  obtain ⟨-, ao, c, rfl, hcells⟩ := Src.ops hs
  have Hll := Lib.hid hll
  have hlenm : len ≤ 9223372036854775807 := by have : maxLen = 9223372036854775807 := rfl; omega
  obtain ⟨nb, hnb⟩ : ∃ nb, IntKind.u64.wrap (s + 1) = nb := ⟨_, rfl⟩
  have hnn := next_ne hwf hnb
  clear hs hll hcells hm hwf
  go_enter Try.func7, Try.ntmps7
  go_wp2_with fail
  refine (new_any w).mono ?_
  rintro e w1 ⟨rfl, hN, hk1⟩
  obtain ⟨b, hb⟩ : ∃ b, b = w.heap.size := ⟨_, rfl⟩
  rw [← hb] at hN ⊢
  have Hb := Lib.hid hb
  clear hb
  go_wp2_with fail
  refine (new_any w1).mono ?_
  rintro e w2 ⟨rfl, hN2, hk2⟩
  have hS : Sep (EP w1.heap.size false []) (EP b false []) (fun k => w.heap.size ≤ k) w2 := Sep.fresh (EP.ok _ _ _) (show EP b false [] (fun k => w.heap.size ≤ k) w1 from hN.mono (fun k hk => by have := Hb.out; omega)) hN2 hk2 (fun k hk => Nat.le_trans hk1.size hk)
  replace hk2 := hk1.trans hk2
  obtain ⟨b2, hb2⟩ : ∃ b, b = w1.heap.size := ⟨_, rfl⟩
  rw [← hb2] at hS ⊢
  replace hS := hS.swap
  clear hb2 hN hN2 hk1
  go_wp2_with fail
  go_loopw [7] (fun i wr => ∃ (k : Nat) (sd : Bool) (M : List On) (F : List Int), k ≤ 30 ∧ k ≤ len ∧ i = .int .i64 k ∧ M.length ≤ k ∧ F.length ≤ k ∧ Hid (NoB sd M s) ∧ New w wr ∧ Sep (EP b sd M) (EP b2 false (F.map RO)) (fun k => w.heap.size ≤ k) wr) (fun i _ => 30 - (intOf i).toNat)
  case atStart => exact ⟨0, false, [], [], by omega, by omega, rfl, by simp, by simp, ⟨.inl rfl, by simp⟩, hk2, hS⟩
  case round =>
    clear hS hk2
    obtain ⟨k, sd, M, F, hk6, hk, rfl, hMk, hFk, hno, hkr, hS⟩ := hrel
    by_cases h1 : k < len ∧ k < 30
    · obtain ⟨h1, h2⟩ := h1
      have h2' : (k : Int) < 30 := by omega
      obtain ⟨z, hz⟩ : ∃ z, L[k]? = some z := ⟨_, List.getElem?_eq_getElem (by have := Hll.out; omega)⟩
      obtain ⟨ao', c', he, hcl⟩ := (Src.ops Hs.out).2
      cases he
      obtain ⟨B, Of, rfl, c0, c1, c2, c3, c4, c5, c6, c7, c8, c9⟩ := hcl k z hz
      have HB := Lib.hid (fun W' (hk : New w W') => (cell_kept hk c1 (fun h => h) : W'.cell? ⟨B, Of + k * 10 + 1, none⟩ = some (.int .i64 z.x.who)))
      obtain ⟨O1, O2, g1, g2, g3, g4⟩ := hS
      replace g1 : Ep (fun k => O1 k ∧ k < wr.heap.size) wr b sd M := Ep.sized g1
      replace g3 : ∀ k, (O1 k ∧ k < wr.heap.size) → w.heap.size ≤ k ∧ ¬ O2 k := fun k hk => g3 k hk.1
      have G1 := Lib.hid g1
      have G2 := Lib.hid g2
      have G3 := Lib.hid g3
      have G4 := Lib.hid g4
      have d2 := cell_kept hkr c2 (fun h => h)
      have d3 := cell_kept hkr c3 (fun h => h)
      have d4 := cell_kept hkr c4 (fun h => h)
      have d5 := cell_kept hkr c5 (fun h => h)
      have d6 := cell_kept hkr c6 (fun h => h)
      have d7 := cell_kept hkr c7 (fun h => h)
      have d8 := cell_kept hkr c8 (fun h => h)
      have Hno := Lib.hid hno
      clear hcl hz c0 c1 c2 c3 c4 c5 c6 c7 c8 c9 g1 g2 g3 g4 hno
      cases hh : (z.x.bg == s) with
      | true =>
        have heq : z.x.bg = s := by simpa using hh
        clear hh
        rw [heq] at d7
        obtain ⟨x, hx⟩ : ∃ x : On, x = ⟨z.x.who, z.x.la, z.x.w0, z.x.w1, z.x.w2, z.x.w3, nb, z.x.ca⟩ := ⟨_, rfl⟩
        have hxb : (x.bg == s) = false := by rw [hx]; exact hnn
        clear heq
        obtain ⟨Wm, hWm⟩ : ∃ Wm, Wm = wr.alloc (.cells #[.int .i64 z.x.la, .int .u64 z.x.w0, .int .u64 z.x.w1, .int .u64 z.x.w2, .int .u64 z.x.w3, .int .u64 nb, .bool z.x.ca] 28) := ⟨_, rfl⟩
        have kM : New wr Wm := by rw [hWm]; exact (Kept.refl _ _).alloc _
        have hM0 : Wm.heap[wr.heap.size]? = some (blkM ⟨z.x.who, z.x.la, z.x.w0, z.x.w1, z.x.w2, z.x.w3, nb, z.x.ca⟩) := by rw [hWm]; exact heap_alloc_new _ _
        obtain ⟨⟨⟨m1, m2, m3, m4, er⟩, sd', M'⟩, hsE⟩ : ∃ r, sendE sd M x true = r := ⟨_, rfl⟩
        have hM' := sendE_length hsE
        have hno' := Lib.hid (NoB.send Hno.out hxb hsE)
        have hd1 : New wr Wm.drew := kM.trans (Kept.refl _ _).drew
        have hkrd := hkr.trans hd1
        have hMd : Wm.drew.heap[wr.heap.size]? = some (blkM ⟨z.x.who, z.x.la, z.x.w0, z.x.w1, z.x.w2, z.x.w3, nb, z.x.ca⟩) := hM0
        have sd0 : Wm.drew.cell? ⟨B, Of + k * 10 + 1, none⟩ = some (.int .i64 z.x.who) ∧ Wm.drew.cell? ⟨wr.heap.size, 0, none⟩ = some (.int .i64 z.x.la) ∧ Wm.drew.cell? ⟨wr.heap.size, 1, none⟩ = some (.int .u64 z.x.w0) ∧ Wm.drew.cell? ⟨wr.heap.size, 2, none⟩ = some (.int .u64 z.x.w1) ∧ Wm.drew.cell? ⟨wr.heap.size, 3, none⟩ = some (.int .u64 z.x.w2) ∧ Wm.drew.cell? ⟨wr.heap.size, 4, none⟩ = some (.int .u64 z.x.w3) ∧ Wm.drew.cell? ⟨wr.heap.size, 5, none⟩ = some (.int .u64 nb) ∧ Wm.drew.cell? ⟨wr.heap.size, 6, none⟩ = some (.bool z.x.ca) := ⟨HB.out _ hkrd, of7 hMd⟩
        rw [hx] at hsE
        have hcall := send_st b sd sd' true m1 M M' ⟨z.x.who, z.x.la, z.x.w0, z.x.w1, z.x.w2, z.x.w3, nb, z.x.ca⟩ m4 m2 m3 er Wm.drew (G1.out.same hd1) (by omega) hsE
        have hcall2 : Calls Try.prog 12 #[.pointer (some ⟨b, 0, none⟩), .int .i64 z.x.who, .agg #[.int .i64 z.x.la, .int .u64 z.x.w0, .int .u64 z.x.w1, .int .u64 z.x.w2, .int .u64 z.x.w3, .int .u64 nb, .bool z.x.ca], .bool true] Wm.drew _ := hcall
        have Hcall := Lib.hid hcall2
        have HWm := Lib.hid hWm
        clear hcall hcall2 hsE hxb hx hWm hM0
        go_wp2_with fail
        rw [← HWm.out]
        clear HWm d2 d3 d4 d5 d6 d7 d8
        go_region_held3 (fun W' => W'.cell? ⟨B, Of + k * 10 + 1, none⟩ = some (.int .i64 z.x.who) ∧ W'.cell? ⟨wr.heap.size, 0, none⟩ = some (.int .i64 z.x.la) ∧ W'.cell? ⟨wr.heap.size, 1, none⟩ = some (.int .u64 z.x.w0) ∧ W'.cell? ⟨wr.heap.size, 2, none⟩ = some (.int .u64 z.x.w1) ∧ W'.cell? ⟨wr.heap.size, 3, none⟩ = some (.int .u64 z.x.w2) ∧ W'.cell? ⟨wr.heap.size, 4, none⟩ = some (.int .u64 z.x.w3) ∧ W'.cell? ⟨wr.heap.size, 5, none⟩ = some (.int .u64 nb) ∧ W'.cell? ⟨wr.heap.size, 6, none⟩ = some (.bool z.x.ca)) (first | with_reducible exact s3 | with_reducible exact sd0)
          (first | (go_at_call 12; refine Hcall.out.mono ?_; rintro e w3 ⟨rfl, hA, hkx⟩; obtain ⟨hS3, hk3⟩ := Sep.step (P' := EP b sd' M') (EP.ok _ _ _) ((EP.ok _ _ _).kept G2.out hd1 (fun _ _ h => h)) G3.out G4.out hA hkx (fun k hk => Nat.le_trans hkrd.size hk); have hkr3 := hkrd.new hk3 (fun i hi => hi); have s3 : w3.cell? ⟨B, Of + k * 10 + 1, none⟩ = some (.int .i64 z.x.who) ∧ w3.cell? ⟨wr.heap.size, 0, none⟩ = some (.int .i64 z.x.la) ∧ w3.cell? ⟨wr.heap.size, 1, none⟩ = some (.int .u64 z.x.w0) ∧ w3.cell? ⟨wr.heap.size, 2, none⟩ = some (.int .u64 z.x.w1) ∧ w3.cell? ⟨wr.heap.size, 3, none⟩ = some (.int .u64 z.x.w2) ∧ w3.cell? ⟨wr.heap.size, 4, none⟩ = some (.int .u64 z.x.w3) ∧ w3.cell? ⟨wr.heap.size, 5, none⟩ = some (.int .u64 nb) ∧ w3.cell? ⟨wr.heap.size, 6, none⟩ = some (.bool z.x.ca) := ⟨HB.out _ hkr3, of7 (hkx.heap hMd (fun h => absurd h.2 (Nat.lt_irrefl _)))⟩))
        obtain ⟨O1', O2', g1, g2, g3, g4⟩ := hS3.swap
        have e1 := s3.1
        have G1' := Lib.hid g1
        have G2' := Lib.hid g2
        have G3' := Lib.hid g3
        have G4' := Lib.hid g4
        clear s3 sd0 hkx hA Hcall hS3 g1 g2 g3 g4 hMd G1 G2 G3 G4
        go_wp2_with fail
        refine (recv_in b2 F z.x.who _ G1'.out (by omega)).mono ?_
        rintro e w4 ⟨y, rfl, hA, hkx⟩
        obtain ⟨hS4, hk4⟩ := Sep.step (P' := EP b2 false ((lineE F z.x.who).map RO)) (EP.ok _ _ _) G2'.out G3'.out G4'.out hA hkx (fun k hk => Nat.le_trans hkr3.size hk)
        have hkr4 := hkr3.new hk4 (fun i hi => hi)
        have hF4 := lineE_length F z.x.who
        clear hA hkx hk4 e1 G1' G2' G3' G4'
        go_wp2_with fail
        go_roundw
        case rel => exact ⟨k + 1, sd', M', lineE F z.x.who, by omega, by omega, by go_num, by omega, by omega, hno'.out, hkr4, hS4.swap⟩
        case measure => simp [intOf]; omega
      | false =>
        have Hh := Lib.hid hh
        have hne : ¬ z.x.bg = s := by simpa using hh
        clear hh
        obtain ⟨x, hx⟩ : ∃ x : On, x = ⟨z.x.who, z.x.la, z.x.w0, z.x.w1, z.x.w2, z.x.w3, z.x.bg, z.x.ca⟩ := ⟨_, rfl⟩
        have hxb : (x.bg == s) = false := by rw [hx]; exact Hh.out
        obtain ⟨Wm, hWm⟩ : ∃ Wm, Wm = wr.alloc (.cells #[.int .i64 z.x.la, .int .u64 z.x.w0, .int .u64 z.x.w1, .int .u64 z.x.w2, .int .u64 z.x.w3, .int .u64 z.x.bg, .bool z.x.ca] 28) := ⟨_, rfl⟩
        have kM : New wr Wm := by rw [hWm]; exact (Kept.refl _ _).alloc _
        have hM0 : Wm.heap[wr.heap.size]? = some (blkM ⟨z.x.who, z.x.la, z.x.w0, z.x.w1, z.x.w2, z.x.w3, z.x.bg, z.x.ca⟩) := by rw [hWm]; exact heap_alloc_new _ _
        obtain ⟨⟨⟨m1, m2, m3, m4, er⟩, sd', M'⟩, hsE⟩ : ∃ r, sendE sd M x true = r := ⟨_, rfl⟩
        have hM' := sendE_length hsE
        have hno' := Lib.hid (NoB.send Hno.out hxb hsE)
        have hd1 : New wr Wm.drew := kM.trans (Kept.refl _ _).drew
        have hkrd := hkr.trans hd1
        have hMd : Wm.drew.heap[wr.heap.size]? = some (blkM ⟨z.x.who, z.x.la, z.x.w0, z.x.w1, z.x.w2, z.x.w3, z.x.bg, z.x.ca⟩) := hM0
        have sd0 : Wm.drew.cell? ⟨B, Of + k * 10 + 1, none⟩ = some (.int .i64 z.x.who) ∧ Wm.drew.cell? ⟨wr.heap.size, 0, none⟩ = some (.int .i64 z.x.la) ∧ Wm.drew.cell? ⟨wr.heap.size, 1, none⟩ = some (.int .u64 z.x.w0) ∧ Wm.drew.cell? ⟨wr.heap.size, 2, none⟩ = some (.int .u64 z.x.w1) ∧ Wm.drew.cell? ⟨wr.heap.size, 3, none⟩ = some (.int .u64 z.x.w2) ∧ Wm.drew.cell? ⟨wr.heap.size, 4, none⟩ = some (.int .u64 z.x.w3) ∧ Wm.drew.cell? ⟨wr.heap.size, 5, none⟩ = some (.int .u64 z.x.bg) ∧ Wm.drew.cell? ⟨wr.heap.size, 6, none⟩ = some (.bool z.x.ca) := ⟨HB.out _ hkrd, of7 hMd⟩
        rw [hx] at hsE
        have hcall := send_st b sd sd' true m1 M M' ⟨z.x.who, z.x.la, z.x.w0, z.x.w1, z.x.w2, z.x.w3, z.x.bg, z.x.ca⟩ m4 m2 m3 er Wm.drew (G1.out.same hd1) (by omega) hsE
        have hcall2 : Calls Try.prog 12 #[.pointer (some ⟨b, 0, none⟩), .int .i64 z.x.who, .agg #[.int .i64 z.x.la, .int .u64 z.x.w0, .int .u64 z.x.w1, .int .u64 z.x.w2, .int .u64 z.x.w3, .int .u64 z.x.bg, .bool z.x.ca], .bool true] Wm.drew _ := hcall
        have Hcall := Lib.hid hcall2
        have HWm := Lib.hid hWm
        clear hcall hcall2 hsE hxb hx hWm hM0
        go_wp2_with fail
        rw [← HWm.out]
        clear HWm d2 d3 d4 d5 d6 d7 d8
        go_region_held3 (fun W' => W'.cell? ⟨B, Of + k * 10 + 1, none⟩ = some (.int .i64 z.x.who) ∧ W'.cell? ⟨wr.heap.size, 0, none⟩ = some (.int .i64 z.x.la) ∧ W'.cell? ⟨wr.heap.size, 1, none⟩ = some (.int .u64 z.x.w0) ∧ W'.cell? ⟨wr.heap.size, 2, none⟩ = some (.int .u64 z.x.w1) ∧ W'.cell? ⟨wr.heap.size, 3, none⟩ = some (.int .u64 z.x.w2) ∧ W'.cell? ⟨wr.heap.size, 4, none⟩ = some (.int .u64 z.x.w3) ∧ W'.cell? ⟨wr.heap.size, 5, none⟩ = some (.int .u64 z.x.bg) ∧ W'.cell? ⟨wr.heap.size, 6, none⟩ = some (.bool z.x.ca)) (first | with_reducible exact s3 | with_reducible exact sd0)
          (first | (go_at_call 12; refine Hcall.out.mono ?_; rintro e w3 ⟨rfl, hA, hkx⟩; obtain ⟨hS3, hk3⟩ := Sep.step (P' := EP b sd' M') (EP.ok _ _ _) ((EP.ok _ _ _).kept G2.out hd1 (fun _ _ h => h)) G3.out G4.out hA hkx (fun k hk => Nat.le_trans hkrd.size hk); have hkr3 := hkrd.new hk3 (fun i hi => hi); have s3 : w3.cell? ⟨B, Of + k * 10 + 1, none⟩ = some (.int .i64 z.x.who) ∧ w3.cell? ⟨wr.heap.size, 0, none⟩ = some (.int .i64 z.x.la) ∧ w3.cell? ⟨wr.heap.size, 1, none⟩ = some (.int .u64 z.x.w0) ∧ w3.cell? ⟨wr.heap.size, 2, none⟩ = some (.int .u64 z.x.w1) ∧ w3.cell? ⟨wr.heap.size, 3, none⟩ = some (.int .u64 z.x.w2) ∧ w3.cell? ⟨wr.heap.size, 4, none⟩ = some (.int .u64 z.x.w3) ∧ w3.cell? ⟨wr.heap.size, 5, none⟩ = some (.int .u64 z.x.bg) ∧ w3.cell? ⟨wr.heap.size, 6, none⟩ = some (.bool z.x.ca) := ⟨HB.out _ hkr3, of7 (hkx.heap hMd (fun h => absurd h.2 (Nat.lt_irrefl _)))⟩))
        obtain ⟨O1', O2', g1, g2, g3, g4⟩ := hS3.swap
        have e1 := s3.1
        have G1' := Lib.hid g1
        have G2' := Lib.hid g2
        have G3' := Lib.hid g3
        have G4' := Lib.hid g4
        clear s3 sd0 hkx hA Hcall hS3 g1 g2 g3 g4 hMd G1 G2 G3 G4
        go_wp2_with fail
        refine (recv_in b2 F z.x.who _ G1'.out (by omega)).mono ?_
        rintro e w4 ⟨y, rfl, hA, hkx⟩
        obtain ⟨hS4, hk4⟩ := Sep.step (P' := EP b2 false ((lineE F z.x.who).map RO)) (EP.ok _ _ _) G2'.out G3'.out G4'.out hA hkx (fun k hk => Nat.le_trans hkr3.size hk)
        have hkr4 := hkr3.new hk4 (fun i hi => hi)
        have hF4 := lineE_length F z.x.who
        clear hA hkx hk4 e1 G1' G2' G3' G4'
        go_wp2_with fail
        go_roundw
        case rel => exact ⟨k + 1, sd', M', lineE F z.x.who, by omega, by omega, by go_num, by omega, by omega, hno'.out, hkr4, hS4.swap⟩
        case measure => simp [intOf]; omega
    · have hbg := Hid.out hno |>.badge
      by_cases h3 : k < len
      · have h2' : ¬ ((k : Int) < 30) := by omega
        have hq0 : badgeE false (F.map RO) 0 = ([], F.map RO) := rfl
        have Hbg := Lib.hid hbg
        have Hq0 := Lib.hid hq0
        obtain ⟨r, hr⟩ : ∃ r, r = (sd && decide (0 < M.length)) := ⟨_, rfl⟩
        have Hr := Lib.hid hr
        obtain ⟨G, hG⟩ : ∃ G, G = M.map (fun x => x.who) := ⟨_, rfl⟩
        have HG := Lib.hid hG
        have hGM : G.length = M.length := by rw [hG, List.length_map]
        obtain ⟨mG, hmG⟩ : ∃ mG, mG = G.length := ⟨_, rfl⟩
        have HmG := Lib.hid hmG
        obtain ⟨mF, hmF⟩ : ∃ mF, mF = F.length := ⟨_, rfl⟩
        have HmF := Lib.hid hmF
        have hmG30 : mG ≤ 30 := by omega
        have hmF30 : mF ≤ 30 := by omega
        have HGM := Lib.hid hGM
        have hML : M.length ≤ 900 := by omega
        have hFL : F.length ≤ 900 := by omega
        have hFL2 : (F.map RO).length ≤ 900 := by rw [List.length_map]; exact hFL
        clear hr hG hmG hmF hGM hbg hq0 hno hMk hFk
        obtain ⟨_, hn⟩ := Sep.one hS
        go_wp2_with fail
        refine (waits_any b sd r M _ hn (by omega) Hr.out).mono ?_
        rintro e w5 ⟨v5, rfl, hown, hkx⟩
        rw [← HG.out, ← HGM.out] at hown
        obtain ⟨ao5, c5, hv5, -⟩ := Src.of_own hown
        replace hS := Sep.fresh (N := LQ v5 G) (Sep.ok (EP.ok _ _ _) (EP.ok _ _ _)) hS (LQ.fresh hown) hkx (fun k hk => Nat.le_trans hkr.size hk)
        have hkw := hkr.trans hkx
        rw [← HmG.out] at hv5
        subst hv5
        clear hown hkx hn hkr
        obtain ⟨_, hn⟩ := Sep.any hS
        obtain ⟨_, hn⟩ := Sep.any hn
        go_wp2_with fail
        refine (waits_R b2 F _ hn (by omega)).mono ?_
        rintro e w6 ⟨v6, rfl, hown, hkx⟩
        obtain ⟨ao6, c6, hv6, -⟩ := Src.of_own hown
        replace hS := Sep.fresh (N := LQ v6 F) (Sep.ok (LQ.ok _ _) (Sep.ok (EP.ok _ _ _) (EP.ok _ _ _))) hS (LQ.fresh hown) hkx (fun k hk => Nat.le_trans hkw.size hk)
        replace hkw := hkw.trans hkx
        rw [← HmF.out] at hv6
        subst hv6
        clear hown hkx hn
        replace hS := hS.third
        obtain ⟨O1, O2, h1, h2, h3, h4⟩ := hS
        have H2 := Lib.hid h2
        have H3 := Lib.hid h3
        have H4 := Lib.hid h4
        clear h2 h3 h4
        go_wp2_with fail
        refine (badge_any b sd M M [] s _ h1 hML Hbg.out).mono ?_
        rintro e w7 ⟨v7, rfl, hown, -, hA, hkx⟩
        obtain ⟨ao7, c7, hv7, -⟩ := Src.of_own hown
        replace hv7 : v7 = .slice ao7 0 c7 := hv7
        subst hv7
        obtain ⟨hS, hkst⟩ := Sep.step (P' := EP b sd M) (Sep.ok (LQ.ok _ _) (Sep.ok (LQ.ok _ _) (EP.ok _ _ _))) H2.out H3.out H4.out (Ep.mono hA (fun _ h => .inl h.1)) hkx (fun k hk9 => Nat.le_trans hkw.size hk9)
        replace hkw := hkw.new hkst (fun i hi => hi)
        clear hA hkx hkst h1 H2 H3 H4
        clear hown
        replace hS := (hS.inr (fun _ h => h.inr (fun _ h => h.swap))).third
        obtain ⟨O1, O2, h1, h2, h3, h4⟩ := hS
        have H2 := Lib.hid h2
        have H3 := Lib.hid h3
        have H4 := Lib.hid h4
        clear h2 h3 h4
        go_wp2_with fail
        refine (badge_any b2 false (F.map RO) (F.map RO) [] 0 _ h1 hFL2 Hq0.out).mono ?_
        rintro e w8 ⟨v8, rfl, hown, -, hA, hkx⟩
        obtain ⟨ao8, c8, hv8, -⟩ := Src.of_own hown
        replace hv8 : v8 = .slice ao8 0 c8 := hv8
        subst hv8
        obtain ⟨hS, hkst⟩ := Sep.step (P' := EP b2 false (F.map RO)) (Sep.ok (EP.ok _ _ _) (Sep.ok (LQ.ok _ _) (LQ.ok _ _))) H2.out H3.out H4.out (Ep.mono hA (fun _ h => .inl h.1)) hkx (fun k hk9 => Nat.le_trans hkw.size hk9)
        replace hkw := hkw.new hkst (fun i hi => hi)
        clear hA hkx hkst h1 H2 H3 H4
        clear hown
        obtain ⟨_, hn⟩ := Sep.any hS
        obtain ⟨_, hn⟩ := Sep.one hn
        go_wp2_with fail
        refine (waits_any b sd r M _ hn (by omega) Hr.out).mono ?_
        rintro e w9 ⟨v9, rfl, hown, hkx⟩
        rw [← HG.out, ← HGM.out] at hown
        obtain ⟨ao9, c9, hv9, -⟩ := Src.of_own hown
        replace hS := Sep.fresh (N := LQ v9 G) (Sep.ok (EP.ok _ _ _) (Sep.ok (EP.ok _ _ _) (Sep.ok (LQ.ok _ _) (LQ.ok _ _)))) hS (LQ.fresh hown) hkx (fun k hk => Nat.le_trans hkw.size hk)
        replace hkw := hkw.trans hkx
        rw [← HmG.out] at hv9
        subst hv9
        clear hown hkx hn
        obtain ⟨_, hn⟩ := Sep.any hS
        obtain ⟨_, hn⟩ := Sep.one hn
        go_wp2_with fail
        refine (waits_R b2 F _ hn (by omega)).mono ?_
        rintro e w10 ⟨v10, rfl, hown, hkx⟩
        obtain ⟨ao10, c10, hv10, -⟩ := Src.of_own hown
        replace hS := Sep.fresh (N := LQ v10 F) (Sep.ok (LQ.ok _ _) (Sep.ok (EP.ok _ _ _) (Sep.ok (EP.ok _ _ _) (Sep.ok (LQ.ok _ _) (LQ.ok _ _))))) hS (LQ.fresh hown) hkx (fun k hk => Nat.le_trans hkw.size hk)
        replace hkw := hkw.trans hkx
        rw [← HmF.out] at hv10
        subst hv10
        clear hown hkx hn
        replace hS := hS.third
        obtain ⟨⟨⟨m1, m2, m3, m4, er⟩, sd2, M2⟩, hsE⟩ : ∃ r, sendE false (F.map RO) ⟨1099511627776, 0, 0, 0, 0, 0, 0, false⟩ false = r := ⟨_, rfl⟩
        have her := sendE_er hsE
        have HsE := Lib.hid hsE
        clear hsE
        obtain ⟨O1, O2, h1, h2, h3, h4⟩ := hS
        have H2 := Lib.hid h2
        have H3 := Lib.hid h3
        have H4 := Lib.hid h4
        clear h2 h3 h4
        go_wp2_with fail
        refine (send_st b2 false sd2 false m1 (F.map RO) M2 ⟨1099511627776, 0, 0, 0, 0, 0, 0, false⟩ m4 m2 m3 er _ h1 (by omega) HsE.out).mono ?_
        rintro e w11 ⟨rfl, hA, hkx⟩
        obtain ⟨hS, hkst⟩ := Sep.step (P' := EP b2 sd2 M2) (Sep.ok (LQ.ok _ _) (Sep.ok (LQ.ok _ _) (Sep.ok (EP.ok _ _ _) (Sep.ok (LQ.ok _ _) (LQ.ok _ _))))) H2.out H3.out H4.out hA hkx (fun k hk9 => Nat.le_trans hkw.size hk9)
        replace hkw := hkw.new hkst (fun i hi => hi)
        clear hA hkx hkst h1 H2 H3 H4
        have kA : New w11 (w11.alloc (blkT m1 m2 m3 m4)) := (Kept.refl _ _).alloc _
        replace hS := (Sep.ok (EP.ok _ _ _) (Sep.ok (LQ.ok _ _) (Sep.ok (LQ.ok _ _) (Sep.ok (EP.ok _ _ _) (Sep.ok (LQ.ok _ _) (LQ.ok _ _)))))).kept hS kA (fun _ _ h => h)
        replace hkw := hkw.trans kA
        obtain ⟨W, hW⟩ : ∃ W, W = w11.alloc (blkT m1 m2 m3 m4) := ⟨_, rfl⟩
        rw [← hW] at hS hkw
        obtain ⟨_, q1⟩ := Sep.any hS
        obtain ⟨_, q2⟩ := Sep.any q1
        obtain ⟨_, q3⟩ := Sep.any q2
        obtain ⟨_, q4⟩ := Sep.any q3
        obtain ⟨_, q5⟩ := Sep.one q1
        obtain ⟨_, q6⟩ := Sep.one q2
        obtain ⟨_, q7⟩ := Sep.one q4
        obtain ⟨_, q8⟩ := Sep.any q4
        have s10 := Src.of_own q5.1
        have s9 := Src.of_own q6.1
        have s6 := Src.of_own q7.1
        have s5 := Src.of_own q8.1
        rw [← HmF.out] at s10 s6
        rw [← HmG.out] at s9 s5
        have n1 := fun (W' : World) (hk : New W W') => nums_any _ _ mG G W' (s5.same hk) (s9.same hk) (by omega)
        have n2 := fun (W' : World) (hk : New W W') => nums_any _ _ mF F W' (s6.same hk) (s10.same hk) (by omega)
        have N1 := Lib.hid n1
        have N2 := Lib.hid n2
        have HW := Lib.hid hW
        clear n1 n2 s10 s9 s6 s5 q1 q2 q3 q4 q5 q6 q7 q8 hS hW kA HsE Hr HG HGM HmG HmF Hbg Hq0
        obtain rfl | rfl := her
        all_goals go_wp2_with fail
        all_goals have hW2 := HW.out
        all_goals simp only [blkT] at hW2
        all_goals try rw [← hW2]
        all_goals clear hW2
        all_goals refine (N1.out _ (Kept.refl _ _)).mono ?_
        all_goals rintro e w12 ⟨rfl, q12, rfl⟩
        all_goals have k12 : New W (W.drewN q12) := (Kept.refl _ _).drewN _
        all_goals go_wp2_with fail
        all_goals refine (N2.out _ k12).mono ?_
        all_goals rintro e w13 ⟨rfl, q13, rfl⟩
        all_goals have k13 := k12.drewN q13
        all_goals go_wp2_with fail
        all_goals refine (fixed_any _).mono ?_
        all_goals rintro e w14 ⟨rfl, hk14⟩
        all_goals go_wp2_with fail
        all_goals go_ret
        all_goals exact ⟨rfl, none_below (hkw.trans (((Kept.refl _ _).drewN _).trans hk14))⟩
      · have h3' : ¬ ((k : Int) < len) := by omega
        have hq0 : badgeE false (F.map RO) 0 = ([], F.map RO) := rfl
        have Hbg := Lib.hid hbg
        have Hq0 := Lib.hid hq0
        obtain ⟨r, hr⟩ : ∃ r, r = (sd && decide (0 < M.length)) := ⟨_, rfl⟩
        have Hr := Lib.hid hr
        obtain ⟨G, hG⟩ : ∃ G, G = M.map (fun x => x.who) := ⟨_, rfl⟩
        have HG := Lib.hid hG
        have hGM : G.length = M.length := by rw [hG, List.length_map]
        obtain ⟨mG, hmG⟩ : ∃ mG, mG = G.length := ⟨_, rfl⟩
        have HmG := Lib.hid hmG
        obtain ⟨mF, hmF⟩ : ∃ mF, mF = F.length := ⟨_, rfl⟩
        have HmF := Lib.hid hmF
        have hmG30 : mG ≤ 30 := by omega
        have hmF30 : mF ≤ 30 := by omega
        have HGM := Lib.hid hGM
        have hML : M.length ≤ 900 := by omega
        have hFL : F.length ≤ 900 := by omega
        have hFL2 : (F.map RO).length ≤ 900 := by rw [List.length_map]; exact hFL
        clear hr hG hmG hmF hGM hbg hq0 hno hMk hFk
        obtain ⟨_, hn⟩ := Sep.one hS
        go_wp2_with fail
        refine (waits_any b sd r M _ hn (by omega) Hr.out).mono ?_
        rintro e w5 ⟨v5, rfl, hown, hkx⟩
        rw [← HG.out, ← HGM.out] at hown
        obtain ⟨ao5, c5, hv5, -⟩ := Src.of_own hown
        replace hS := Sep.fresh (N := LQ v5 G) (Sep.ok (EP.ok _ _ _) (EP.ok _ _ _)) hS (LQ.fresh hown) hkx (fun k hk => Nat.le_trans hkr.size hk)
        have hkw := hkr.trans hkx
        rw [← HmG.out] at hv5
        subst hv5
        clear hown hkx hn hkr
        obtain ⟨_, hn⟩ := Sep.any hS
        obtain ⟨_, hn⟩ := Sep.any hn
        go_wp2_with fail
        refine (waits_R b2 F _ hn (by omega)).mono ?_
        rintro e w6 ⟨v6, rfl, hown, hkx⟩
        obtain ⟨ao6, c6, hv6, -⟩ := Src.of_own hown
        replace hS := Sep.fresh (N := LQ v6 F) (Sep.ok (LQ.ok _ _) (Sep.ok (EP.ok _ _ _) (EP.ok _ _ _))) hS (LQ.fresh hown) hkx (fun k hk => Nat.le_trans hkw.size hk)
        replace hkw := hkw.trans hkx
        rw [← HmF.out] at hv6
        subst hv6
        clear hown hkx hn
        replace hS := hS.third
        obtain ⟨O1, O2, h1, h2, h3, h4⟩ := hS
        have H2 := Lib.hid h2
        have H3 := Lib.hid h3
        have H4 := Lib.hid h4
        clear h2 h3 h4
        go_wp2_with fail
        refine (badge_any b sd M M [] s _ h1 hML Hbg.out).mono ?_
        rintro e w7 ⟨v7, rfl, hown, -, hA, hkx⟩
        obtain ⟨ao7, c7, hv7, -⟩ := Src.of_own hown
        replace hv7 : v7 = .slice ao7 0 c7 := hv7
        subst hv7
        obtain ⟨hS, hkst⟩ := Sep.step (P' := EP b sd M) (Sep.ok (LQ.ok _ _) (Sep.ok (LQ.ok _ _) (EP.ok _ _ _))) H2.out H3.out H4.out (Ep.mono hA (fun _ h => .inl h.1)) hkx (fun k hk9 => Nat.le_trans hkw.size hk9)
        replace hkw := hkw.new hkst (fun i hi => hi)
        clear hA hkx hkst h1 H2 H3 H4
        clear hown
        replace hS := (hS.inr (fun _ h => h.inr (fun _ h => h.swap))).third
        obtain ⟨O1, O2, h1, h2, h3, h4⟩ := hS
        have H2 := Lib.hid h2
        have H3 := Lib.hid h3
        have H4 := Lib.hid h4
        clear h2 h3 h4
        go_wp2_with fail
        refine (badge_any b2 false (F.map RO) (F.map RO) [] 0 _ h1 hFL2 Hq0.out).mono ?_
        rintro e w8 ⟨v8, rfl, hown, -, hA, hkx⟩
        obtain ⟨ao8, c8, hv8, -⟩ := Src.of_own hown
        replace hv8 : v8 = .slice ao8 0 c8 := hv8
        subst hv8
        obtain ⟨hS, hkst⟩ := Sep.step (P' := EP b2 false (F.map RO)) (Sep.ok (EP.ok _ _ _) (Sep.ok (LQ.ok _ _) (LQ.ok _ _))) H2.out H3.out H4.out (Ep.mono hA (fun _ h => .inl h.1)) hkx (fun k hk9 => Nat.le_trans hkw.size hk9)
        replace hkw := hkw.new hkst (fun i hi => hi)
        clear hA hkx hkst h1 H2 H3 H4
        clear hown
        obtain ⟨_, hn⟩ := Sep.any hS
        obtain ⟨_, hn⟩ := Sep.one hn
        go_wp2_with fail
        refine (waits_any b sd r M _ hn (by omega) Hr.out).mono ?_
        rintro e w9 ⟨v9, rfl, hown, hkx⟩
        rw [← HG.out, ← HGM.out] at hown
        obtain ⟨ao9, c9, hv9, -⟩ := Src.of_own hown
        replace hS := Sep.fresh (N := LQ v9 G) (Sep.ok (EP.ok _ _ _) (Sep.ok (EP.ok _ _ _) (Sep.ok (LQ.ok _ _) (LQ.ok _ _)))) hS (LQ.fresh hown) hkx (fun k hk => Nat.le_trans hkw.size hk)
        replace hkw := hkw.trans hkx
        rw [← HmG.out] at hv9
        subst hv9
        clear hown hkx hn
        obtain ⟨_, hn⟩ := Sep.any hS
        obtain ⟨_, hn⟩ := Sep.one hn
        go_wp2_with fail
        refine (waits_R b2 F _ hn (by omega)).mono ?_
        rintro e w10 ⟨v10, rfl, hown, hkx⟩
        obtain ⟨ao10, c10, hv10, -⟩ := Src.of_own hown
        replace hS := Sep.fresh (N := LQ v10 F) (Sep.ok (LQ.ok _ _) (Sep.ok (EP.ok _ _ _) (Sep.ok (EP.ok _ _ _) (Sep.ok (LQ.ok _ _) (LQ.ok _ _))))) hS (LQ.fresh hown) hkx (fun k hk => Nat.le_trans hkw.size hk)
        replace hkw := hkw.trans hkx
        rw [← HmF.out] at hv10
        subst hv10
        clear hown hkx hn
        replace hS := hS.third
        obtain ⟨⟨⟨m1, m2, m3, m4, er⟩, sd2, M2⟩, hsE⟩ : ∃ r, sendE false (F.map RO) ⟨1099511627776, 0, 0, 0, 0, 0, 0, false⟩ false = r := ⟨_, rfl⟩
        have her := sendE_er hsE
        have HsE := Lib.hid hsE
        clear hsE
        obtain ⟨O1, O2, h1, h2, h3, h4⟩ := hS
        have H2 := Lib.hid h2
        have H3 := Lib.hid h3
        have H4 := Lib.hid h4
        clear h2 h3 h4
        go_wp2_with fail
        refine (send_st b2 false sd2 false m1 (F.map RO) M2 ⟨1099511627776, 0, 0, 0, 0, 0, 0, false⟩ m4 m2 m3 er _ h1 (by omega) HsE.out).mono ?_
        rintro e w11 ⟨rfl, hA, hkx⟩
        obtain ⟨hS, hkst⟩ := Sep.step (P' := EP b2 sd2 M2) (Sep.ok (LQ.ok _ _) (Sep.ok (LQ.ok _ _) (Sep.ok (EP.ok _ _ _) (Sep.ok (LQ.ok _ _) (LQ.ok _ _))))) H2.out H3.out H4.out hA hkx (fun k hk9 => Nat.le_trans hkw.size hk9)
        replace hkw := hkw.new hkst (fun i hi => hi)
        clear hA hkx hkst h1 H2 H3 H4
        have kA : New w11 (w11.alloc (blkT m1 m2 m3 m4)) := (Kept.refl _ _).alloc _
        replace hS := (Sep.ok (EP.ok _ _ _) (Sep.ok (LQ.ok _ _) (Sep.ok (LQ.ok _ _) (Sep.ok (EP.ok _ _ _) (Sep.ok (LQ.ok _ _) (LQ.ok _ _)))))).kept hS kA (fun _ _ h => h)
        replace hkw := hkw.trans kA
        obtain ⟨W, hW⟩ : ∃ W, W = w11.alloc (blkT m1 m2 m3 m4) := ⟨_, rfl⟩
        rw [← hW] at hS hkw
        obtain ⟨_, q1⟩ := Sep.any hS
        obtain ⟨_, q2⟩ := Sep.any q1
        obtain ⟨_, q3⟩ := Sep.any q2
        obtain ⟨_, q4⟩ := Sep.any q3
        obtain ⟨_, q5⟩ := Sep.one q1
        obtain ⟨_, q6⟩ := Sep.one q2
        obtain ⟨_, q7⟩ := Sep.one q4
        obtain ⟨_, q8⟩ := Sep.any q4
        have s10 := Src.of_own q5.1
        have s9 := Src.of_own q6.1
        have s6 := Src.of_own q7.1
        have s5 := Src.of_own q8.1
        rw [← HmF.out] at s10 s6
        rw [← HmG.out] at s9 s5
        have n1 := fun (W' : World) (hk : New W W') => nums_any _ _ mG G W' (s5.same hk) (s9.same hk) (by omega)
        have n2 := fun (W' : World) (hk : New W W') => nums_any _ _ mF F W' (s6.same hk) (s10.same hk) (by omega)
        have N1 := Lib.hid n1
        have N2 := Lib.hid n2
        have HW := Lib.hid hW
        clear n1 n2 s10 s9 s6 s5 q1 q2 q3 q4 q5 q6 q7 q8 hS hW kA HsE Hr HG HGM HmG HmF Hbg Hq0
        obtain rfl | rfl := her
        all_goals go_wp2_with fail
        all_goals have hW2 := HW.out
        all_goals simp only [blkT] at hW2
        all_goals try rw [← hW2]
        all_goals clear hW2
        all_goals refine (N1.out _ (Kept.refl _ _)).mono ?_
        all_goals rintro e w12 ⟨rfl, q12, rfl⟩
        all_goals have k12 : New W (W.drewN q12) := (Kept.refl _ _).drewN _
        all_goals go_wp2_with fail
        all_goals refine (N2.out _ k12).mono ?_
        all_goals rintro e w13 ⟨rfl, q13, rfl⟩
        all_goals have k13 := k12.drewN q13
        all_goals go_wp2_with fail
        all_goals refine (fixed_any _).mono ?_
        all_goals rintro e w14 ⟨rfl, hk14⟩
        all_goals go_wp2_with fail
        all_goals go_ret
        all_goals exact ⟨rfl, none_below (hkw.trans (((Kept.refl _ _).drewN _).trans hk14))⟩
end Go.Proofs.Ytanongcaokldmaa

/- The walk of the law TlbDoes. -/
import Derived.Test.YtgjlghjigfclpaaTlbT
set_option linter.all false
namespace Go.Proofs.Ytgjlghjigfclpaa
open Go.RowKit

/-- A block that is owned. -/
def BP (q : Nat) (o : Obj) : Thing := fun O w => w.heap[q]? = some o ∧ O q
theorem BP.ok (q : Nat) (o : Obj) : (BP q o).Ok := ⟨fun h k hF => ⟨k.heap h.1 (hF _ h.2), h.2⟩, fun h => ⟨h.1, h.2, lt_of_heap h.1⟩, fun h hO => ⟨h.1, hO _ h.2⟩⟩
/-- A slice of m lines whose cells may be written. -/
def CP (ao : Option Addr) (m : Nat) : Thing := fun O w => 0 < m → ∃ g cs, ao = some ⟨g, 0, none⟩ ∧ w.heap[g]? = some (.cells cs 34 (0, 0)) ∧ m * 4 ≤ cs.size ∧ O g
theorem CP.ok (ao : Option Addr) (m : Nat) : (CP ao m).Ok :=
  ⟨fun h k hF h0 => let ⟨g, cs, h1, h2, h3, h4⟩ := h h0; ⟨g, cs, h1, k.heap h2 (hF _ h4), h3, h4⟩, fun h h0 => let ⟨g, cs, h1, h2, h3, h4⟩ := h h0; ⟨g, cs, h1, h2, h3, h4, lt_of_heap h2⟩, fun h hO h0 => let ⟨g, cs, h1, h2, h3, h4⟩ := h h0; ⟨g, cs, h1, h2, h3, hO _ h4⟩⟩
theorem CP.of_own {w : World} {base : Nat} {ao : Option Addr} {m c : Nat} {L : List Ln} (h : w.ownsRow base 34 4 (.slice ao m c) m (L.flatMap encL)) : CP ao m (fun k => base ≤ k) w := by
  intro h0
  rcases h.2 with ⟨h1, h2⟩ | ⟨g, cap, cur, h1, h2, h3, h4, h5, h6, h7⟩
  · omega
  · simp only [Value.slice.injEq] at h1
    exact ⟨g, cur, h1.1, h3, by rw [h6]; exact Nat.mul_le_mul_right _ h4, h2⟩
theorem Sep.snd {P Q : Thing} {O : Nat → Prop} {w : World} (hQ : Q.Ok) (h : Sep P Q O w) : Q O w := let ⟨_, _, _, h2, _, h4⟩ := h; hQ.mono h2 h4
theorem Sep.left {P Q Q' : Thing} {O : Nat → Prop} {w w' : World} (h : Sep P Q O w) (f : ∀ O2, Q O2 w → Q' O2 w) : Sep P Q' O w := let ⟨O1, O2, h1, h2, h3, h4⟩ := h; ⟨O1, O2, h1, f O2 h2, h3, h4⟩

abbrev TRB (b b2 q n : Nat) (L L2 : List Ln) (o : Obj) : Thing := Sep (TP b n L) (Sep (RP b2 n L2) (BP q o))
theorem TRB.ok (b2 q n : Nat) (L2 : List Ln) (o : Obj) : (Sep (RP b2 n L2) (BP q o)).Ok := Sep.ok (RP.ok _ _ _) (BP.ok _ _)
/-- The TLB is turned. -/
theorem TRB.one {b b2 q n : Nat} {L' L2 : List Ln} {o : Obj} {O1 O2 : Nat → Prop} {B : Nat} {w w' : World} (h2 : Sep (RP b2 n L2) (BP q o) O2 w) (h3 : ∀ k, O1 k → B ≤ k ∧ ¬ O2 k) (h4 : ∀ k, O2 k → B ≤ k)
    (h : Tb (fun k => O1 k ∨ w.heap.size ≤ k) w' b n L') (hk : Kept O1 w w') (hB : B ≤ w.heap.size) : TRB b b2 q n L' L2 o (fun k => B ≤ k) w' ∧ Kept (fun k => B ≤ k) w w' :=
  Sep.step (P' := TP b n L') (TRB.ok _ _ _ _ _) h2 h3 h4 h hk (fun k hk => Nat.le_trans hB hk)
/-- The reference is turned. -/
theorem TRB.two {b b2 q n : Nat} {L L2' : List Ln} {o : Obj} {O1 O2 : Nat → Prop} {B : Nat} {w w' : World} (h2 : Sep (TP b n L) (BP q o) O2 w) (h3 : ∀ k, O1 k → B ≤ k ∧ ¬ O2 k) (h4 : ∀ k, O2 k → B ≤ k)
    (h : Rb (fun k => O1 k ∨ w.heap.size ≤ k) w' b2 n L2') (hk : Kept O1 w w') (hB : B ≤ w.heap.size) : TRB b b2 q n L L2' o (fun k => B ≤ k) w' ∧ Kept (fun k => B ≤ k) w w' :=
  let ⟨h1, h2⟩ := Sep.step (P' := RP b2 n L2') (Sep.ok (TP.ok _ _ _) (BP.ok _ _)) h2 h3 h4 h hk (fun k hk => Nat.le_trans hB hk)
  ⟨h1.turn, h2⟩
theorem TRB.box {b b2 q n : Nat} {L L2 : List Ln} {o : Obj} {O : Nat → Prop} {w : World} (h : TRB b b2 q n L L2 o O w) : w.heap[q]? = some o := let ⟨_, _, _, ⟨_, _, _, h2, _, _⟩, _, _⟩ := h; h2.1
theorem grow {O : Nat → Prop} {w w' : World} {b room : Nat} {L : List Ln} (h : Tb O w' b room L) : Tb (fun k => O k ∨ w.heap.size ≤ k) w' b room L := h.mono (fun _ h => .inl h)

set_option maxRecDepth 100000 in
set_option maxHeartbeats 16000000 in
theorem walkTlbDoes (w : World) (room : Int) (hwf : (Lit.int .i64 room).wf = true) (v : Value) (rows : List (List Value)) (hs : Src w v rows.length 5 rows.flatten) (hr : ∀ x ∈ rows, FlatOk [.int .i64, .int .i64, .int .i64, .int .i64, .int .i64] x) (hm : rows.length ≤ maxLen) :
    Calls Try.prog 6 #[.int .i64 room, v] w fun e w' => e = .returned (.bool true) ∧ Below w.heap.size w w' := by
  unfold maxLen at hm
  obtain ⟨ao, c, rfl, hc⟩ := hs.rows rfl rfl hr (by decide)
  have Hc := Lib.hid hc
  clear hc hs
  obtain ⟨len, hlen⟩ : ∃ len, len = rows.length := ⟨_, rfl⟩
  rw [← hlen] at hm Hc ⊢
  clear hlen hr
  obtain ⟨m, hmm, a0, a1⟩ := and_small room 4 (by decide)
  simp only [Int.reducePow, Int.reduceSub] at hmm a1
  obtain ⟨m, rfl⟩ := Int.eq_ofNat_of_zero_le a0
  obtain ⟨n, hn⟩ : ∃ n : Nat, n = 1 + m := ⟨_, rfl⟩
  have hw1 : IntKind.i64.wrap (1 + (m : Int)) = (n : Int) := by rw [IntKind.wrap_i64]; omega
  have hn1 : 1 ≤ n := by omega
  have hn2 : n ≤ 16 := by omega
  clear hn hwf a0 a1
  go_enter Try.func6, Try.ntmps6
  go_wp2_with fail
  refine (new_yes n w hn1 (by omega)).mono ?_
  rintro e w1 ⟨rfl, hA, hk1⟩
  replace hA := hA.sized
  go_wp2_with fail
  refine (rnew_yes n w1 hn1 (by omega)).mono ?_
  rintro e w2 ⟨rfl, hB, hk2⟩
  have hAB : Sep (RP w1.heap.size n []) (TP w.heap.size n []) (fun k => w.heap.size ≤ k) w2 :=
    Sep.fresh (TP.ok _ _ _) ((TP.ok _ _ _).mono hA (fun k hk => hk.1)) hB hk2 (fun k hk => by have := hk1.size; omega)
  have hk02 := hk1.trans hk2
  obtain ⟨b0, hb0⟩ : ∃ b0, b0 = w.heap.size := ⟨_, rfl⟩
  obtain ⟨b2, hb2⟩ : ∃ b2, b2 = w1.heap.size := ⟨_, rfl⟩
  have hAB' : Sep (TP b0 n []) (RP b2 n []) (fun k => w.heap.size ≤ k) w2 := by rw [hb0, hb2]; exact hAB.swap
  rw [← hb2]
  rw [← hb0]
  clear hA hB hb0 hb2 hk1 hk2 hAB
  go_wp2_with fail
  go_loopw [5, 9] (fun p i wr => ∃ (j b : Nat) (L : List Ln), j ≤ len ∧ j ≤ 80 ∧ p = .pointer (some ⟨b, 0, none⟩) ∧ i = .int .i64 j ∧ L.length ≤ n ∧ Sep (TP b n L) (RP b2 n L) (fun k => w.heap.size ≤ k) wr ∧ New w wr) (fun _ i _ => 80 - (intOf i).toNat)
  case atStart => exact ⟨0, _, [], by omega, by omega, rfl, rfl, by simp, hAB', hk02⟩
  case round =>
    clear hAB' hk02
    obtain ⟨j, b, L, hjl, hj80, rfl, rfl, hLn, hS, hk⟩ := hrel
    by_cases h1 : j < len
    · by_cases h2 : j < 80
      · have h2z : (j : Int) < 80 := by omega
        obtain ⟨B, O, x, rfl, hx, _, hcell⟩ := Hc.out j h1
        obtain ⟨kind, _, rfl, _, hx⟩ := hx.int
        obtain ⟨sp, _, rfl, _, hx⟩ := hx.int
        obtain ⟨pg, _, rfl, _, hx⟩ := hx.int
        obtain ⟨fr, _, rfl, _, hx⟩ := hx.int
        obtain ⟨ri, _, rfl, _, hx⟩ := hx.int
        obtain rfl := hx.nil
        have e0 := hcell 0 (.int .i64 kind) rfl
        have e1 := hcell 1 (.int .i64 sp) rfl
        have e2 := hcell 2 (.int .i64 pg) rfl
        have e3 := hcell 3 (.int .i64 fr) rfl
        have e4 := hcell 4 (.int .i64 ri) rfl
        clear hcell hx
        simp only [Nat.add_zero] at e0
        replace e0 := cell_kept hk e0 (fun h => h)
        replace e1 := cell_kept hk e1 (fun h => h)
        replace e2 := cell_kept hk e2 (fun h => h)
        replace e3 := cell_kept hk e3 (fun h => h)
        replace e4 := cell_kept hk e4 (fun h => h)
        have hszr := hk.size
        obtain ⟨q, hq⟩ : ∃ q, q = wr.heap.size := ⟨_, rfl⟩
        have Hq := Lib.hid hq
        have hT0 : ∀ kd : Int, TRB b b2 q n L L (.cells #[.int .i64 kd, .int .i64 sp, .int .i64 pg, .int .i64 fr, .int .i64 ri] 45) (fun k => w.heap.size ≤ k) (wr.alloc (.cells #[.int .i64 kd, .int .i64 sp, .int .i64 pg, .int .i64 fr, .int .i64 ri] 45)) := by
          intro kd
          have hf := Sep.fresh (N := BP q (.cells #[.int .i64 kd, .int .i64 sp, .int .i64 pg, .int .i64 fr, .int .i64 ri] 45)) (Sep.ok (TP.ok b n L) (RP.ok b2 n L)) hS (by rw [hq]; exact ⟨heap_alloc_new _ _, Nat.le_refl _⟩) ((Kept.refl (fun _ => False) wr).alloc (.cells #[.int .i64 kd, .int .i64 sp, .int .i64 pg, .int .i64 fr, .int .i64 ri] 45)) (fun k hk => by omega)
          exact hf.turn.left (w' := wr) (fun O h => h.swap)
        have HT0 := Lib.hid hT0
        have hk0 : ∀ o, New w (wr.alloc o) := fun o => hk.alloc o
        have Hk0 := Lib.hid hk0
        clear hT0 hq hS hk hk0
        by_cases hk0 : kind = 0
        · have hkd := hk0
          clear hk0
          subst hkd
          have hT := HT0.out 0
          have hkw := Hk0.out (.cells #[.int .i64 0, .int .i64 sp, .int .i64 pg, .int .i64 fr, .int .i64 ri] 45)
          have hqs := Hq.out
          subst hqs
          clear HT0 Hk0 Hq
          obtain ⟨bt, hbt⟩ : ∃ bt, bt = b := ⟨_, rfl⟩
          subst hbt
          obtain ⟨L2, hL2⟩ : ∃ L2, L2 = fillE n L ⟨sp, pg, fr, ri⟩ := ⟨_, rfl⟩
          have HL2 := Lib.hid hL2
          have hLn2 : L2.length ≤ n := by rw [hL2]; exact length_fillE n L _ hLn hn1
          clear hL2
          have hbx := TRB.box hT
          have x0 := cell_blk hbx 0
          have x1 := cell_blk hbx 1
          have x2 := cell_blk hbx 2
          have x3 := cell_blk hbx 3
          have x4 := cell_blk hbx 4
          clear hbx
          obtain ⟨O1, O2, g1, g2, g3, g4⟩ := hT
          have G3 := Lib.hid g3
          have G4 := Lib.hid g4
          clear g3 g4
          go_wp2_with fail
          refine (fill_any bt n L L2 ⟨sp, pg, fr, ri⟩ _ g1 hLn hn1 (by omega) HL2.out.symm).mono ?_
          rintro e w3 ⟨rfl, hA3, hk3⟩
          obtain ⟨hT3, hk3⟩ := TRB.one (L' := L2) g2 G3.out G4.out hA3 hk3 hkw.size
          replace hkw := hkw.new hk3 (fun i hi => hi)
          clear g1 g2 G3 G4 hA3 hk3
          clear x0 x1 x2 x3 x4
          have hbx := TRB.box hT3
          have x0 := cell_blk hbx 0
          have x1 := cell_blk hbx 1
          have x2 := cell_blk hbx 2
          have x3 := cell_blk hbx 3
          have x4 := cell_blk hbx 4
          clear hbx
          obtain ⟨O1, O2, g1, g2, g3, g4⟩ := Sep.turn hT3
          have G3 := Lib.hid g3
          have G4 := Lib.hid g4
          clear g3 g4
          go_wp2_with fail
          refine (rfill_any b2 n L L2 ⟨sp, pg, fr, ri⟩ _ g1 hLn hn1 (by omega) HL2.out.symm).mono ?_
          rintro e w4 ⟨rfl, hA4, hk4⟩
          obtain ⟨hT4, hk4⟩ := TRB.two (L2' := L2) g2 G3.out G4.out hA4 hk4 hkw.size
          replace hkw := hkw.new hk4 (fun i hi => hi)
          clear hT3 g1 g2 G3 G4 hA4 hk4
          clear x0 x1 x2 x3 x4
          have hbx := TRB.box hT4
          have x0 := cell_blk hbx 0
          have x1 := cell_blk hbx 1
          have x2 := cell_blk hbx 2
          have x3 := cell_blk hbx 3
          have x4 := cell_blk hbx 4
          clear hbx
          have hTR : Sep (TP bt n L2) (RP b2 n L2) (fun k => w.heap.size ≤ k) w4 := hT4.left (w' := wr) (fun O h => Sep.snd (RP.ok b2 n L2) h.swap)
          obtain ⟨lf, lr, li, hlook⟩ : ∃ lf lr li, lookE sp pg L2 = (lf, lr, li) := ⟨_, _, _, rfl⟩
          have Hlook := Lib.hid hlook
          clear hlook hT4
          obtain ⟨O1, O2, g1, g2, g3, g4⟩ := hTR
          have G3 := Lib.hid g3
          have G4 := Lib.hid g4
          clear g3 g4
          go_wp2_with fail
          refine (look_any bt n L2 sp pg lf lr li _ g1 (by omega) Hlook.out).mono ?_
          rintro e w5 ⟨rfl, hk5⟩
          have y1 := cell_kept ((Kept.refl (fun _ => False) w5).alloc (.cells #[.int .i64 lf, .int .i64 lr] 32)) (cell_kept hk5 x1 (fun h => h)) (fun h => h)
          have y2 := cell_kept ((Kept.refl (fun _ => False) w5).alloc (.cells #[.int .i64 lf, .int .i64 lr] 32)) (cell_kept hk5 x2 (fun h => h)) (fun h => h)
          replace hkw := hkw.trans hk5
          have g15 := Tb.same g1 hk5
          have g25 := Rb.same g2 hk5
          clear x0 x1 x2 x3 x4 g1 g2 hk5
          go_wp2_with fail
          refine (rlook_any b2 n L2 sp pg lf lr li _ (Rb.alloc g25 _) (by omega) Hlook.out).mono ?_
          rintro e w6 ⟨rfl, hk6⟩
          have hz := hk6.heap (heap_alloc_new w5 (.cells #[.int .i64 lf, .int .i64 lr] 32)) (fun h => h)
          have g16 := (Tb.alloc g15 (.cells #[.int .i64 lf, .int .i64 lr] 32)).same hk6
          have g26 := (Rb.alloc g25 (.cells #[.int .i64 lf, .int .i64 lr] 32)).same hk6
          replace hkw := (hkw.alloc (.cells #[.int .i64 lf, .int .i64 lr] 32)).trans hk6
          clear y1 y2 g15 g25 hk6
          go_wp2_with fail
          refine (lines_any bt n L2 _ (Tb.alloc g16 _) (by omega)).mono ?_
          rintro e w7 ⟨v7, rfl, hown7, hk7⟩
          have hz7 := hk7.heap (((Kept.refl (fun _ => False) w6).alloc (.cells #[.int .i64 lf, .int .i64 lr] 32)).heap hz (fun h => h)) (fun h => h)
          have hy7 := hk7.heap (heap_alloc_new w6 (.cells #[.int .i64 lf, .int .i64 lr] 32)) (fun h => h)
          have g17 := (Tb.alloc g16 (.cells #[.int .i64 lf, .int .i64 lr] 32)).same hk7
          have g27 := (Rb.alloc g26 (.cells #[.int .i64 lf, .int .i64 lr] 32)).same hk7
          have hsz67 : w.heap.size ≤ (w6.alloc (.cells #[.int .i64 lf, .int .i64 lr] 32)).heap.size := (hkw.alloc (.cells #[.int .i64 lf, .int .i64 lr] 32)).size
          have hS7 : Sep (TP bt n L2) (RP b2 n L2) (fun k => w.heap.size ≤ k) (w6.alloc (.cells #[.int .i64 lf, .int .i64 lr] 32)) := ⟨O1, O2, Tb.alloc g16 _, Rb.alloc g26 _, G3.out, G4.out⟩
          replace hkw := (hkw.alloc (.cells #[.int .i64 lf, .int .i64 lr] 32)).trans hk7
          obtain ⟨ao7, c7, hv7, -⟩ := Src.of_own hown7
          subst hv7
          have hC7 : Sep (CP ao7 L2.length) (Sep (TP bt n L2) (RP b2 n L2)) (fun k => w.heap.size ≤ k) w7 :=
            Sep.fresh (Sep.ok (TP.ok _ _ _) (RP.ok _ _ _)) hS7 (CP.of_own hown7) hk7 (fun k hk => Nat.le_trans hsz67 hk)
          obtain ⟨ao8, c8, hb8, hown8, -, -, -⟩ := Rb.cells g27
          have z0 := cell_blk hz7 0
          have z1 := cell_blk hz7 1
          have z2 := cell_blk hy7 0
          have z3 := cell_blk hy7 1
          have z4 := cell_blk hb8 0
          have hsame := same_any (.slice ao7 L2.length c7) (.slice ao8 L2.length c8) L2.length L2 w7 (Src.of_own hown7) (Src.of_own hown8) (by omega)
          have Hsame := Lib.hid hsame
          obtain ⟨m2, hm2⟩ : ∃ m2, m2 = L2.length := ⟨_, rfl⟩
          have Hm2 := Lib.hid hm2
          have hm2b : m2 ≤ 16 := by omega
          rw [← hm2] at Hsame z4 hC7 ⊢
          clear hm2 hsame hown7 hown8 hS7 hz hz7 hy7 hb8 g16 g26 g17 g27 hk7 hsz67
          go_wp2_with fail
          refine Hsame.out.mono ?_
          rintro e w8 ⟨rfl, qd, rfl⟩
          have hC8 : Sep (CP ao7 m2) (Sep (TP bt n L2) (RP b2 n L2)) (fun k => w.heap.size ≤ k) (w7.drewN qd) :=
            (Sep.ok (CP.ok _ _) (Sep.ok (TP.ok _ _ _) (RP.ok _ _ _))).kept hC7 ((Kept.refl (fun _ => False) w7).drewN qd) (fun _ _ h => h)
          have hk8 := hkw.drewN qd
          clear z0 z1 z2 z3 z4 hC7 Hsame
          go_wp2_with fail
          go_loopw [20] (fun s wi => ∃ r : Nat, r ≤ m2 ∧ s = .int .i64 r ∧ Sep (CP ao7 m2) (Sep (TP bt n L2) (RP b2 n L2)) (fun k => w.heap.size ≤ k) wi ∧ New w wi) (fun s _ => m2 - (intOf s).toNat)
          case atStart => exact ⟨0, by omega, rfl, hC8, hk8⟩
          case round =>
            clear hC8 hk8
            obtain ⟨r, hrm, rfl, hCr, hkr⟩ := hrel
            by_cases hrl : r < m2
            · obtain ⟨O5, O6, p1, p2, p3, p4⟩ := hCr
              obtain ⟨g9, cs, rfl, hgc, hcs, hOg⟩ := p1 (by omega)
              have P2 := Lib.hid p2
              have P3 := Lib.hid p3
              have P4 := Lib.hid p4
              obtain ⟨u, hu⟩ : ∃ u, cs[r * 4 + 1]? = some u := ⟨_, Array.getElem?_eq_getElem (by omega)⟩
              have hcu : wr.cell? ⟨g9, r * 4 + 1, none⟩ = some u := by rw [cell_blk hgc (r * 4 + 1)]; exact hu
              have hfu := free_blk hgc (r * 4 + 1)
              have hgc9 := heap_setCell_same wr g9 (r * 4 + 1) cs 34 (.int .i64 99) hgc
              have hks : Kept O5 wr (wr.setCell ⟨g9, r * 4 + 1, none⟩ (.int .i64 99)) := (Kept.refl O5 wr).setCell (.inr hOg) _
              have hst := Sep.step (P' := CP (some ⟨g9, 0, none⟩) m2) (Sep.ok (TP.ok bt n L2) (RP.ok b2 n L2)) P2.out P3.out P4.out (fun _ => ⟨g9, _, rfl, hgc9, by simpa using hcs, .inl hOg⟩) hks (fun k hk => Nat.le_trans hkr.size hk)
              have hk9 := hkr.new hst.2 (fun i hi => hi)
              have Hst := Lib.hid hst.1
              clear p1 p2 p3 p4 hst hks hgc9 hgc hu P2 P3 P4 hkr
              go_wp2_with fail
              go_roundw
              case rel => exact ⟨r + 1, by omega, by go_num, Hst.out, hk9⟩
              case measure => simp [intOf]; omega
            · go_wp2_with fail
              go_roundw
              case rel => exact ⟨j + 1, bt, L2, by omega, by omega, rfl, by go_num, hLn2, Sep.snd (Sep.ok (TP.ok bt n L2) (RP.ok b2 n L2)) hCr, hkr⟩
              case measure => simp [intOf]; omega
        have hk0b : (kind == 0) = false := by simpa using hk0
        by_cases hk1 : kind = 1
        · have hkd := hk1
          clear hk1
          subst hkd
          have hT := HT0.out 1
          have hkw := Hk0.out (.cells #[.int .i64 1, .int .i64 sp, .int .i64 pg, .int .i64 fr, .int .i64 ri] 45)
          have hqs := Hq.out
          subst hqs
          clear HT0 Hk0 Hq
          obtain ⟨bt, hbt⟩ : ∃ bt, bt = b := ⟨_, rfl⟩
          subst hbt
          obtain ⟨L2, hL2⟩ : ∃ L2, L2 = dropP sp pg L := ⟨_, rfl⟩
          have HL2 := Lib.hid hL2
          have hLn2 : L2.length ≤ n := by rw [hL2]; exact by exact Nat.le_trans (List.length_filter_le _ _) hLn
          clear hL2
          obtain ⟨isd, hisd⟩ : ∃ isd, isd = decide (L2.length < L.length) := ⟨_, rfl⟩
          have Hisd := Lib.hid hisd
          clear hisd
          have hbx := TRB.box hT
          have x0 := cell_blk hbx 0
          have x1 := cell_blk hbx 1
          have x2 := cell_blk hbx 2
          have x3 := cell_blk hbx 3
          have x4 := cell_blk hbx 4
          clear hbx
          obtain ⟨O1, O2, g1, g2, g3, g4⟩ := hT
          have G3 := Lib.hid g3
          have G4 := Lib.hid g4
          clear g3 g4
          go_wp2_with fail
          refine (drop2_any bt n L L2 sp pg _ g1 (by omega) HL2.out.symm isd Hisd.out).mono ?_
          rintro e w3 ⟨rfl, hA3, hk3⟩
          obtain ⟨hT3, hk3⟩ := TRB.one (L' := L2) g2 G3.out G4.out (grow hA3) hk3 hkw.size
          replace hkw := hkw.new hk3 (fun i hi => hi)
          clear g1 g2 G3 G4 hA3 hk3
          clear x0 x1 x2 x3 x4
          have hbx := TRB.box hT3
          have x0 := cell_blk hbx 0
          have x1 := cell_blk hbx 1
          have x2 := cell_blk hbx 2
          have x3 := cell_blk hbx 3
          have x4 := cell_blk hbx 4
          clear hbx
          obtain ⟨O1, O2, g1, g2, g3, g4⟩ := Sep.turn hT3
          have G3 := Lib.hid g3
          have G4 := Lib.hid g4
          clear g3 g4
          go_wp2_with fail
          refine (rdrop_any b2 n L L2 sp pg _ g1 (by omega) HL2.out.symm isd Hisd.out).mono ?_
          rintro e w4 ⟨rfl, hA4, hk4⟩
          obtain ⟨hT4, hk4⟩ := TRB.two (L2' := L2) g2 G3.out G4.out hA4 hk4 hkw.size
          replace hkw := hkw.new hk4 (fun i hi => hi)
          clear hT3 g1 g2 G3 G4 hA4 hk4
          clear x0 x1 x2 x3 x4
          have hbx := TRB.box hT4
          have x0 := cell_blk hbx 0
          have x1 := cell_blk hbx 1
          have x2 := cell_blk hbx 2
          have x3 := cell_blk hbx 3
          have x4 := cell_blk hbx 4
          clear hbx
          have hTR : Sep (TP bt n L2) (RP b2 n L2) (fun k => w.heap.size ≤ k) w4 := hT4.left (w' := wr) (fun O h => Sep.snd (RP.ok b2 n L2) h.swap)
          obtain ⟨lf, lr, li, hlook⟩ : ∃ lf lr li, lookE sp pg L2 = (lf, lr, li) := ⟨_, _, _, rfl⟩
          have Hlook := Lib.hid hlook
          clear hlook hT4
          obtain ⟨O1, O2, g1, g2, g3, g4⟩ := hTR
          have G3 := Lib.hid g3
          have G4 := Lib.hid g4
          clear g3 g4
          go_wp2_with fail
          refine (look_any bt n L2 sp pg lf lr li _ g1 (by omega) Hlook.out).mono ?_
          rintro e w5 ⟨rfl, hk5⟩
          have y1 := cell_kept ((Kept.refl (fun _ => False) w5).alloc (.cells #[.int .i64 lf, .int .i64 lr] 32)) (cell_kept hk5 x1 (fun h => h)) (fun h => h)
          have y2 := cell_kept ((Kept.refl (fun _ => False) w5).alloc (.cells #[.int .i64 lf, .int .i64 lr] 32)) (cell_kept hk5 x2 (fun h => h)) (fun h => h)
          replace hkw := hkw.trans hk5
          have g15 := Tb.same g1 hk5
          have g25 := Rb.same g2 hk5
          clear x0 x1 x2 x3 x4 g1 g2 hk5
          go_wp2_with fail
          refine (rlook_any b2 n L2 sp pg lf lr li _ (Rb.alloc g25 _) (by omega) Hlook.out).mono ?_
          rintro e w6 ⟨rfl, hk6⟩
          have hz := hk6.heap (heap_alloc_new w5 (.cells #[.int .i64 lf, .int .i64 lr] 32)) (fun h => h)
          have g16 := (Tb.alloc g15 (.cells #[.int .i64 lf, .int .i64 lr] 32)).same hk6
          have g26 := (Rb.alloc g25 (.cells #[.int .i64 lf, .int .i64 lr] 32)).same hk6
          replace hkw := (hkw.alloc (.cells #[.int .i64 lf, .int .i64 lr] 32)).trans hk6
          clear y1 y2 g15 g25 hk6
          go_wp2_with fail
          refine (lines_any bt n L2 _ (Tb.alloc g16 _) (by omega)).mono ?_
          rintro e w7 ⟨v7, rfl, hown7, hk7⟩
          have hz7 := hk7.heap (((Kept.refl (fun _ => False) w6).alloc (.cells #[.int .i64 lf, .int .i64 lr] 32)).heap hz (fun h => h)) (fun h => h)
          have hy7 := hk7.heap (heap_alloc_new w6 (.cells #[.int .i64 lf, .int .i64 lr] 32)) (fun h => h)
          have g17 := (Tb.alloc g16 (.cells #[.int .i64 lf, .int .i64 lr] 32)).same hk7
          have g27 := (Rb.alloc g26 (.cells #[.int .i64 lf, .int .i64 lr] 32)).same hk7
          have hsz67 : w.heap.size ≤ (w6.alloc (.cells #[.int .i64 lf, .int .i64 lr] 32)).heap.size := (hkw.alloc (.cells #[.int .i64 lf, .int .i64 lr] 32)).size
          have hS7 : Sep (TP bt n L2) (RP b2 n L2) (fun k => w.heap.size ≤ k) (w6.alloc (.cells #[.int .i64 lf, .int .i64 lr] 32)) := ⟨O1, O2, Tb.alloc g16 _, Rb.alloc g26 _, G3.out, G4.out⟩
          replace hkw := (hkw.alloc (.cells #[.int .i64 lf, .int .i64 lr] 32)).trans hk7
          obtain ⟨ao7, c7, hv7, -⟩ := Src.of_own hown7
          subst hv7
          have hC7 : Sep (CP ao7 L2.length) (Sep (TP bt n L2) (RP b2 n L2)) (fun k => w.heap.size ≤ k) w7 :=
            Sep.fresh (Sep.ok (TP.ok _ _ _) (RP.ok _ _ _)) hS7 (CP.of_own hown7) hk7 (fun k hk => Nat.le_trans hsz67 hk)
          obtain ⟨ao8, c8, hb8, hown8, -, -, -⟩ := Rb.cells g27
          have z0 := cell_blk hz7 0
          have z1 := cell_blk hz7 1
          have z2 := cell_blk hy7 0
          have z3 := cell_blk hy7 1
          have z4 := cell_blk hb8 0
          have hsame := same_any (.slice ao7 L2.length c7) (.slice ao8 L2.length c8) L2.length L2 w7 (Src.of_own hown7) (Src.of_own hown8) (by omega)
          have Hsame := Lib.hid hsame
          obtain ⟨m2, hm2⟩ : ∃ m2, m2 = L2.length := ⟨_, rfl⟩
          have Hm2 := Lib.hid hm2
          have hm2b : m2 ≤ 16 := by omega
          rw [← hm2] at Hsame z4 hC7 ⊢
          clear hm2 hsame hown7 hown8 hS7 hz hz7 hy7 hb8 g16 g26 g17 g27 hk7 hsz67
          go_wp2_with fail
          refine Hsame.out.mono ?_
          rintro e w8 ⟨rfl, qd, rfl⟩
          have hC8 : Sep (CP ao7 m2) (Sep (TP bt n L2) (RP b2 n L2)) (fun k => w.heap.size ≤ k) (w7.drewN qd) :=
            (Sep.ok (CP.ok _ _) (Sep.ok (TP.ok _ _ _) (RP.ok _ _ _))).kept hC7 ((Kept.refl (fun _ => False) w7).drewN qd) (fun _ _ h => h)
          have hk8 := hkw.drewN qd
          clear z0 z1 z2 z3 z4 hC7 Hsame
          go_wp2_with fail
          go_loopw [20] (fun s wi => ∃ r : Nat, r ≤ m2 ∧ s = .int .i64 r ∧ Sep (CP ao7 m2) (Sep (TP bt n L2) (RP b2 n L2)) (fun k => w.heap.size ≤ k) wi ∧ New w wi) (fun s _ => m2 - (intOf s).toNat)
          case atStart => exact ⟨0, by omega, rfl, hC8, hk8⟩
          case round =>
            clear hC8 hk8
            obtain ⟨r, hrm, rfl, hCr, hkr⟩ := hrel
            by_cases hrl : r < m2
            · obtain ⟨O5, O6, p1, p2, p3, p4⟩ := hCr
              obtain ⟨g9, cs, rfl, hgc, hcs, hOg⟩ := p1 (by omega)
              have P2 := Lib.hid p2
              have P3 := Lib.hid p3
              have P4 := Lib.hid p4
              obtain ⟨u, hu⟩ : ∃ u, cs[r * 4 + 1]? = some u := ⟨_, Array.getElem?_eq_getElem (by omega)⟩
              have hcu : wr.cell? ⟨g9, r * 4 + 1, none⟩ = some u := by rw [cell_blk hgc (r * 4 + 1)]; exact hu
              have hfu := free_blk hgc (r * 4 + 1)
              have hgc9 := heap_setCell_same wr g9 (r * 4 + 1) cs 34 (.int .i64 99) hgc
              have hks : Kept O5 wr (wr.setCell ⟨g9, r * 4 + 1, none⟩ (.int .i64 99)) := (Kept.refl O5 wr).setCell (.inr hOg) _
              have hst := Sep.step (P' := CP (some ⟨g9, 0, none⟩) m2) (Sep.ok (TP.ok bt n L2) (RP.ok b2 n L2)) P2.out P3.out P4.out (fun _ => ⟨g9, _, rfl, hgc9, by simpa using hcs, .inl hOg⟩) hks (fun k hk => Nat.le_trans hkr.size hk)
              have hk9 := hkr.new hst.2 (fun i hi => hi)
              have Hst := Lib.hid hst.1
              clear p1 p2 p3 p4 hst hks hgc9 hgc hu P2 P3 P4 hkr
              go_wp2_with fail
              go_roundw
              case rel => exact ⟨r + 1, by omega, by go_num, Hst.out, hk9⟩
              case measure => simp [intOf]; omega
            · go_wp2_with fail
              go_roundw
              case rel => exact ⟨j + 1, bt, L2, by omega, by omega, rfl, by go_num, hLn2, Sep.snd (Sep.ok (TP.ok bt n L2) (RP.ok b2 n L2)) hCr, hkr⟩
              case measure => simp [intOf]; omega
        have hk1b : (kind == 1) = false := by simpa using hk1
        by_cases hk2 : kind = 2
        · have hkd := hk2
          clear hk2
          subst hkd
          have hT := HT0.out 2
          have hkw := Hk0.out (.cells #[.int .i64 2, .int .i64 sp, .int .i64 pg, .int .i64 fr, .int .i64 ri] 45)
          have hqs := Hq.out
          subst hqs
          clear HT0 Hk0 Hq
          obtain ⟨bt, hbt⟩ : ∃ bt, bt = b := ⟨_, rfl⟩
          subst hbt
          obtain ⟨L2, hL2⟩ : ∃ L2, L2 = dropS sp L := ⟨_, rfl⟩
          have HL2 := Lib.hid hL2
          have hLn2 : L2.length ≤ n := by rw [hL2]; exact by exact Nat.le_trans (List.length_filter_le _ _) hLn
          clear hL2
          have hle2 : L2.length ≤ L.length := by rw [HL2.out]; exact List.length_filter_le _ _
          obtain ⟨d, hd⟩ : ∃ d, L2.length + d = L.length := ⟨L.length - L2.length, by omega⟩
          have Hd := Lib.hid hd
          clear hd hle2
          have hbx := TRB.box hT
          have x0 := cell_blk hbx 0
          have x1 := cell_blk hbx 1
          have x2 := cell_blk hbx 2
          have x3 := cell_blk hbx 3
          have x4 := cell_blk hbx 4
          clear hbx
          obtain ⟨O1, O2, g1, g2, g3, g4⟩ := hT
          have G3 := Lib.hid g3
          have G4 := Lib.hid g4
          clear g3 g4
          go_wp2_with fail
          refine (space_any bt n L L2 sp d _ g1 (by omega) HL2.out.symm Hd.out).mono ?_
          rintro e w3 ⟨rfl, hA3, hk3⟩
          obtain ⟨hT3, hk3⟩ := TRB.one (L' := L2) g2 G3.out G4.out (grow hA3) hk3 hkw.size
          replace hkw := hkw.new hk3 (fun i hi => hi)
          clear g1 g2 G3 G4 hA3 hk3
          clear x0 x1 x2 x3 x4
          have hbx := TRB.box hT3
          have x0 := cell_blk hbx 0
          have x1 := cell_blk hbx 1
          have x2 := cell_blk hbx 2
          have x3 := cell_blk hbx 3
          have x4 := cell_blk hbx 4
          clear hbx
          obtain ⟨O1, O2, g1, g2, g3, g4⟩ := Sep.turn hT3
          have G3 := Lib.hid g3
          have G4 := Lib.hid g4
          clear g3 g4
          go_wp2_with fail
          refine (rspace_any b2 n L L2 sp _ g1 (by omega) HL2.out.symm d Hd.out).mono ?_
          rintro e w4 ⟨rfl, hA4, hk4⟩
          obtain ⟨hT4, hk4⟩ := TRB.two (L2' := L2) g2 G3.out G4.out hA4 hk4 hkw.size
          replace hkw := hkw.new hk4 (fun i hi => hi)
          clear hT3 g1 g2 G3 G4 hA4 hk4
          clear x0 x1 x2 x3 x4
          have hbx := TRB.box hT4
          have x0 := cell_blk hbx 0
          have x1 := cell_blk hbx 1
          have x2 := cell_blk hbx 2
          have x3 := cell_blk hbx 3
          have x4 := cell_blk hbx 4
          clear hbx
          have hTR : Sep (TP bt n L2) (RP b2 n L2) (fun k => w.heap.size ≤ k) w4 := hT4.left (w' := wr) (fun O h => Sep.snd (RP.ok b2 n L2) h.swap)
          obtain ⟨lf, lr, li, hlook⟩ : ∃ lf lr li, lookE sp pg L2 = (lf, lr, li) := ⟨_, _, _, rfl⟩
          have Hlook := Lib.hid hlook
          clear hlook hT4
          obtain ⟨O1, O2, g1, g2, g3, g4⟩ := hTR
          have G3 := Lib.hid g3
          have G4 := Lib.hid g4
          clear g3 g4
          go_wp2_with fail
          refine (look_any bt n L2 sp pg lf lr li _ g1 (by omega) Hlook.out).mono ?_
          rintro e w5 ⟨rfl, hk5⟩
          have y1 := cell_kept ((Kept.refl (fun _ => False) w5).alloc (.cells #[.int .i64 lf, .int .i64 lr] 32)) (cell_kept hk5 x1 (fun h => h)) (fun h => h)
          have y2 := cell_kept ((Kept.refl (fun _ => False) w5).alloc (.cells #[.int .i64 lf, .int .i64 lr] 32)) (cell_kept hk5 x2 (fun h => h)) (fun h => h)
          replace hkw := hkw.trans hk5
          have g15 := Tb.same g1 hk5
          have g25 := Rb.same g2 hk5
          clear x0 x1 x2 x3 x4 g1 g2 hk5
          go_wp2_with fail
          refine (rlook_any b2 n L2 sp pg lf lr li _ (Rb.alloc g25 _) (by omega) Hlook.out).mono ?_
          rintro e w6 ⟨rfl, hk6⟩
          have hz := hk6.heap (heap_alloc_new w5 (.cells #[.int .i64 lf, .int .i64 lr] 32)) (fun h => h)
          have g16 := (Tb.alloc g15 (.cells #[.int .i64 lf, .int .i64 lr] 32)).same hk6
          have g26 := (Rb.alloc g25 (.cells #[.int .i64 lf, .int .i64 lr] 32)).same hk6
          replace hkw := (hkw.alloc (.cells #[.int .i64 lf, .int .i64 lr] 32)).trans hk6
          clear y1 y2 g15 g25 hk6
          go_wp2_with fail
          refine (lines_any bt n L2 _ (Tb.alloc g16 _) (by omega)).mono ?_
          rintro e w7 ⟨v7, rfl, hown7, hk7⟩
          have hz7 := hk7.heap (((Kept.refl (fun _ => False) w6).alloc (.cells #[.int .i64 lf, .int .i64 lr] 32)).heap hz (fun h => h)) (fun h => h)
          have hy7 := hk7.heap (heap_alloc_new w6 (.cells #[.int .i64 lf, .int .i64 lr] 32)) (fun h => h)
          have g17 := (Tb.alloc g16 (.cells #[.int .i64 lf, .int .i64 lr] 32)).same hk7
          have g27 := (Rb.alloc g26 (.cells #[.int .i64 lf, .int .i64 lr] 32)).same hk7
          have hsz67 : w.heap.size ≤ (w6.alloc (.cells #[.int .i64 lf, .int .i64 lr] 32)).heap.size := (hkw.alloc (.cells #[.int .i64 lf, .int .i64 lr] 32)).size
          have hS7 : Sep (TP bt n L2) (RP b2 n L2) (fun k => w.heap.size ≤ k) (w6.alloc (.cells #[.int .i64 lf, .int .i64 lr] 32)) := ⟨O1, O2, Tb.alloc g16 _, Rb.alloc g26 _, G3.out, G4.out⟩
          replace hkw := (hkw.alloc (.cells #[.int .i64 lf, .int .i64 lr] 32)).trans hk7
          obtain ⟨ao7, c7, hv7, -⟩ := Src.of_own hown7
          subst hv7
          have hC7 : Sep (CP ao7 L2.length) (Sep (TP bt n L2) (RP b2 n L2)) (fun k => w.heap.size ≤ k) w7 :=
            Sep.fresh (Sep.ok (TP.ok _ _ _) (RP.ok _ _ _)) hS7 (CP.of_own hown7) hk7 (fun k hk => Nat.le_trans hsz67 hk)
          obtain ⟨ao8, c8, hb8, hown8, -, -, -⟩ := Rb.cells g27
          have z0 := cell_blk hz7 0
          have z1 := cell_blk hz7 1
          have z2 := cell_blk hy7 0
          have z3 := cell_blk hy7 1
          have z4 := cell_blk hb8 0
          have hsame := same_any (.slice ao7 L2.length c7) (.slice ao8 L2.length c8) L2.length L2 w7 (Src.of_own hown7) (Src.of_own hown8) (by omega)
          have Hsame := Lib.hid hsame
          obtain ⟨m2, hm2⟩ : ∃ m2, m2 = L2.length := ⟨_, rfl⟩
          have Hm2 := Lib.hid hm2
          have hm2b : m2 ≤ 16 := by omega
          rw [← hm2] at Hsame z4 hC7 ⊢
          clear hm2 hsame hown7 hown8 hS7 hz hz7 hy7 hb8 g16 g26 g17 g27 hk7 hsz67
          go_wp2_with fail
          refine Hsame.out.mono ?_
          rintro e w8 ⟨rfl, qd, rfl⟩
          have hC8 : Sep (CP ao7 m2) (Sep (TP bt n L2) (RP b2 n L2)) (fun k => w.heap.size ≤ k) (w7.drewN qd) :=
            (Sep.ok (CP.ok _ _) (Sep.ok (TP.ok _ _ _) (RP.ok _ _ _))).kept hC7 ((Kept.refl (fun _ => False) w7).drewN qd) (fun _ _ h => h)
          have hk8 := hkw.drewN qd
          clear z0 z1 z2 z3 z4 hC7 Hsame
          go_wp2_with fail
          go_loopw [20] (fun s wi => ∃ r : Nat, r ≤ m2 ∧ s = .int .i64 r ∧ Sep (CP ao7 m2) (Sep (TP bt n L2) (RP b2 n L2)) (fun k => w.heap.size ≤ k) wi ∧ New w wi) (fun s _ => m2 - (intOf s).toNat)
          case atStart => exact ⟨0, by omega, rfl, hC8, hk8⟩
          case round =>
            clear hC8 hk8
            obtain ⟨r, hrm, rfl, hCr, hkr⟩ := hrel
            by_cases hrl : r < m2
            · obtain ⟨O5, O6, p1, p2, p3, p4⟩ := hCr
              obtain ⟨g9, cs, rfl, hgc, hcs, hOg⟩ := p1 (by omega)
              have P2 := Lib.hid p2
              have P3 := Lib.hid p3
              have P4 := Lib.hid p4
              obtain ⟨u, hu⟩ : ∃ u, cs[r * 4 + 1]? = some u := ⟨_, Array.getElem?_eq_getElem (by omega)⟩
              have hcu : wr.cell? ⟨g9, r * 4 + 1, none⟩ = some u := by rw [cell_blk hgc (r * 4 + 1)]; exact hu
              have hfu := free_blk hgc (r * 4 + 1)
              have hgc9 := heap_setCell_same wr g9 (r * 4 + 1) cs 34 (.int .i64 99) hgc
              have hks : Kept O5 wr (wr.setCell ⟨g9, r * 4 + 1, none⟩ (.int .i64 99)) := (Kept.refl O5 wr).setCell (.inr hOg) _
              have hst := Sep.step (P' := CP (some ⟨g9, 0, none⟩) m2) (Sep.ok (TP.ok bt n L2) (RP.ok b2 n L2)) P2.out P3.out P4.out (fun _ => ⟨g9, _, rfl, hgc9, by simpa using hcs, .inl hOg⟩) hks (fun k hk => Nat.le_trans hkr.size hk)
              have hk9 := hkr.new hst.2 (fun i hi => hi)
              have Hst := Lib.hid hst.1
              clear p1 p2 p3 p4 hst hks hgc9 hgc hu P2 P3 P4 hkr
              go_wp2_with fail
              go_roundw
              case rel => exact ⟨r + 1, by omega, by go_num, Hst.out, hk9⟩
              case measure => simp [intOf]; omega
            · go_wp2_with fail
              go_roundw
              case rel => exact ⟨j + 1, bt, L2, by omega, by omega, rfl, by go_num, hLn2, Sep.snd (Sep.ok (TP.ok bt n L2) (RP.ok b2 n L2)) hCr, hkr⟩
              case measure => simp [intOf]; omega
        have hk2b : (kind == 2) = false := by simpa using hk2
        by_cases hk3 : kind = 3
        · have hkd := hk3
          clear hk3
          subst hkd
          have hT := HT0.out 3
          have hkw := Hk0.out (.cells #[.int .i64 3, .int .i64 sp, .int .i64 pg, .int .i64 fr, .int .i64 ri] 45)
          have hqs := Hq.out
          subst hqs
          clear HT0 Hk0 Hq
          obtain ⟨bt, hbt⟩ : ∃ bt, bt = b := ⟨_, rfl⟩
          subst hbt
          obtain ⟨L2, hL2⟩ : ∃ L2, L2 = dropF fr L := ⟨_, rfl⟩
          have HL2 := Lib.hid hL2
          have hLn2 : L2.length ≤ n := by rw [hL2]; exact by exact Nat.le_trans (List.length_filter_le _ _) hLn
          clear hL2
          have hle2 : L2.length ≤ L.length := by rw [HL2.out]; exact List.length_filter_le _ _
          obtain ⟨d, hd⟩ : ∃ d, L2.length + d = L.length := ⟨L.length - L2.length, by omega⟩
          have Hd := Lib.hid hd
          clear hd hle2
          have hbx := TRB.box hT
          have x0 := cell_blk hbx 0
          have x1 := cell_blk hbx 1
          have x2 := cell_blk hbx 2
          have x3 := cell_blk hbx 3
          have x4 := cell_blk hbx 4
          clear hbx
          obtain ⟨O1, O2, g1, g2, g3, g4⟩ := hT
          have G3 := Lib.hid g3
          have G4 := Lib.hid g4
          clear g3 g4
          go_wp2_with fail
          refine (frame_any bt n L L2 fr d _ g1 (by omega) HL2.out.symm Hd.out).mono ?_
          rintro e w3 ⟨rfl, hA3, hk3⟩
          obtain ⟨hT3, hk3⟩ := TRB.one (L' := L2) g2 G3.out G4.out (grow hA3) hk3 hkw.size
          replace hkw := hkw.new hk3 (fun i hi => hi)
          clear g1 g2 G3 G4 hA3 hk3
          clear x0 x1 x2 x3 x4
          have hbx := TRB.box hT3
          have x0 := cell_blk hbx 0
          have x1 := cell_blk hbx 1
          have x2 := cell_blk hbx 2
          have x3 := cell_blk hbx 3
          have x4 := cell_blk hbx 4
          clear hbx
          obtain ⟨O1, O2, g1, g2, g3, g4⟩ := Sep.turn hT3
          have G3 := Lib.hid g3
          have G4 := Lib.hid g4
          clear g3 g4
          go_wp2_with fail
          refine (rframe_any b2 n L L2 fr _ g1 (by omega) HL2.out.symm d Hd.out).mono ?_
          rintro e w4 ⟨rfl, hA4, hk4⟩
          obtain ⟨hT4, hk4⟩ := TRB.two (L2' := L2) g2 G3.out G4.out hA4 hk4 hkw.size
          replace hkw := hkw.new hk4 (fun i hi => hi)
          clear hT3 g1 g2 G3 G4 hA4 hk4
          clear x0 x1 x2 x3 x4
          have hbx := TRB.box hT4
          have x0 := cell_blk hbx 0
          have x1 := cell_blk hbx 1
          have x2 := cell_blk hbx 2
          have x3 := cell_blk hbx 3
          have x4 := cell_blk hbx 4
          clear hbx
          have hTR : Sep (TP bt n L2) (RP b2 n L2) (fun k => w.heap.size ≤ k) w4 := hT4.left (w' := wr) (fun O h => Sep.snd (RP.ok b2 n L2) h.swap)
          obtain ⟨lf, lr, li, hlook⟩ : ∃ lf lr li, lookE sp pg L2 = (lf, lr, li) := ⟨_, _, _, rfl⟩
          have Hlook := Lib.hid hlook
          clear hlook hT4
          obtain ⟨O1, O2, g1, g2, g3, g4⟩ := hTR
          have G3 := Lib.hid g3
          have G4 := Lib.hid g4
          clear g3 g4
          go_wp2_with fail
          refine (look_any bt n L2 sp pg lf lr li _ g1 (by omega) Hlook.out).mono ?_
          rintro e w5 ⟨rfl, hk5⟩
          have y1 := cell_kept ((Kept.refl (fun _ => False) w5).alloc (.cells #[.int .i64 lf, .int .i64 lr] 32)) (cell_kept hk5 x1 (fun h => h)) (fun h => h)
          have y2 := cell_kept ((Kept.refl (fun _ => False) w5).alloc (.cells #[.int .i64 lf, .int .i64 lr] 32)) (cell_kept hk5 x2 (fun h => h)) (fun h => h)
          replace hkw := hkw.trans hk5
          have g15 := Tb.same g1 hk5
          have g25 := Rb.same g2 hk5
          clear x0 x1 x2 x3 x4 g1 g2 hk5
          go_wp2_with fail
          refine (rlook_any b2 n L2 sp pg lf lr li _ (Rb.alloc g25 _) (by omega) Hlook.out).mono ?_
          rintro e w6 ⟨rfl, hk6⟩
          have hz := hk6.heap (heap_alloc_new w5 (.cells #[.int .i64 lf, .int .i64 lr] 32)) (fun h => h)
          have g16 := (Tb.alloc g15 (.cells #[.int .i64 lf, .int .i64 lr] 32)).same hk6
          have g26 := (Rb.alloc g25 (.cells #[.int .i64 lf, .int .i64 lr] 32)).same hk6
          replace hkw := (hkw.alloc (.cells #[.int .i64 lf, .int .i64 lr] 32)).trans hk6
          clear y1 y2 g15 g25 hk6
          go_wp2_with fail
          refine (lines_any bt n L2 _ (Tb.alloc g16 _) (by omega)).mono ?_
          rintro e w7 ⟨v7, rfl, hown7, hk7⟩
          have hz7 := hk7.heap (((Kept.refl (fun _ => False) w6).alloc (.cells #[.int .i64 lf, .int .i64 lr] 32)).heap hz (fun h => h)) (fun h => h)
          have hy7 := hk7.heap (heap_alloc_new w6 (.cells #[.int .i64 lf, .int .i64 lr] 32)) (fun h => h)
          have g17 := (Tb.alloc g16 (.cells #[.int .i64 lf, .int .i64 lr] 32)).same hk7
          have g27 := (Rb.alloc g26 (.cells #[.int .i64 lf, .int .i64 lr] 32)).same hk7
          have hsz67 : w.heap.size ≤ (w6.alloc (.cells #[.int .i64 lf, .int .i64 lr] 32)).heap.size := (hkw.alloc (.cells #[.int .i64 lf, .int .i64 lr] 32)).size
          have hS7 : Sep (TP bt n L2) (RP b2 n L2) (fun k => w.heap.size ≤ k) (w6.alloc (.cells #[.int .i64 lf, .int .i64 lr] 32)) := ⟨O1, O2, Tb.alloc g16 _, Rb.alloc g26 _, G3.out, G4.out⟩
          replace hkw := (hkw.alloc (.cells #[.int .i64 lf, .int .i64 lr] 32)).trans hk7
          obtain ⟨ao7, c7, hv7, -⟩ := Src.of_own hown7
          subst hv7
          have hC7 : Sep (CP ao7 L2.length) (Sep (TP bt n L2) (RP b2 n L2)) (fun k => w.heap.size ≤ k) w7 :=
            Sep.fresh (Sep.ok (TP.ok _ _ _) (RP.ok _ _ _)) hS7 (CP.of_own hown7) hk7 (fun k hk => Nat.le_trans hsz67 hk)
          obtain ⟨ao8, c8, hb8, hown8, -, -, -⟩ := Rb.cells g27
          have z0 := cell_blk hz7 0
          have z1 := cell_blk hz7 1
          have z2 := cell_blk hy7 0
          have z3 := cell_blk hy7 1
          have z4 := cell_blk hb8 0
          have hsame := same_any (.slice ao7 L2.length c7) (.slice ao8 L2.length c8) L2.length L2 w7 (Src.of_own hown7) (Src.of_own hown8) (by omega)
          have Hsame := Lib.hid hsame
          obtain ⟨m2, hm2⟩ : ∃ m2, m2 = L2.length := ⟨_, rfl⟩
          have Hm2 := Lib.hid hm2
          have hm2b : m2 ≤ 16 := by omega
          rw [← hm2] at Hsame z4 hC7 ⊢
          clear hm2 hsame hown7 hown8 hS7 hz hz7 hy7 hb8 g16 g26 g17 g27 hk7 hsz67
          go_wp2_with fail
          refine Hsame.out.mono ?_
          rintro e w8 ⟨rfl, qd, rfl⟩
          have hC8 : Sep (CP ao7 m2) (Sep (TP bt n L2) (RP b2 n L2)) (fun k => w.heap.size ≤ k) (w7.drewN qd) :=
            (Sep.ok (CP.ok _ _) (Sep.ok (TP.ok _ _ _) (RP.ok _ _ _))).kept hC7 ((Kept.refl (fun _ => False) w7).drewN qd) (fun _ _ h => h)
          have hk8 := hkw.drewN qd
          clear z0 z1 z2 z3 z4 hC7 Hsame
          go_wp2_with fail
          go_loopw [20] (fun s wi => ∃ r : Nat, r ≤ m2 ∧ s = .int .i64 r ∧ Sep (CP ao7 m2) (Sep (TP bt n L2) (RP b2 n L2)) (fun k => w.heap.size ≤ k) wi ∧ New w wi) (fun s _ => m2 - (intOf s).toNat)
          case atStart => exact ⟨0, by omega, rfl, hC8, hk8⟩
          case round =>
            clear hC8 hk8
            obtain ⟨r, hrm, rfl, hCr, hkr⟩ := hrel
            by_cases hrl : r < m2
            · obtain ⟨O5, O6, p1, p2, p3, p4⟩ := hCr
              obtain ⟨g9, cs, rfl, hgc, hcs, hOg⟩ := p1 (by omega)
              have P2 := Lib.hid p2
              have P3 := Lib.hid p3
              have P4 := Lib.hid p4
              obtain ⟨u, hu⟩ : ∃ u, cs[r * 4 + 1]? = some u := ⟨_, Array.getElem?_eq_getElem (by omega)⟩
              have hcu : wr.cell? ⟨g9, r * 4 + 1, none⟩ = some u := by rw [cell_blk hgc (r * 4 + 1)]; exact hu
              have hfu := free_blk hgc (r * 4 + 1)
              have hgc9 := heap_setCell_same wr g9 (r * 4 + 1) cs 34 (.int .i64 99) hgc
              have hks : Kept O5 wr (wr.setCell ⟨g9, r * 4 + 1, none⟩ (.int .i64 99)) := (Kept.refl O5 wr).setCell (.inr hOg) _
              have hst := Sep.step (P' := CP (some ⟨g9, 0, none⟩) m2) (Sep.ok (TP.ok bt n L2) (RP.ok b2 n L2)) P2.out P3.out P4.out (fun _ => ⟨g9, _, rfl, hgc9, by simpa using hcs, .inl hOg⟩) hks (fun k hk => Nat.le_trans hkr.size hk)
              have hk9 := hkr.new hst.2 (fun i hi => hi)
              have Hst := Lib.hid hst.1
              clear p1 p2 p3 p4 hst hks hgc9 hgc hu P2 P3 P4 hkr
              go_wp2_with fail
              go_roundw
              case rel => exact ⟨r + 1, by omega, by go_num, Hst.out, hk9⟩
              case measure => simp [intOf]; omega
            · go_wp2_with fail
              go_roundw
              case rel => exact ⟨j + 1, bt, L2, by omega, by omega, rfl, by go_num, hLn2, Sep.snd (Sep.ok (TP.ok bt n L2) (RP.ok b2 n L2)) hCr, hkr⟩
              case measure => simp [intOf]; omega
        have hk3b : (kind == 3) = false := by simpa using hk3
        by_cases hk4 : kind = 4
        · have hkd := hk4
          clear hk4
          subst hkd
          have hT := HT0.out 4
          have hkw := Hk0.out (.cells #[.int .i64 4, .int .i64 sp, .int .i64 pg, .int .i64 fr, .int .i64 ri] 45)
          have hqs := Hq.out
          subst hqs
          clear HT0 Hk0 Hq
          obtain ⟨L2, hL2⟩ : ∃ L2, L2 = L := ⟨_, rfl⟩
          have HL2 := Lib.hid hL2
          have hLn2 : L2.length ≤ n := by rw [hL2]; exact hLn
          clear hL2
          have hbx := TRB.box hT
          have x0 := cell_blk hbx 0
          have x1 := cell_blk hbx 1
          have x2 := cell_blk hbx 2
          have x3 := cell_blk hbx 3
          have x4 := cell_blk hbx 4
          clear hbx
          obtain ⟨O1, O2, g1, -, -, -⟩ := id hT
          go_wp2_with fail
          refine (copy_any b n L _ g1 (by omega)).mono ?_
          rintro e wc3 ⟨bt, rfl, hN3, hk3⟩
          have hF := Sep.fresh (N := TP bt n L) (Sep.ok (TP.ok _ _ _) (TRB.ok _ _ _ _ _)) hT hN3 hk3 (fun k hk => Nat.le_trans hkw.size hk)
          replace hkw := hkw.trans hk3
          clear hT hN3 hk3 g1 x0 x1 x2 x3 x4
          obtain ⟨O1, O2, g1, g2, g3, g4⟩ := hF.turn
          have G3 := Lib.hid g3
          have G4 := Lib.hid g4
          clear g3 g4 hF
          go_wp2_with fail
          refine (fill_any b n L (fillE n L ⟨99, 0, 0, 0⟩) ⟨99, 0, 0, 0⟩ wc3 g1 hLn hn1 (by omega) rfl).mono ?_
          rintro e wc4 ⟨rfl, hA4, hk4⟩
          have hlf := length_fillE n L ⟨99, 0, 0, 0⟩ hLn hn1
          obtain ⟨L4, hL4⟩ : ∃ L4, L4 = fillE n L ⟨99, 0, 0, 0⟩ := ⟨_, rfl⟩
          rw [← hL4] at hA4 hlf
          obtain ⟨hS4, hk4'⟩ := Sep.step (P' := TP b n L4) (Sep.ok (TP.ok bt n L) (TRB.ok _ _ _ _ _)) g2 G3.out G4.out hA4 hk4 (fun k hk => Nat.le_trans hkw.size hk)
          replace hkw := hkw.new hk4' (fun i hi => hi)
          clear hL4 g1 g2 G3 G4 hA4 hk4 hk4'
          have hbx := TRB.box (Sep.snd (Sep.ok (TP.ok bt n L) (TRB.ok _ _ _ _ _)) hS4)
          have x0 := cell_blk hbx 0
          have x1 := cell_blk hbx 1
          have x2 := cell_blk hbx 2
          clear hbx
          obtain ⟨O1, O2, g1, g2, g3, g4⟩ := hS4
          have G3 := Lib.hid g3
          have G4 := Lib.hid g4
          clear g3 g4
          have hle5 : (dropS sp L4).length ≤ L4.length := List.length_filter_le _ _
          obtain ⟨d, hd⟩ : ∃ d, (dropS sp L4).length + d = L4.length := ⟨L4.length - (dropS sp L4).length, by omega⟩
          have Hd := Lib.hid hd
          clear hd hle5
          go_wp2_with fail
          refine (space_any b n L4 (dropS sp L4) sp d wc4 g1 (by omega) rfl Hd.out).mono ?_
          rintro e wc5 ⟨rfl, hA5, hk5⟩
          obtain ⟨hS5, hk5'⟩ := Sep.step (P' := TP b n (dropS sp L4)) (Sep.ok (TP.ok bt n L) (TRB.ok _ _ _ _ _)) g2 G3.out G4.out (grow hA5) hk5 (fun k hk => Nat.le_trans hkw.size hk)
          replace hkw := hkw.new hk5' (fun i hi => hi)
          have hT4 : TRB bt b2 wr.heap.size n L L (.cells #[.int .i64 4, .int .i64 sp, .int .i64 pg, .int .i64 fr, .int .i64 ri] 45) (fun k => w.heap.size ≤ k) wc5 := Sep.snd (Sep.ok (TP.ok bt n L) (TRB.ok _ _ _ _ _)) hS5
          rw [← HL2.out] at hT4
          clear g1 g2 G3 G4 hA5 hk5 hk5' hS5 x0 x1 x2 hlf Hd
          have hbx := TRB.box hT4
          have x0 := cell_blk hbx 0
          have x1 := cell_blk hbx 1
          have x2 := cell_blk hbx 2
          have x3 := cell_blk hbx 3
          have x4 := cell_blk hbx 4
          clear hbx
          have hTR : Sep (TP bt n L2) (RP b2 n L2) (fun k => w.heap.size ≤ k) wc5 := hT4.left (w' := wr) (fun O h => Sep.snd (RP.ok b2 n L2) h.swap)
          obtain ⟨lf, lr, li, hlook⟩ : ∃ lf lr li, lookE sp pg L2 = (lf, lr, li) := ⟨_, _, _, rfl⟩
          have Hlook := Lib.hid hlook
          clear hlook hT4
          obtain ⟨O1, O2, g1, g2, g3, g4⟩ := hTR
          have G3 := Lib.hid g3
          have G4 := Lib.hid g4
          clear g3 g4
          go_wp2_with fail
          refine (look_any bt n L2 sp pg lf lr li _ g1 (by omega) Hlook.out).mono ?_
          rintro e w5 ⟨rfl, hk5⟩
          have y1 := cell_kept ((Kept.refl (fun _ => False) w5).alloc (.cells #[.int .i64 lf, .int .i64 lr] 32)) (cell_kept hk5 x1 (fun h => h)) (fun h => h)
          have y2 := cell_kept ((Kept.refl (fun _ => False) w5).alloc (.cells #[.int .i64 lf, .int .i64 lr] 32)) (cell_kept hk5 x2 (fun h => h)) (fun h => h)
          replace hkw := hkw.trans hk5
          have g15 := Tb.same g1 hk5
          have g25 := Rb.same g2 hk5
          clear x0 x1 x2 x3 x4 g1 g2 hk5
          go_wp2_with fail
          refine (rlook_any b2 n L2 sp pg lf lr li _ (Rb.alloc g25 _) (by omega) Hlook.out).mono ?_
          rintro e w6 ⟨rfl, hk6⟩
          have hz := hk6.heap (heap_alloc_new w5 (.cells #[.int .i64 lf, .int .i64 lr] 32)) (fun h => h)
          have g16 := (Tb.alloc g15 (.cells #[.int .i64 lf, .int .i64 lr] 32)).same hk6
          have g26 := (Rb.alloc g25 (.cells #[.int .i64 lf, .int .i64 lr] 32)).same hk6
          replace hkw := (hkw.alloc (.cells #[.int .i64 lf, .int .i64 lr] 32)).trans hk6
          clear y1 y2 g15 g25 hk6
          go_wp2_with fail
          refine (lines_any bt n L2 _ (Tb.alloc g16 _) (by omega)).mono ?_
          rintro e w7 ⟨v7, rfl, hown7, hk7⟩
          have hz7 := hk7.heap (((Kept.refl (fun _ => False) w6).alloc (.cells #[.int .i64 lf, .int .i64 lr] 32)).heap hz (fun h => h)) (fun h => h)
          have hy7 := hk7.heap (heap_alloc_new w6 (.cells #[.int .i64 lf, .int .i64 lr] 32)) (fun h => h)
          have g17 := (Tb.alloc g16 (.cells #[.int .i64 lf, .int .i64 lr] 32)).same hk7
          have g27 := (Rb.alloc g26 (.cells #[.int .i64 lf, .int .i64 lr] 32)).same hk7
          have hsz67 : w.heap.size ≤ (w6.alloc (.cells #[.int .i64 lf, .int .i64 lr] 32)).heap.size := (hkw.alloc (.cells #[.int .i64 lf, .int .i64 lr] 32)).size
          have hS7 : Sep (TP bt n L2) (RP b2 n L2) (fun k => w.heap.size ≤ k) (w6.alloc (.cells #[.int .i64 lf, .int .i64 lr] 32)) := ⟨O1, O2, Tb.alloc g16 _, Rb.alloc g26 _, G3.out, G4.out⟩
          replace hkw := (hkw.alloc (.cells #[.int .i64 lf, .int .i64 lr] 32)).trans hk7
          obtain ⟨ao7, c7, hv7, -⟩ := Src.of_own hown7
          subst hv7
          have hC7 : Sep (CP ao7 L2.length) (Sep (TP bt n L2) (RP b2 n L2)) (fun k => w.heap.size ≤ k) w7 :=
            Sep.fresh (Sep.ok (TP.ok _ _ _) (RP.ok _ _ _)) hS7 (CP.of_own hown7) hk7 (fun k hk => Nat.le_trans hsz67 hk)
          obtain ⟨ao8, c8, hb8, hown8, -, -, -⟩ := Rb.cells g27
          have z0 := cell_blk hz7 0
          have z1 := cell_blk hz7 1
          have z2 := cell_blk hy7 0
          have z3 := cell_blk hy7 1
          have z4 := cell_blk hb8 0
          have hsame := same_any (.slice ao7 L2.length c7) (.slice ao8 L2.length c8) L2.length L2 w7 (Src.of_own hown7) (Src.of_own hown8) (by omega)
          have Hsame := Lib.hid hsame
          obtain ⟨m2, hm2⟩ : ∃ m2, m2 = L2.length := ⟨_, rfl⟩
          have Hm2 := Lib.hid hm2
          have hm2b : m2 ≤ 16 := by omega
          rw [← hm2] at Hsame z4 hC7 ⊢
          clear hm2 hsame hown7 hown8 hS7 hz hz7 hy7 hb8 g16 g26 g17 g27 hk7 hsz67
          go_wp2_with fail
          refine Hsame.out.mono ?_
          rintro e w8 ⟨rfl, qd, rfl⟩
          have hC8 : Sep (CP ao7 m2) (Sep (TP bt n L2) (RP b2 n L2)) (fun k => w.heap.size ≤ k) (w7.drewN qd) :=
            (Sep.ok (CP.ok _ _) (Sep.ok (TP.ok _ _ _) (RP.ok _ _ _))).kept hC7 ((Kept.refl (fun _ => False) w7).drewN qd) (fun _ _ h => h)
          have hk8 := hkw.drewN qd
          clear z0 z1 z2 z3 z4 hC7 Hsame
          go_wp2_with fail
          go_loopw [20] (fun s wi => ∃ r : Nat, r ≤ m2 ∧ s = .int .i64 r ∧ Sep (CP ao7 m2) (Sep (TP bt n L2) (RP b2 n L2)) (fun k => w.heap.size ≤ k) wi ∧ New w wi) (fun s _ => m2 - (intOf s).toNat)
          case atStart => exact ⟨0, by omega, rfl, hC8, hk8⟩
          case round =>
            clear hC8 hk8
            obtain ⟨r, hrm, rfl, hCr, hkr⟩ := hrel
            by_cases hrl : r < m2
            · obtain ⟨O5, O6, p1, p2, p3, p4⟩ := hCr
              obtain ⟨g9, cs, rfl, hgc, hcs, hOg⟩ := p1 (by omega)
              have P2 := Lib.hid p2
              have P3 := Lib.hid p3
              have P4 := Lib.hid p4
              obtain ⟨u, hu⟩ : ∃ u, cs[r * 4 + 1]? = some u := ⟨_, Array.getElem?_eq_getElem (by omega)⟩
              have hcu : wr.cell? ⟨g9, r * 4 + 1, none⟩ = some u := by rw [cell_blk hgc (r * 4 + 1)]; exact hu
              have hfu := free_blk hgc (r * 4 + 1)
              have hgc9 := heap_setCell_same wr g9 (r * 4 + 1) cs 34 (.int .i64 99) hgc
              have hks : Kept O5 wr (wr.setCell ⟨g9, r * 4 + 1, none⟩ (.int .i64 99)) := (Kept.refl O5 wr).setCell (.inr hOg) _
              have hst := Sep.step (P' := CP (some ⟨g9, 0, none⟩) m2) (Sep.ok (TP.ok bt n L2) (RP.ok b2 n L2)) P2.out P3.out P4.out (fun _ => ⟨g9, _, rfl, hgc9, by simpa using hcs, .inl hOg⟩) hks (fun k hk => Nat.le_trans hkr.size hk)
              have hk9 := hkr.new hst.2 (fun i hi => hi)
              have Hst := Lib.hid hst.1
              clear p1 p2 p3 p4 hst hks hgc9 hgc hu P2 P3 P4 hkr
              go_wp2_with fail
              go_roundw
              case rel => exact ⟨r + 1, by omega, by go_num, Hst.out, hk9⟩
              case measure => simp [intOf]; omega
            · go_wp2_with fail
              go_roundw
              case rel => exact ⟨j + 1, bt, L2, by omega, by omega, rfl, by go_num, hLn2, Sep.snd (Sep.ok (TP.ok bt n L2) (RP.ok b2 n L2)) hCr, hkr⟩
              case measure => simp [intOf]; omega
        have hk4b : (kind == 4) = false := by simpa using hk4
        have hT := HT0.out kind
        have hkw := Hk0.out (.cells #[.int .i64 kind, .int .i64 sp, .int .i64 pg, .int .i64 fr, .int .i64 ri] 45)
        have hqs := Hq.out
        subst hqs
        clear HT0 Hk0 Hq
        obtain ⟨bt, hbt⟩ : ∃ bt, bt = b := ⟨_, rfl⟩
        subst hbt
        obtain ⟨L2, hL2⟩ : ∃ L2, L2 = L := ⟨_, rfl⟩
        have HL2 := Lib.hid hL2
        have hLn2 : L2.length ≤ n := by rw [hL2]; exact hLn
        clear hL2
        rw [← HL2.out] at hT
        have hbx := TRB.box hT
        have x0 := cell_blk hbx 0
        have x1 := cell_blk hbx 1
        have x2 := cell_blk hbx 2
        have x3 := cell_blk hbx 3
        have x4 := cell_blk hbx 4
        clear hbx
        have hTR : Sep (TP bt n L2) (RP b2 n L2) (fun k => w.heap.size ≤ k) (wr.alloc (.cells #[.int .i64 kind, .int .i64 sp, .int .i64 pg, .int .i64 fr, .int .i64 ri] 45)) := hT.left (w' := wr) (fun O h => Sep.snd (RP.ok b2 n L2) h.swap)
        obtain ⟨lf, lr, li, hlook⟩ : ∃ lf lr li, lookE sp pg L2 = (lf, lr, li) := ⟨_, _, _, rfl⟩
        have Hlook := Lib.hid hlook
        clear hlook hT
        obtain ⟨O1, O2, g1, g2, g3, g4⟩ := hTR
        have G3 := Lib.hid g3
        have G4 := Lib.hid g4
        clear g3 g4
        go_wp2_with fail
        refine (look_any bt n L2 sp pg lf lr li _ g1 (by omega) Hlook.out).mono ?_
        rintro e w5 ⟨rfl, hk5⟩
        have y1 := cell_kept ((Kept.refl (fun _ => False) w5).alloc (.cells #[.int .i64 lf, .int .i64 lr] 32)) (cell_kept hk5 x1 (fun h => h)) (fun h => h)
        have y2 := cell_kept ((Kept.refl (fun _ => False) w5).alloc (.cells #[.int .i64 lf, .int .i64 lr] 32)) (cell_kept hk5 x2 (fun h => h)) (fun h => h)
        replace hkw := hkw.trans hk5
        have g15 := Tb.same g1 hk5
        have g25 := Rb.same g2 hk5
        clear x0 x1 x2 x3 x4 g1 g2 hk5
        go_wp2_with fail
        refine (rlook_any b2 n L2 sp pg lf lr li _ (Rb.alloc g25 _) (by omega) Hlook.out).mono ?_
        rintro e w6 ⟨rfl, hk6⟩
        have hz := hk6.heap (heap_alloc_new w5 (.cells #[.int .i64 lf, .int .i64 lr] 32)) (fun h => h)
        have g16 := (Tb.alloc g15 (.cells #[.int .i64 lf, .int .i64 lr] 32)).same hk6
        have g26 := (Rb.alloc g25 (.cells #[.int .i64 lf, .int .i64 lr] 32)).same hk6
        replace hkw := (hkw.alloc (.cells #[.int .i64 lf, .int .i64 lr] 32)).trans hk6
        clear y1 y2 g15 g25 hk6
        go_wp2_with fail
        refine (lines_any bt n L2 _ (Tb.alloc g16 _) (by omega)).mono ?_
        rintro e w7 ⟨v7, rfl, hown7, hk7⟩
        have hz7 := hk7.heap (((Kept.refl (fun _ => False) w6).alloc (.cells #[.int .i64 lf, .int .i64 lr] 32)).heap hz (fun h => h)) (fun h => h)
        have hy7 := hk7.heap (heap_alloc_new w6 (.cells #[.int .i64 lf, .int .i64 lr] 32)) (fun h => h)
        have g17 := (Tb.alloc g16 (.cells #[.int .i64 lf, .int .i64 lr] 32)).same hk7
        have g27 := (Rb.alloc g26 (.cells #[.int .i64 lf, .int .i64 lr] 32)).same hk7
        have hsz67 : w.heap.size ≤ (w6.alloc (.cells #[.int .i64 lf, .int .i64 lr] 32)).heap.size := (hkw.alloc (.cells #[.int .i64 lf, .int .i64 lr] 32)).size
        have hS7 : Sep (TP bt n L2) (RP b2 n L2) (fun k => w.heap.size ≤ k) (w6.alloc (.cells #[.int .i64 lf, .int .i64 lr] 32)) := ⟨O1, O2, Tb.alloc g16 _, Rb.alloc g26 _, G3.out, G4.out⟩
        replace hkw := (hkw.alloc (.cells #[.int .i64 lf, .int .i64 lr] 32)).trans hk7
        obtain ⟨ao7, c7, hv7, -⟩ := Src.of_own hown7
        subst hv7
        have hC7 : Sep (CP ao7 L2.length) (Sep (TP bt n L2) (RP b2 n L2)) (fun k => w.heap.size ≤ k) w7 :=
          Sep.fresh (Sep.ok (TP.ok _ _ _) (RP.ok _ _ _)) hS7 (CP.of_own hown7) hk7 (fun k hk => Nat.le_trans hsz67 hk)
        obtain ⟨ao8, c8, hb8, hown8, -, -, -⟩ := Rb.cells g27
        have z0 := cell_blk hz7 0
        have z1 := cell_blk hz7 1
        have z2 := cell_blk hy7 0
        have z3 := cell_blk hy7 1
        have z4 := cell_blk hb8 0
        have hsame := same_any (.slice ao7 L2.length c7) (.slice ao8 L2.length c8) L2.length L2 w7 (Src.of_own hown7) (Src.of_own hown8) (by omega)
        have Hsame := Lib.hid hsame
        obtain ⟨m2, hm2⟩ : ∃ m2, m2 = L2.length := ⟨_, rfl⟩
        have Hm2 := Lib.hid hm2
        have hm2b : m2 ≤ 16 := by omega
        rw [← hm2] at Hsame z4 hC7 ⊢
        clear hm2 hsame hown7 hown8 hS7 hz hz7 hy7 hb8 g16 g26 g17 g27 hk7 hsz67
        go_wp2_with fail
        refine Hsame.out.mono ?_
        rintro e w8 ⟨rfl, qd, rfl⟩
        have hC8 : Sep (CP ao7 m2) (Sep (TP bt n L2) (RP b2 n L2)) (fun k => w.heap.size ≤ k) (w7.drewN qd) :=
          (Sep.ok (CP.ok _ _) (Sep.ok (TP.ok _ _ _) (RP.ok _ _ _))).kept hC7 ((Kept.refl (fun _ => False) w7).drewN qd) (fun _ _ h => h)
        have hk8 := hkw.drewN qd
        clear z0 z1 z2 z3 z4 hC7 Hsame
        go_wp2_with fail
        go_loopw [20] (fun s wi => ∃ r : Nat, r ≤ m2 ∧ s = .int .i64 r ∧ Sep (CP ao7 m2) (Sep (TP bt n L2) (RP b2 n L2)) (fun k => w.heap.size ≤ k) wi ∧ New w wi) (fun s _ => m2 - (intOf s).toNat)
        case atStart => exact ⟨0, by omega, rfl, hC8, hk8⟩
        case round =>
          clear hC8 hk8
          obtain ⟨r, hrm, rfl, hCr, hkr⟩ := hrel
          by_cases hrl : r < m2
          · obtain ⟨O5, O6, p1, p2, p3, p4⟩ := hCr
            obtain ⟨g9, cs, rfl, hgc, hcs, hOg⟩ := p1 (by omega)
            have P2 := Lib.hid p2
            have P3 := Lib.hid p3
            have P4 := Lib.hid p4
            obtain ⟨u, hu⟩ : ∃ u, cs[r * 4 + 1]? = some u := ⟨_, Array.getElem?_eq_getElem (by omega)⟩
            have hcu : wr.cell? ⟨g9, r * 4 + 1, none⟩ = some u := by rw [cell_blk hgc (r * 4 + 1)]; exact hu
            have hfu := free_blk hgc (r * 4 + 1)
            have hgc9 := heap_setCell_same wr g9 (r * 4 + 1) cs 34 (.int .i64 99) hgc
            have hks : Kept O5 wr (wr.setCell ⟨g9, r * 4 + 1, none⟩ (.int .i64 99)) := (Kept.refl O5 wr).setCell (.inr hOg) _
            have hst := Sep.step (P' := CP (some ⟨g9, 0, none⟩) m2) (Sep.ok (TP.ok bt n L2) (RP.ok b2 n L2)) P2.out P3.out P4.out (fun _ => ⟨g9, _, rfl, hgc9, by simpa using hcs, .inl hOg⟩) hks (fun k hk => Nat.le_trans hkr.size hk)
            have hk9 := hkr.new hst.2 (fun i hi => hi)
            have Hst := Lib.hid hst.1
            clear p1 p2 p3 p4 hst hks hgc9 hgc hu P2 P3 P4 hkr
            go_wp2_with fail
            go_roundw
            case rel => exact ⟨r + 1, by omega, by go_num, Hst.out, hk9⟩
            case measure => simp [intOf]; omega
          · go_wp2_with fail
            go_roundw
            case rel => exact ⟨j + 1, bt, L2, by omega, by omega, rfl, by go_num, hLn2, Sep.snd (Sep.ok (TP.ok bt n L2) (RP.ok b2 n L2)) hCr, hkr⟩
            case measure => simp [intOf]; omega
      · have h2z : ¬ ((j : Int) < 80) := by omega
        go_wp2_with fail
        refine (fixed_any _).mono ?_
        rintro e w8 ⟨rfl, hk8⟩
        go_wp2_with fail
        go_ret
        exact ⟨rfl, none_below (hk.trans hk8)⟩
    · have h1z : ¬ ((j : Int) < len) := by omega
      go_wp2_with fail
      refine (fixed_any _).mono ?_
      rintro e w8 ⟨rfl, hk8⟩
      go_wp2_with fail
      go_ret
      exact ⟨rfl, none_below (hk.trans hk8)⟩
end Go.Proofs.Ytgjlghjigfclpaa

/- Package endpoint: the reference's endpoint: the same contracts. -/
import Derived.Test.YtanongcaokldmaaEndM
set_option linter.all false
namespace Go.Proofs.Ytanongcaokldmaa
open Go.RowKit

theorem info64 : (Try.prog.info? 64).map (fun i => (i.zero, i.size, i.bytes)) = some (some (aggO ⟨0, 0, 0, 0, 0, 0, 0, false⟩), 8, 64) := by kernel_rfl
/-- The reference: its block q, the slices v of those that send and u of those that receive. -/
structure Rw (O : Nat → Prop) (w : World) (q : Nat) (S : List On) (R : List Int) (v u : Value) : Prop where
  hq : w.heap[q]? = some (.cells #[v, u] 51 (0, 0))
  hv : w.ownsRow 0 64 8 v S.length (S.flatMap encO)
  hu : w.ownsRow 0 3 1 u R.length (vI R)
  oq : O q
  ov : ∀ k, v.ownBlock = some k → O k
  ou : ∀ k, u.ownBlock = some k → O k
def Rf (O : Nat → Prop) (w : World) (q : Nat) (S : List On) (R : List Int) : Prop := ∃ v u, Rw O w q S R v u
section
variable {O O' F : Nat → Prop} {w w' : World} {q : Nat} {S : List On} {R : List Int} {v u : Value}
theorem Rw.mono (h : Rw O w q S R v u) (hO : ∀ k, O k → O' k) : Rw O' w q S R v u := ⟨h.hq, h.hv, h.hu, hO _ h.oq, fun k hk => hO _ (h.ov k hk), fun k hk => hO _ (h.ou k hk)⟩
theorem Rw.kept (h : Rw O w q S R v u) (k : Kept F w w') (hF : ∀ i, O i → ¬ F i) : Rw O w' q S R v u := ⟨k.heap h.hq (hF _ h.oq), own_kept h.hv k (fun i hi => hF i (h.ov i hi)), own_kept h.hu k (fun i hi => hF i (h.ou i hi)), h.oq, h.ov, h.ou⟩
theorem Rw.same (h : Rw O w q S R v u) (k : New w w') : Rw O w' q S R v u := h.kept k (fun _ _ h => h)
theorem Rw.sized (h : Rw O w q S R v u) : Rw (fun k => O k ∧ k < w.heap.size) w q S R v u := ⟨h.hq, h.hv, h.hu, ⟨h.oq, lt_of_heap h.hq⟩, fun k hk => ⟨h.ov k hk, own_size h.hv hk⟩, fun k hk => ⟨h.ou k hk, own_size h.hu hk⟩⟩
theorem Rw.nv (h : Rw O w q S R v u) {k : Nat} (hk : v.ownBlock = some k) : k ≠ q ∧ u.ownBlock ≠ some k := by
  obtain ⟨cc, hcc⟩ := own_type h.hv hk
  refine ⟨?_, fun e => ?_⟩
  · rintro rfl
    exact heap_ne h.hq hcc (by decide) rfl
  · obtain ⟨dd, hdd⟩ := own_type h.hu e
    exact heap_ne hcc hdd (by decide) rfl
theorem Rw.nu (h : Rw O w q S R v u) {k : Nat} (hk : u.ownBlock = some k) : k ≠ q ∧ v.ownBlock ≠ some k := by
  obtain ⟨cc, hcc⟩ := own_type h.hu hk
  refine ⟨?_, fun e => ?_⟩
  · rintro rfl
    exact heap_ne h.hq hcc (by decide) rfl
  · obtain ⟨dd, hdd⟩ := own_type h.hv e
    exact heap_ne hdd hcc (by decide) rfl
theorem Rw.sh (h : Rw O w q S R v u) : ∃ ao c bo d, v = .slice ao S.length c ∧ u = .slice bo R.length d := by
  obtain ⟨ao, c, h1, -⟩ := Src.of_own h.hv
  obtain ⟨bo, d, h2, -⟩ := Src.of_own h.hu
  exact ⟨ao, c, bo, d, h1, h2⟩
/-- Other ones send. -/
theorem Rw.putS {w1 : World} {v' : Value} {S' : List On} (h : Rw O w q S R v u) (k : Kept (fun k => v.ownBlock = some k) w w1) (hown : w1.ownsRow 0 64 8 v' S'.length (S'.flatMap encO)) (hid : ∀ k, v'.ownBlock = some k → v.ownBlock = some k ∨ w.heap.size ≤ k) :
    Rf (fun k => O k ∨ w.heap.size ≤ k) (w1.setCell ⟨q, 0, none⟩ v') q S' R ∧ Kept O w (w1.setCell ⟨q, 0, none⟩ v') := by
  have kq : Kept (fun k => k = q) w1 (w1.setCell ⟨q, 0, none⟩ v') := (Kept.refl (fun k => k = q) w1).setCell (.inr rfl) _
  have hql := lt_of_heap h.hq
  have hq1 := k.heap h.hq (fun e => (h.nv e).1 rfl)
  have hne : v'.ownBlock ≠ some q := fun e => (hid q e).elim (fun h1 => (h.nv h1).1 rfl) (fun h1 => by omega)
  refine ⟨⟨v', u, heap_setCell_same w1 q 0 _ _ v' hq1, own_kept hown kq (fun i hi e => hne (by rw [hi, e])), own_kept (own_kept h.hu k (fun i hi e => (h.nu hi).2 e)) kq (fun i hi e => (h.nu hi).1 e), .inl h.oq, fun k hk => (hid k hk).imp (fun h1 => h.ov k h1) id, fun k hk => .inl (h.ou k hk)⟩, ?_⟩
  exact (k.mono (fun i _ e => h.ov i e)).trans' kq (fun i _ e => by rw [e]; exact h.oq)
/-- Other ones receive. -/
theorem Rw.putR {w1 : World} {u' : Value} {R' : List Int} (h : Rw O w q S R v u) (k : Kept (fun k => u.ownBlock = some k) w w1) (hown : w1.ownsRow 0 3 1 u' R'.length (vI R')) (hid : ∀ k, u'.ownBlock = some k → u.ownBlock = some k ∨ w.heap.size ≤ k) :
    Rf (fun k => O k ∨ w.heap.size ≤ k) (w1.setCell ⟨q, 1, none⟩ u') q S R' ∧ Kept O w (w1.setCell ⟨q, 1, none⟩ u') := by
  have kq : Kept (fun k => k = q) w1 (w1.setCell ⟨q, 1, none⟩ u') := (Kept.refl (fun k => k = q) w1).setCell (.inr rfl) _
  have hql := lt_of_heap h.hq
  have hq1 := k.heap h.hq (fun e => (h.nu e).1 rfl)
  have hne : u'.ownBlock ≠ some q := fun e => (hid q e).elim (fun h1 => (h.nu h1).1 rfl) (fun h1 => by omega)
  refine ⟨⟨v, u', heap_setCell_same w1 q 1 _ _ u' hq1, own_kept (own_kept h.hv k (fun i hi e => (h.nv hi).2 e)) kq (fun i hi e => (h.nv hi).1 e), own_kept hown kq (fun i hi e => hne (by rw [hi, e])), .inl h.oq, fun k hk => .inl (h.ov k hk), fun k hk => (hid k hk).imp (fun h1 => h.ou k h1) id⟩, ?_⟩
  exact (k.mono (fun i _ e => h.ou i e)).trans' kq (fun i _ e => by rw [e]; exact h.oq)
theorem Rf.mono (h : Rf O w q S R) (hO : ∀ k, O k → O' k) : Rf O' w q S R := let ⟨v, u, h⟩ := h; ⟨v, u, h.mono hO⟩
theorem Rf.kept (h : Rf O w q S R) (k : Kept F w w') (hF : ∀ i, O i → ¬ F i) : Rf O w' q S R := let ⟨v, u, h⟩ := h; ⟨v, u, h.kept k hF⟩
theorem Rf.same (h : Rf O w q S R) (k : New w w') : Rf O w' q S R := h.kept k (fun _ _ h => h)
theorem Rf.sized (h : Rf O w q S R) : Rf (fun k => O k ∧ k < w.heap.size) w q S R := let ⟨v, u, h⟩ := h; ⟨v, u, h.sized⟩
end
def RF (q : Nat) (S : List On) (R : List Int) : Thing := fun O w => Rf O w q S R
theorem RF.ok (q : Nat) (S : List On) (R : List Int) : (RF q S R).Ok := ⟨fun h k hF => Rf.kept h k hF, fun h => Rf.sized h, fun h hO => Rf.mono h hO⟩
theorem own_snd {w : World} {base g n c : Nat} {L : List On} (h : w.ownsRow base 64 8 (.slice (some ⟨g, 0, none⟩) n c) n (L.flatMap encO)) {k : Nat} {x : On} (hx : L[k]? = some x) :
    w.cell? ⟨g, k * 8, none⟩ = some (.int .i64 x.who) ∧ w.cell? ⟨g, k * 8 + 1, none⟩ = some (.int .i64 x.la) ∧ w.cell? ⟨g, k * 8 + 2, none⟩ = some (.int .u64 x.w0) ∧ w.cell? ⟨g, k * 8 + 3, none⟩ = some (.int .u64 x.w1) ∧ w.cell? ⟨g, k * 8 + 4, none⟩ = some (.int .u64 x.w2) ∧ w.cell? ⟨g, k * 8 + 5, none⟩ = some (.int .u64 x.w3) ∧ w.cell? ⟨g, k * 8 + 6, none⟩ = some (.int .u64 x.bg) ∧ w.cell? ⟨g, k * 8 + 7, none⟩ = some (.bool x.ca) := by
  have key : ∀ i v, i < 8 → (encO x)[i]? = some v → w.cell? ⟨g, k * 8 + i, none⟩ = some v := by
    intro i v hi hv
    have h1 := enc_get encO_len hx hi
    rw [hv] at h1
    have h2 := h.cells (g := g) rfl _ _ h1
    rw [addr_add, Nat.zero_add] at h2
    exact h2
  exact ⟨by simpa using key 0 _ (by omega) rfl, key 1 _ (by omega) rfl, key 2 _ (by omega) rfl, key 3 _ (by omega) rfl, key 4 _ (by omega) rfl, key 5 _ (by omega) rfl, key 6 _ (by omega) rfl, key 7 _ (by omega) rfl⟩
theorem slice_at {w : World} {base e s n c : Nat} {ao : Option Addr} {xs : List Value} (h : w.ownsRow base e s (.slice ao n c) n xs) (hn : 0 < n) : ∃ g, ao = some ⟨g, 0, none⟩ := by
  obtain ⟨g, cap, hv, -⟩ := Row.of_ownS h hn
  simp only [Value.slice.injEq] at hv
  exact ⟨g, hv.1⟩

def inRf (S : List On) (R : List Int) (who : Int) : Bool := S.any (fun y => y.who == who) || decide (who ∈ R)
set_option maxRecDepth 100000 in
set_option maxHeartbeats 1000000 in
theorem rthere_any {O : Nat → Prop} (q : Nat) (S : List On) (R : List Int) (who : Int) (r : Bool) (w : World) (h : Rf O w q S R) (hS : S.length ≤ 1000) (hR : R.length ≤ 1000) (hr : r = inRf S R who) :
    Calls Try.prog 31 #[.pointer (some ⟨q, 0, none⟩), .int .i64 who] w fun e w' => e = .returned (.bool r) ∧ w = w' := by
  obtain ⟨v, u, h⟩ := h
  obtain ⟨ao, c, bo, d, rfl, rfl⟩ := h.sh
  have hql := lt_of_heap h.hq
  have c0 := cell_blk h.hq 0
  have c1 := cell_blk h.hq 1
  have hv := h.hv
  have hu := h.hu
  obtain ⟨ns, hns⟩ : ∃ ns, ns = S.length := ⟨_, rfl⟩
  obtain ⟨nr, hnr⟩ : ∃ nr, nr = R.length := ⟨_, rfl⟩
  rw [← hns] at c0 hv hS
  rw [← hnr] at c1 hu hR
  have Hns := Lib.hid hns
  have Hnr := Lib.hid hnr
  have Hv := Lib.hid hv
  have Hu := Lib.hid hu
  have Hr := Lib.hid hr
  replace c0 : w.cell? ⟨q, 0, none⟩ = some (.slice ao ns c) := c0
  replace c1 : w.cell? ⟨q, 1, none⟩ = some (.slice bo nr d) := c1
  clear h hv hu hns hnr hr
  go_enter Try.func31, Try.ntmps31
  go_wp2_with fail
  go_loopw [5] (fun i wr => ∃ k : Nat, k ≤ ns ∧ i = .int .i64 k ∧ Hid ((S.take k).any (fun y => y.who == who) = false) ∧ w = wr) (fun i _ => ns - (intOf i).toNat)
  case atStart => exact ⟨0, by omega, rfl, by simp [Hid], rfl⟩
  case round =>
    obtain ⟨k, hk, rfl, Hk, rfl⟩ := hrel
    by_cases h1 : k < ns
    · obtain ⟨x, hx⟩ : ∃ x, S[k]? = some x := ⟨_, List.getElem?_eq_getElem (by have := Hns.out; omega)⟩
      obtain ⟨g, rfl⟩ := slice_at Hv.out (by omega)
      obtain ⟨x0, -⟩ := own_snd Hv.out hx
      have Hx := Lib.hid hx
      clear hx
      by_cases e1 : x.who = who
      · have hrt : r = true := by
          rw [Hr.out]; unfold inRf
          have : S.any (fun y => y.who == who) = true := by rw [List.any_eq_true]; exact ⟨x, List.mem_of_getElem? Hx.out, by simpa using e1⟩
          rw [this]; rfl
        subst hrt
        have e1b : (x.who == who) = true := by simpa using e1
        go_wp2_with fail
        go_ret
        exact ⟨rfl, rfl⟩
      · have e1b : (x.who == who) = false := by simpa using e1
        have Hs : Hid ((S.take (k + 1)).any (fun y => y.who == who) = false) := by
          show _ = _
          rw [List.take_add_one, Hx.out, List.any_append, Hk.out]
          simpa using e1
        go_wp2_with fail
        go_roundw
        case rel => exact ⟨k + 1, by omega, by go_num, Hs, trivial⟩
        case measure => simp [intOf]; omega
    · have hs : S.any (fun y => y.who == who) = false := by
        have h9 := Hk.out
        rwa [List.take_of_length_le (by have := Hns.out; omega)] at h9
      have hrR : r = decide (who ∈ R) := by rw [Hr.out]; unfold inRf; rw [hs]; rfl
      have HrR := Lib.hid hrR
      clear hs hrR Hk Hr
      go_wp2_with fail
      go_loopw [6] (fun i wr => ∃ k : Nat, k ≤ nr ∧ i = .int .i64 k ∧ Hid (who ∉ R.take k) ∧ w = wr) (fun i _ => nr - (intOf i).toNat)
      case atStart => exact ⟨0, by omega, rfl, by simp [Hid], rfl⟩
      case round =>
        obtain ⟨k, hk, rfl, Hk, rfl⟩ := hrel
        by_cases h2 : k < nr
        · obtain ⟨y, hy⟩ : ∃ y, R[k]? = some y := ⟨_, List.getElem?_eq_getElem (by have := Hnr.out; omega)⟩
          obtain ⟨g, rfl⟩ := slice_at Hu.out (by omega)
          have x0 := own_int Hu.out hy
          have Hy := Lib.hid hy
          clear hy
          by_cases e1 : y = who
          · have hrt : r = true := by
              rw [HrR.out]
              have : who ∈ R := by rw [← e1]; exact List.mem_of_getElem? Hy.out
              simpa using this
            subst hrt
            have e1b : (y == who) = true := by simpa using e1
            go_wp2_with fail
            go_ret
            exact ⟨rfl, rfl⟩
          · have e1b : (y == who) = false := by simpa using e1
            have Hs : Hid (who ∉ R.take (k + 1)) := by
              show who ∉ _
              rw [List.take_add_one, Hy.out]
              simp only [Option.toList_some, List.mem_append, List.mem_singleton, not_or]
              exact ⟨Hk.out, fun e => e1 e.symm⟩
            go_wp2_with fail
            go_roundw
            case rel => exact ⟨k + 1, by omega, by go_num, Hs, trivial⟩
            case measure => simp [intOf]; omega
        · have hrt : r = false := by
            have h9 := Hk.out
            rw [List.take_of_length_le (by have := Hnr.out; omega)] at h9
            rw [HrR.out]
            simpa using h9
          subst hrt
          go_wp2_with fail
          go_ret
          exact ⟨rfl, rfl⟩

set_option maxRecDepth 100000 in
set_option maxHeartbeats 1000000 in
theorem rwaits_any {O : Nat → Prop} (q : Nat) (S : List On) (R : List Int) (F : List Int) (r : Bool) (w : World) (h : Rf O w q S R) (hS : S.length ≤ 1000) (hR : R.length ≤ 1000) (hF : F = R ++ S.map (fun x => x.who)) (hr : r = decide (0 < S.length)) :
    Calls Try.prog 24 #[.pointer (some ⟨q, 0, none⟩)] w fun e w' => ∃ v, e = .returned (.tuple #[v, .bool r]) ∧ w'.ownsRow w.heap.size 3 1 v F.length (vI F) ∧ New w w' := by
  obtain ⟨v, u, h⟩ := h
  obtain ⟨ao, c, bo, d, rfl, rfl⟩ := h.sh
  have hql := lt_of_heap h.hq
  have c0 := cell_blk h.hq 0
  have c1 := cell_blk h.hq 1
  have hv := h.hv
  have hu := h.hu
  obtain ⟨i3, hi, hz0, hz1, hz2⟩ := info_parts info3
  obtain ⟨ns, hns⟩ : ∃ ns, ns = S.length := ⟨_, rfl⟩
  obtain ⟨nr, hnr⟩ : ∃ nr, nr = R.length := ⟨_, rfl⟩
  rw [← hns] at c0 hv hS hr
  rw [← hnr] at c1 hu hR
  have Hns := Lib.hid hns
  have Hnr := Lib.hid hnr
  have Hv := Lib.hid hv
  have Hu := Lib.hid hu
  have HF := Lib.hid hF
  have Hr := Lib.hid hr
  replace c0 : w.cell? ⟨q, 0, none⟩ = some (.slice ao ns c) := c0
  replace c1 : w.cell? ⟨q, 1, none⟩ = some (.slice bo nr d) := c1
  have kA : New w (w.alloc (.cells #[] 3)) := (Kept.refl _ _).alloc _
  have d1 := cell_kept kA c1 (fun h => h)
  have Hsu := Lib.hid (Src.of_own (own_same Hu.out kA))
  clear h hv hu hns hnr hr hF
  go_enter Try.func24, Try.ntmps24
  go_wp2_with (at_builtin; refine wpList_append_src2 rfl _ _ 31 rfl w.heap.size 3 i3 (.int .i64 0) 1 8 Try.underlying31 hi hz0 hz1 hz2 rfl (by decide) _ 0 [] rfl (World.ownsRow_made w #[] 0 (Nat.le_refl _) (by unfold maxLen; omega) rfl) _ nr (vI R) (by first | rfl | exact rfl) Hsu.out (by intro x hx; obtain ⟨y, -, rfl⟩ := List.mem_map.1 hx; rfl) (by unfold maxLen; omega) (by omega) (by simp) ?_; intro v' w5 hown' hgr hid; simp only [Nat.zero_add, List.nil_append] at hown'; obtain ⟨ao5, c5, hv5, _⟩ := Src.of_own hown'; subst hv5; have kg : New w w5 := kA.grown hgr (fun k hk => .inl (by have h9 : w.heap.size = k := Option.some.inj hk; omega)); have g0 := cell_kept kg c0 (fun h => h); have Hown5 := Lib.hid hown'; clear hown' hgr hid)
  go_loopw [4, 5] (fun l i wr => ∃ (k m : Nat) (al : Option Addr) (cl : Nat), k ≤ ns ∧ i = .int .i64 k ∧ m = nr + k ∧ l = .slice al m cl ∧ Hid (wr.ownsRow w.heap.size 3 1 (.slice al m cl) m (vI (R ++ (S.take k).map (fun x => x.who)))) ∧ New w wr) (fun _ i _ => ns - (intOf i).toNat)
  case atStart => exact ⟨0, nr, ao5, c5, by omega, rfl, rfl, rfl, by rw [List.take_zero, List.map_nil, List.append_nil]; exact Hown5.out, kg⟩
  case round =>
    clear Hown5 kg g0
    obtain ⟨k, m, al, cl, hk, rfl, hmk, rfl, HownK, hkr⟩ := hrel
    have Hmk := Lib.hid hmk
    have hm2 : m ≤ 2000 := by omega
    have g0 := cell_kept hkr c0 (fun h => h)
    have hszr := hkr.size
    clear hmk
    by_cases h1 : k < ns
    · obtain ⟨x, hx⟩ : ∃ x, S[k]? = some x := ⟨_, List.getElem?_eq_getElem (by have := Hns.out; omega)⟩
      obtain ⟨g, rfl⟩ := slice_at Hv.out (by omega)
      obtain ⟨x0, -⟩ := own_snd (own_same Hv.out hkr) hx
      have Hlit := Lib.hid (Src.lit wr #[.int .i64 x.who] 3 1 1 rfl)
      have HownA := Lib.hid (own_same HownK.out ((Kept.refl _ wr).alloc (.cells #[.int .i64 x.who] 3)))
      have hst : R ++ (S.take (k + 1)).map (fun x => x.who) = (R ++ (S.take k).map (fun x => x.who)) ++ [x.who] := by rw [List.take_add_one, hx, List.map_append, List.append_assoc]; rfl
      have Hst := Lib.hid hst
      clear hx hst
      go_wp2_with (at_builtin; refine wpList_append_src2 rfl _ _ 31 rfl w.heap.size 3 i3 (.int .i64 0) 1 8 Try.underlying31 hi hz0 hz1 hz2 rfl (by decide) (.slice al m cl) m (vI (R ++ (S.take k).map (fun x => x.who))) rfl HownA.out _ 1 _ rfl Hlit.out (by simp [Value.oneCell']) (by unfold maxLen; omega) (by omega) (by simp; omega) ?_; intro v' w5 hown' hgr hid; obtain ⟨ao5, c5, hv5, _⟩ := Src.of_own hown'; rw [hv5])
      subst hv5
      have kg : New w w5 := (hkr.alloc (.cells #[.int .i64 x.who] 3)).grown hgr (fun k hk => .inl (own_block HownA.out hk))
      have HO := Lib.hid hown'
      clear hown' hgr hid
      go_roundw
      case rel => exact ⟨k + 1, m + 1, ao5, c5, by omega, by go_num, by have := Hmk.out; omega, rfl, by show World.ownsRow _ _ _ _ _ _ _; rw [Hst.out]; simpa [vI] using HO.out, kg⟩
      case measure => simp [intOf]; omega
    · obtain rfl : k = ns := by omega
      have hown := HownK.out
      rw [List.take_of_length_le (by have := Hns.out; omega), ← HF.out] at hown
      have hmF : m = F.length := by
        have h9 := hown.1
        simpa [vI] using h9.symm
      have HO := Lib.hid hown
      have HmF := Lib.hid hmF
      clear hown hmF HownK
      by_cases h0 : 0 < k
      · obtain rfl : r = true := by rw [Hr.out]; simpa using h0
        have h0i : (0 : Int) < k := by omega
        go_wp2_with fail
        go_quiet (fail)
        go_wp2_with fail
        go_ret2
        exact ⟨_, rfl, by rw [← HmF.out]; exact HO.out, hkr.drewN _⟩
      · obtain rfl : r = false := by rw [Hr.out]; simpa using h0
        obtain rfl : k = 0 := by omega
        go_wp2_with fail
        go_quiet (fail)
        go_wp2_with fail
        go_ret2
        exact ⟨_, rfl, by rw [← HmF.out]; exact HO.out, hkr.drewN _⟩
end Go.Proofs.Ytanongcaokldmaa

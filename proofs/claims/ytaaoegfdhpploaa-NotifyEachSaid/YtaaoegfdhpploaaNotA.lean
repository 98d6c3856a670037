/- Package notify: slices of numbers: where one is, all but one, all but the first, a copy. -/
import Derived.Test.YtaaoegfdhpploaaRows
import Derived.Test.YtaaoegfdhpploaaBase
import Derived.Test.YtaaoegfdhpploaaArgs
import Derived.WalkKit
import Derived.Outline
import Derived.WalkSpells
import Derived.WalkLawsBesides
import Derived.Deep.QuietTactic
import Derived.BigQuiet
import Derived.StillTailTactics
set_option linter.all false
namespace Go.Proofs.Ytaaoegfdhpploaa
open Go.RowKit

abbrev vI (L : List Int) : List Value := L.map (Value.int .i64)
theorem info3 : (Try.prog.info? 3).map (fun i => (i.zero, i.size, i.bytes)) = some (some (.int .i64 0), 1, 8) := by kernel_rfl
theorem vI_one (L : List Int) : ∀ u ∈ vI L, u.oneCell' = true := by
  intro u hu
  obtain ⟨x, _, rfl⟩ := List.mem_map.1 hu
  rfl
theorem own_int {w : World} {base g n c : Nat} {F : List Int} (h : w.ownsRow base 3 1 (.slice (some ⟨g, 0, none⟩) n c) n (vI F)) {j : Nat} {y : Int} (hy : F[j]? = some y) : w.cell? ⟨g, j, none⟩ = some (.int .i64 y) := by
  have h2 := h.cells (g := g) rfl j (.int .i64 y) (by simp [vI, hy])
  rwa [addr_add, Nat.zero_add] at h2

set_option maxRecDepth 100000 in
theorem index27_any (v : Value) (x : Int) (L : List Int) (w : World) (hs : Src w v L.length 1 (vI L)) (hL : L.length ≤ 1000000) :
    Calls Try.prog 27 #[v, .int .i64 x] w fun e w' => ∃ r : Int, e = .returned (.int .i64 r) ∧ decide (0 ≤ r) = decide (x ∈ L) ∧ w = w' := by
  obtain ⟨hl, ao, c, rfl, hc⟩ := hs.ints
  have Hc := Lib.hid hc
  clear hc hs hl
  obtain ⟨len, hlen⟩ : ∃ len, len = L.length := ⟨_, rfl⟩
  have Hlen := Lib.hid hlen
  rw [← hlen] at hL Hc ⊢
  clear hlen
  go_enter Try.func27, Try.ntmps27
  go_wp2_with fail
  go_loopw [8] (fun i wr => ∃ k : Nat, k ≤ len ∧ i = .int .i64 k ∧ Hid (x ∉ L.take k) ∧ wr = w) (fun i _ => len - (intOf i).toNat)
  case atStart => exact ⟨0, by omega, rfl, by simp [Hid], rfl⟩
  case round =>
    obtain ⟨k, hk, rfl, Hk, rfl⟩ := hrel
    by_cases h1 : k < len
    · obtain ⟨ad, rfl, hcell⟩ := Hc.out k h1
      have hx : L[k]? = some (L.getD k 0) := by simp [List.getD, show k < L.length by rw [← Hlen.out]; omega]
      have Hx := Lib.hid hx
      clear hx
      obtain ⟨u, hu⟩ : ∃ u, u = L.getD k 0 := ⟨_, rfl⟩
      rw [← hu] at Hx hcell
      clear hu
      by_cases h2 : x = u
      · have h2b : (x == u) = true := by simpa using h2
        have H2 := Lib.hid h2
        clear h2
        go_wp2_with fail
        go_ret
        refine ⟨k, rfl, ?_, rfl⟩
        have : x ∈ L := by rw [H2.out]; exact List.mem_of_getElem? Hx.out
        simp [this]
      · have h2b : (x == u) = false := by simpa using h2
        have H2 := Lib.hid h2
        clear h2
        go_wp2_with fail
        go_roundw
        case rel => exact ⟨k + 1, by omega, by go_num, by
          show x ∉ L.take (k + 1)
          rw [List.take_add_one, Hx.out]
          simp only [Option.toList_some, List.mem_append, List.mem_singleton, not_or]
          exact ⟨Hk.out, H2.out⟩, trivial⟩
        case measure => simp [intOf]; omega
    · go_wp2_with fail
      go_ret
      refine ⟨-1, rfl, ?_, rfl⟩
      have := Hk.out
      rw [List.take_of_length_le (by have := Hlen.out; omega)] at this
      simp [this]

theorem contains_any (v : Value) (x : Int) (L : List Int) (r : Bool) (w : World) (hs : Src w v L.length 1 (vI L)) (hL : L.length ≤ 1000000) (hr : r = decide (x ∈ L)) :
    Calls Try.prog 23 #[v, .int .i64 x] w fun e w' => e = .returned (.bool r) ∧ w = w' := by
  go_enter Try.func23, Try.ntmps23
  go_wp2_with fail
  refine (index27_any v x L w hs hL).mono ?_
  rintro e w1 ⟨q, rfl, hq, rfl⟩
  go_wp2
  go_ret
  exact ⟨ret_bool (by rw [hr, ← hq]), rfl⟩

/-- What Cancel's closure answers. -/
theorem want_any (y x : Int) (bb : Nat) (r : Bool) (w : World) (hb : w.heap[bb]? = some (.cells #[.int .i64 x] 3 (0, 0))) (hr : (y == x) = r) :
    Calls Try.prog 26 #[.int .i64 y, .pointer (some ⟨bb, 0, none⟩)] w fun e w' => e = .returned (.bool r) ∧ w = w' := by
  have hc := cell_blk hb 0
  subst hr
  go_enter Try.func26, Try.ntmps26
  go_wp2
  go_ret
  exact ⟨rfl, rfl⟩

set_option maxRecDepth 100000 in
theorem index28_any (v : Value) (x : Int) (bb : Nat) (L : List Int) (w : World) (hb : w.heap[bb]? = some (.cells #[.int .i64 x] 3 (0, 0))) (hs : Src w v L.length 1 (vI L)) (hL : L.length ≤ 1000000) :
    Calls Try.prog 28 #[v, .func (.func 26) #[] #[.pointer (some ⟨bb, 0, none⟩)]] w fun e w' => ∃ r : Int, e = .returned (.int .i64 r) ∧ w = w' ∧
      ((r = -1 ∧ x ∉ L) ∨ ∃ k : Nat, r = k ∧ L[k]? = some x ∧ x ∉ L.take k) := by
  obtain ⟨hl, ao, c, rfl, hc⟩ := hs.ints
  have Hc := Lib.hid hc
  have Hb := Lib.hid hb
  clear hc hs hl hb
  obtain ⟨len, hlen⟩ : ∃ len, len = L.length := ⟨_, rfl⟩
  have Hlen := Lib.hid hlen
  rw [← hlen] at hL Hc ⊢
  clear hlen
  go_enter Try.func28, Try.ntmps28
  go_wp2_with fail
  go_loopw [8] (fun i wr => ∃ k : Nat, k ≤ len ∧ i = .int .i64 k ∧ Hid (x ∉ L.take k) ∧ wr = w) (fun i _ => len - (intOf i).toNat)
  case atStart => exact ⟨0, by omega, rfl, by simp [Hid], rfl⟩
  case round =>
    obtain ⟨k, hk, rfl, Hk, rfl⟩ := hrel
    by_cases h1 : k < len
    · obtain ⟨ad, rfl, hcell⟩ := Hc.out k h1
      have hx : L[k]? = some (L.getD k 0) := by simp [List.getD, show k < L.length by rw [← Hlen.out]; omega]
      have Hx := Lib.hid hx
      clear hx
      obtain ⟨u, hu⟩ : ∃ u, u = L.getD k 0 := ⟨_, rfl⟩
      rw [← hu] at Hx hcell
      clear hu
      cases hr : (u == x) with
      | true =>
        have hw := want_any u x bb true _ Hb.out hr
        have H2 := Lib.hid hr
        clear hr
        go_wp2_with fail
        refine hw.mono ?_
        rintro e w1 ⟨rfl, rfl⟩
        go_wp2_with fail
        go_ret
        refine ⟨k, rfl, rfl, .inr ⟨k, rfl, ?_, Hk.out⟩⟩
        rw [Hx.out]; simpa using H2.out
      | false =>
        have hw := want_any u x bb false _ Hb.out hr
        have H2 := Lib.hid hr
        clear hr
        go_wp2_with fail
        refine hw.mono ?_
        rintro e w1 ⟨rfl, rfl⟩
        go_wp2_with fail
        go_roundw
        case rel => exact ⟨k + 1, by omega, by go_num, by
          show x ∉ L.take (k + 1)
          rw [List.take_add_one, Hx.out]
          simp only [Option.toList_some, List.mem_append, List.mem_singleton, not_or]
          exact ⟨Hk.out, fun e => by have := H2.out; simp [e] at this⟩, trivial⟩
        case measure => simp [intOf]; omega
    · go_wp2_with fail
      go_ret
      refine ⟨-1, rfl, rfl, .inl ⟨rfl, ?_⟩⟩
      have := Hk.out
      rwa [List.take_of_length_le (by have := Hlen.out; omega)] at this

/-- An append for which there is room. -/
theorem wpList_append_in {P : Program} {w : World} {ops : Array Oper} {rest : List Oper} {o : Oper} {a : Act} {Q : Exit → Act → World → Prop} (hgd : o.guard = none) (s x : Operand) (t : TypeId)
    (ho : o.op = .call { callee := .builtin .append, args := #[s, x], argTypes := #[t, t] })
    (e : TypeId) (i : TypeInfo) (ht : P.underlying t = some (.slice e)) (hi : P.info? e = some i)
    (g n cap : Nat) (cur : Array Value) (hs : a.eval s = .slice (some ⟨g, 0, none⟩) n cap) (hg : w.heap[g]? = some (.cells cur e (0, 0)))
    (ad : Addr) (m c : Nat) (news : List Value) (hx : a.eval x = .slice (some ad) m c) (hl : news.length = m * i.size) (hnews : ∀ j u, news[j]? = some u → w.cell? (ad.add j) = some u) (h1 : ∀ u ∈ news, u.oneCell' = true)
    (hroom : n + m ≤ cap) (hfit : n * i.size + news.length ≤ cur.size)
    (h : ∀ w', w'.heap[g]? = some (.cells (cur.toList.take (n * i.size) ++ news ++ cur.toList.drop (n * i.size + news.length)).toArray e (0, 0)) → Kept (fun k => k = g) w w' →
      wpList P ops Q rest (a.put o.dst (.slice (some ⟨g, 0, none⟩) (n + m) cap)) w') : wpList P ops Q (o :: rest) a w := by
  have hr := run_append_room (P := P) w t o.type e i ht hi g n cap cur hg ad m c news hl hnews h1 hroom hfit
  have hK' := h (w.setRow g (cur.toList.take (n * i.size) ++ news ++ cur.toList.drop (n * i.size + news.length)).toArray) (setRow_heap w g cur _ e _ hg) ((Kept.refl (fun k => k = g) _).setRow (.inr rfl) _)
  refine wpList_plain hgd fun K hK => ?_
  unfold Oper.wp execOp
  simp only [ho, resolve, invoke, builtin, Sem.run_bind, Sem.run_pure, Result.andThen_ok, List.map_toArray, List.map_cons, List.map_nil, hs, hx, hr]
  exact hK _ _ hK'
theorem own_cap {w : World} {base : Nat} {v : Value} {n cap : Nat} {ao : Option Addr} {e : TypeId} {s : Nat} {xs : List Value} (h : w.ownsRow base e s v n xs) (hv : v = .slice ao n cap) : n ≤ cap := by
  rcases h.2 with ⟨h1, h2⟩ | ⟨g, cap', cur, h1, _, _, h2, _⟩
  · omega
  · rw [hv] at h1; cases h1; exact h2
end Go.Proofs.Ytaaoegfdhpploaa

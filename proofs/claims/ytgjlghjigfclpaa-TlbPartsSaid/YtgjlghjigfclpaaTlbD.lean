/- Package tlb: the first line of a slice goes, in place; a copy of a slice. -/
import Derived.Test.YtgjlghjigfclpaaTlbC
set_option linter.all false
namespace Go.Proofs.Ytgjlghjigfclpaa
open Go.RowKit

/-- An append for which there is room. -/
theorem wpList_append_in {P : Program} {w : World} {ops : Array Oper} {rest : List Oper} {o : Oper} {a : Act} {Q : Exit → Act → World → Prop} (hgd : o.guard = none) (s x : Operand) (t : TypeId)
    (ho : o.op = .call { callee := .builtin .append, args := #[s, x], argTypes := #[t, t] })
    (e : TypeId) (i : TypeInfo) (ht : P.underlying t = some (.slice e)) (hi : P.info? e = some i)
    (g n cap : Nat) (cur : Array Value) (hs : a.eval s = .slice (some ⟨g, 0, none⟩) n cap) (hg : w.heap[g]? = some (.cells cur e (0, 0)))
    (ad : Addr) (m c : Nat) (news : List Value) (hx : a.eval x = .slice (some ad) m c) (hl : news.length = m * i.size) (hnews : ∀ j u, news[j]? = some u → w.cell? (ad.add j) = some u) (h1 : ∀ u ∈ news, u.oneCell' = true)
    (hroom : n + m ≤ cap) (hfit : n * i.size + news.length ≤ cur.size)
    (h : ∀ w', w'.heap[g]? = some (.cells (cur.toList.take (n * i.size) ++ news ++ cur.toList.drop (n * i.size + news.length)).toArray e (0, 0)) → Kept (fun k => k = g) w w' →
      wpList P ops Q rest (a.put o.dst (.slice (some ⟨g, 0, none⟩) (n + m) cap)) w') : wpList P ops Q (o :: rest) a w := by
  have hr := run_append_room (P := P) w t o.type e i ht hi g n cap cur hg ad m c news hl hnews h1 hroom hfit
  have hK' := h (w.setRow g (cur.toList.take (n * i.size) ++ news ++ cur.toList.drop (n * i.size + news.length)).toArray) (setRow_heap w g cur _ e _ hg) ((Kept.refl (fun k => k = g) _).setRow (.inr rfl) _)
  refine wpList_plain hgd fun K hK => ?_
  unfold Oper.wp execOp
  simp only [ho, resolve, invoke, builtin, Sem.run_bind, Sem.run_pure, Result.andThen_ok, List.map_toArray, List.map_cons, List.map_nil, hs, hx, hr]
  exact hK _ _ hK'

theorem encL_one (L : List Ln) : ∀ u ∈ L.flatMap encL, u.oneCell' = true := by
  intro u hu
  simp only [List.mem_flatMap] at hu
  obtain ⟨x, _, hx⟩ := hu
  simp [encL] at hx
  rcases hx with rfl | rfl | rfl | rfl <;> rfl

set_option maxRecDepth 100000 in
theorem delete_first (v : Value) (a : Ln) (l : List Ln) (w : World) (hown : w.ownsRow 0 34 4 v (l.length + 1) ((a :: l).flatMap encL)) (hL : l.length ≤ 1000000) :
    Calls Try.prog 29 #[v, .int .i64 0, .int .i64 1] w fun e w' => ∃ v', e = .returned v' ∧ w'.ownsRow 0 34 4 v' l.length (l.flatMap encL) ∧ v'.ownBlock = v.ownBlock ∧ Kept (fun k => v.ownBlock = some k) w w' := by
  rcases hown.2 with ⟨_, h0⟩ | ⟨g, cap, cur, rfl, -, hg, hnc, hcm, hcs, hct⟩
  · omega
  have hl := lines_len l
  have Hct := Lib.hid hct
  have Hcs := Lib.hid hcs
  have hcl : ∀ j u, (l.flatMap encL)[j]? = some u → w.cell? ⟨g, 4 + j, none⟩ = some u := by
    intro j u hj
    have := hown.cells (g := g) rfl (4 + j) u (by
      rw [List.flatMap_cons, List.getElem?_append_right (by rw [encL_len]; omega), encL_len, Nat.add_sub_cancel_left]; exact hj)
    rw [addr_add, Nat.zero_add] at this
    exact this
  have Hcl := Lib.hid hcl
  clear hcl hown hct hcs
  obtain ⟨i34, hi, hz0, hz1, hz2⟩ := info_parts info34
  obtain ⟨len, hlen⟩ : ∃ len, len = l.length := ⟨_, rfl⟩
  have Hl := Lib.hid hl
  have Hlen := Lib.hid hlen
  rw [← hlen] at hL hnc ⊢
  clear hlen hl
  have k1 : (1 : Int) ≤ (len : Int) + 1 := by omega
  have k2 : ((len + 1 : Nat) : Int) = (len : Int) + 1 := by omega
  have k3 : (1 : Int) ≤ ((len + 1 : Nat) : Int) := by omega
  go_enter Try.func29, Try.ntmps29
  go_wp2_with fail
  go_still_tail 6, (by kernel_rfl)
  change wpList _ _ _ _ _ w.drew
  obtain ⟨ad, had, hadv⟩ : ∃ ad : Addr, (if cap = 1 then some (⟨g, 0, none⟩ : Addr) else some ⟨g, 4, none⟩) = some ad ∧ (0 < len → ad = ⟨g, 4, none⟩) := by
    by_cases h : cap = 1
    · exact ⟨_, by rw [if_pos h], fun h0 => by omega⟩
    · exact ⟨_, by rw [if_neg h], fun _ => rfl⟩
  rw [had]
  clear had
  have Hadv := Lib.hid hadv
  clear hadv
  refine wpList_append_in rfl (.tmp 22) (.tmp 25) 27 rfl 34 i34 Try.underlying27 hi g 0 cap cur rfl (by exact hg) ad len (cap - 1) (l.flatMap encL) rfl ?a1 ?a2 (encL_one l) (by omega) ?a3 ?_
  case a1 => rw [Hl.out, hz1, Hlen.out]
  case a2 =>
    intro j u hj
    have h0 : 0 < len := by
      have := lt_of_some hj
      have := Hl.out
      have := Hlen.out
      omega
    rw [Hadv.out h0, addr_add, World.cell?_drew]
    exact Hcl.out j u hj
  case a3 => have := Hl.out; have := Hlen.out; have := Hcs.out; omega
  intro w2 hg2 hk2
  obtain ⟨cur2, hcur2⟩ : ∃ cur2, (cur.toList.take (0 * i34.size) ++ l.flatMap encL ++ cur.toList.drop (0 * i34.size + (l.flatMap encL).length)).toArray = cur2 := ⟨_, rfl⟩
  rw [hcur2] at hg2
  have hs2 : cur2.size = cap * 4 := by
    rw [← hcur2]
    have := Hl.out; have := Hlen.out; have := Hcs.out
    simp only [Nat.zero_mul, List.take_zero, List.nil_append, Nat.zero_add, List.size_toArray, List.length_append, List.length_drop, Array.length_toList]
    omega
  have ht2 : cur2.toList.take (len * 4) = l.flatMap encL := by
    rw [← hcur2]
    have := Hl.out; have := Hlen.out
    simp only [Nat.zero_mul, List.take_zero, List.nil_append, Nat.zero_add]
    rw [List.take_left' (by omega)]
  have Hs2 := Lib.hid hs2
  have Ht2 := Lib.hid ht2
  clear hcur2 hs2 ht2
  simp only [Nat.zero_add]
  go_wp2_with (refine wpList_clear_blk rfl (.tmp 31) 27 rfl 34 Try.underlying27 i34 (aggL ⟨0, 0, 0, 0⟩) 4 hi hz0 rfl (by simp [Value.cells, Value.oneCell']) _ _ _ rfl g (len * 4) cur2 34 hg2 (by intro h0; rfl) (by have := Hs2.out; omega) ?_; intro w' hg' hk')
  go_ret
  refine ⟨_, rfl, ⟨by rw [Hl.out, Hlen.out], .inr ⟨g, cap, _, rfl, Nat.zero_le _, hg', by omega, hcm, ?_, ?_⟩⟩, rfl, ((Kept.refl _ _).drew.trans (hk2.trans hk')).mono (fun i _ h => by simp [Value.ownBlock, h])⟩
  · have := Hs2.out
    simp only [List.size_toArray, splice, List.length_append, List.length_take, List.length_drop, Array.length_toList, size_zeroCells, hzs4]
    omega
  · have h5 := Ht2.out
    have h6 := Hl.out
    rw [← Hlen.out] at h6
    rw [← h5]
    simp only [splice, List.append_assoc]
    rw [List.take_left' (by rw [h5, h6])]

/-- A copy of a slice. -/
theorem clone_any (v : Value) (L : List Ln) (w : World) (hown : w.ownsRow 0 34 4 v L.length (L.flatMap encL)) (hL : L.length ≤ 1000000) :
    Calls Try.prog 25 #[v] w fun e w' => ∃ v', e = .returned v' ∧ w'.ownsRow 0 34 4 v' L.length (L.flatMap encL) ∧ (∀ k, v'.ownBlock = some k → w.heap.size ≤ k) ∧ New w w' := by
  obtain ⟨i34, hi, hz0, hz1, hz2⟩ := info_parts info34
  have heq := fun (w : World) (a : Option Addr) (n c n' c' : Nat) => Lib.run_eql_slice_nil (P := Try.prog) w 27 34 a n c n' c' Try.underlying27
  rcases hown.2 with ⟨rfl, h0⟩ | ⟨g, cap, cur, rfl, -, hg, hnc, hcm, hcs, hct⟩
  · have hL0 : L = [] := List.eq_nil_of_length_eq_zero h0
    subst hL0
    go_enter Try.func25, Try.ntmps25
    go_wp2
    go_ret
    exact ⟨_, rfl, ⟨by simp, .inl ⟨rfl, rfl⟩⟩, fun k hk => by simp [Value.ownBlock] at hk, Kept.refl _ _⟩
  · have hsrc := (Src.of_own hown).alloc (.cells #[] 34)
    have Hl := Lib.hid (lines_len L)
    have hown0 : (w.alloc (.cells #[] 34)).ownsRow w.heap.size 34 4 (.slice (some ⟨w.heap.size, 0, none⟩) 0 0) 0 [] :=
      ⟨rfl, .inr ⟨_, 0, #[], rfl, Nat.le_refl _, heap_alloc_new _ _, Nat.le_refl _, Nat.zero_le _, rfl, rfl⟩⟩
    have Hown0 := Lib.hid hown0
    have Hsrc := Lib.hid hsrc
    clear hown0 hsrc hown hct hcs
    obtain ⟨len, hlen⟩ : ∃ len, len = L.length := ⟨_, rfl⟩
    have Hlen := Lib.hid hlen
    rw [← hlen] at hL hnc ⊢
    clear hlen
    go_enter Try.func25, Try.ntmps25
    go_wp2_with (at_builtin; refine wpList_append_src2 rfl _ _ 27 rfl w.heap.size 34 i34 (aggL ⟨0, 0, 0, 0⟩) 4 32 Try.underlying27 hi hz0 hz1 hz2 rfl (by decide) _ 0 [] rfl Hown0.out _ len (L.flatMap encL) (by first | rfl | exact rfl) (by have := Hsrc.out; rw [← Hlen.out] at this; exact this) (encL_one L) (by simp [maxLen]; omega) (by omega) (by simp) ?_; intro v' w' hown' hgr hbk)
    go_ret
    rw [Nat.zero_add] at hown'
    refine ⟨_, rfl, own_mono hown' (Nat.zero_le _), fun k hk => own_block hown' hk, ?_⟩
    exact ((Kept.refl (fun _ => False) w).alloc _).grown hgr (fun k hk => by cases hk; exact .inl (Nat.le_refl _))
end Go.Proofs.Ytgjlghjigfclpaa

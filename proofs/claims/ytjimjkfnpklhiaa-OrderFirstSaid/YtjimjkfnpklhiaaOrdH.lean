/- Package order: Calls. -/
import Derived.Test.YtjimjkfnpklhiaaOrdG
set_option linter.all false
namespace Go.Proofs.Ytjimjkfnpklhiaa
open Go.RowKit Go.Maps

def callsE (L : List Sn) : List Int := (L.filter (fun s => s.k == 1)).map Sn.n
theorem callsE_take {L : List Sn} {k : Nat} {s : Sn} (h : L[k]? = some s) : callsE (L.take (k + 1)) = callsE (L.take k) ++ (if s.k = 1 then [s.n] else []) := by
  rw [List.take_succ, h, callsE, callsE, List.filter_append, List.map_append]
  by_cases h1 : s.k = 1
  · simp [h1]
  · simp [h1]
theorem callsE_len (L : List Sn) : (callsE L).length ≤ L.length := by rw [callsE, List.length_map]; exact List.length_filter_le _ _

set_option maxRecDepth 100000 in
set_option maxHeartbeats 2000000 in
theorem ocalls_any (lv : Value) (L : List Sn) (w : World) (hs : Src w lv L.length 10 (L.flatMap encS)) (hv : ∀ s ∈ L, Src w s.v s.t.fg.length 4 (s.t.fg.flatMap encL)) (hl : L.length ≤ 1000) :
    Calls Try.prog 16 #[lv] w fun e w' => ∃ v, e = .returned v ∧ w'.ownsRow w.heap.size 3 1 v (callsE L).length ((callsE L).map (Value.int .i64)) ∧ New w w' := by
  obtain ⟨-, ao, cc, rfl, -⟩ := hs.seen
  obtain ⟨len, hlen⟩ : ∃ len, len = L.length := ⟨_, rfl⟩
  rw [← hlen] at hl hs ⊢
  have Hs := Lib.hid hs
  have Hv := Lib.hid hv
  have Hlen := Lib.hid hlen
  obtain ⟨i0, hi0, hz0, hz1, hz2⟩ := info_parts info3
  clear hv hs hlen
  go_enter Try.func16, Try.ntmps16
  go_wp2_with fail
  go_loopw [3, 8] (fun o i wr => ∃ (k : Nat) (v : Value), k ≤ len ∧ v = o ∧ i = .int .i64 k ∧ Hid (wr.ownsRow w.heap.size 3 1 v (callsE (L.take k)).length ((callsE (L.take k)).map (Value.int .i64))) ∧ Hid (New w wr)) (fun _ i _ => len - (intOf i).toNat)
  case atStart => exact ⟨0, _, by omega, rfl, rfl, ⟨by simp, .inl ⟨rfl, rfl⟩⟩, Kept.refl _ _⟩
  case round =>
    obtain ⟨k, v, hk, rfl, rfl, HO, HK⟩ := hrel
    by_cases hlt : k < len
    · obtain ⟨s, hs⟩ : ∃ s, L[k]? = some s := ⟨_, List.getElem?_eq_getElem (by have := Hlen.out; omega)⟩
      have hstep := callsE_take hs
      have hcl8 : (callsE (L.take k)).length ≤ k := Nat.le_trans (callsE_len _) (by rw [List.length_take]; omega)
      obtain ⟨-, ao', c', he, hcl⟩ := (Hs.out.same HK.out).seen
      cases he
      obtain ⟨B, Of, rfl, c0, c1, c2, c3, c4, c5, c6, c7, c8, c9⟩ := hcl k s hs
      have hsv := Hv.out s (List.mem_of_getElem? hs)
      obtain ⟨av, cv, hvv⟩ : ∃ av cv, s.v = .slice av s.t.fg.length cv := by obtain ⟨av, cv, e, _⟩ := hsv; exact ⟨av, cv, e⟩
      obtain ⟨sk, sc, sn, st, sv, sfr, srt, sis⟩ := s
      simp only at hvv
      subst hvv
      simp only at c0 c1 c2 c3 c4 c5 c6 c7 c8 c9 hstep
      clear hcl hs hsv
      obtain ⟨cl, hcle⟩ : ∃ cl, cl = callsE (L.take k) := ⟨_, rfl⟩
      rw [← hcle] at hstep HO hcl8
      clear hcle
      by_cases h1 : sk = 1
      · subst h1
        rw [if_pos rfl] at hstep
        have Hstep := Lib.hid hstep
        have hown2 : ((wr.alloc (.cells #[.int .i64 1, .int .i64 sc, .int .i64 sn, .int .i64 st.e, .int .u64 st.w, .int .i64 st.k, .slice av st.fg.length cv, .int .i64 sfr, .int .i64 srt, .bool sis] 40)).alloc (.cells #[.int .i64 sn] 3)).ownsRow w.heap.size 3 1 v cl.length (cl.map (Value.int .i64)) := own_same HO.out (((Kept.refl _ _).alloc _).alloc _)
        have hlit := Src.lit (wr.alloc (.cells #[.int .i64 1, .int .i64 sc, .int .i64 sn, .int .i64 st.e, .int .u64 st.w, .int .i64 st.k, .slice av st.fg.length cv, .int .i64 sfr, .int .i64 srt, .bool sis] 40)) #[.int .i64 sn] 3 1 1 rfl
        have hsz := HK.out.size
        have hsz2 : (wr.alloc (.cells #[.int .i64 1, .int .i64 sc, .int .i64 sn, .int .i64 st.e, .int .u64 st.w, .int .i64 st.k, .slice av st.fg.length cv, .int .i64 sfr, .int .i64 srt, .bool sis] 40)).heap.size = wr.heap.size + 1 := Array.size_push ..
        rw [hsz2] at hlit
        have hlow : w.heap.size ≤ ((wr.alloc (.cells #[.int .i64 1, .int .i64 sc, .int .i64 sn, .int .i64 st.e, .int .u64 st.w, .int .i64 st.k, .slice av st.fg.length cv, .int .i64 sfr, .int .i64 srt, .bool sis] 40)).alloc (.cells #[.int .i64 sn] 3)).heap.size := by rw [show ((wr.alloc (.cells #[.int .i64 1, .int .i64 sc, .int .i64 sn, .int .i64 st.e, .int .u64 st.w, .int .i64 st.k, .slice av st.fg.length cv, .int .i64 sfr, .int .i64 srt, .bool sis] 40)).alloc (.cells #[.int .i64 sn] 3)).heap.size = (wr.alloc (.cells #[.int .i64 1, .int .i64 sc, .int .i64 sn, .int .i64 st.e, .int .u64 st.w, .int .i64 st.k, .slice av st.fg.length cv, .int .i64 sfr, .int .i64 srt, .bool sis] 40)).heap.size + 1 from Array.size_push .., hsz2]; omega
        have Hsz := Lib.hid hsz2
        clear hstep hsz2
        go_wp2_with (at_builtin; refine wpList_append_src rfl _ _ 26 rfl w.heap.size 3 i0 _ 1 8 Try.underlying26 hi0 hz0 hz1 hz2 rfl (by decide) v cl.length _ rfl hown2 _ 1 _ rfl hlit (by simp [Value.oneCell']) (by unfold maxLen; omega) (by omega) hlow ?_; intro v' w' hown' hgr; (have hkp' : New w w' := ((HK.out.alloc _).alloc _).grown hgr (fun i hi => .inl (own_block HO.out hi))))
        go_roundw
        case rel => exact ⟨k + 1, v', by omega, rfl, by go_num, by rw [Hstep.out]; refine Lib.hid ?_; simpa using hown', hkp'⟩
        case measure => simp [intOf]; omega
      · have h1' : (sk == 1) = false := by simpa using h1
        rw [if_neg h1, List.append_nil] at hstep
        have Hstep := Lib.hid hstep
        clear hstep
        go_wp2_with fail
        go_roundw
        case rel => exact ⟨k + 1, v, by omega, rfl, by go_num, by rw [Hstep.out]; exact own_same HO.out ((Kept.refl _ _).alloc _), HK.out.alloc _⟩
        case measure => simp [intOf]; omega
    · have hO := HO.out
      rw [List.take_of_length_le (by have := Hlen.out; omega)] at hO
      go_wp2_with fail
      go_ret
      exact ⟨_, rfl, hO, HK.out⟩
end Go.Proofs.Ytjimjkfnpklhiaa

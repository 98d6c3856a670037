/- Package notify: numbers that are read; the reference's Nums; words as bit vectors; the line as a list. -/
import Derived.Test.YtaaoegfdhpploaaNotS
set_option linter.all false
namespace Go.Proofs.Ytaaoegfdhpploaa
open Go.RowKit

/-- A slice of numbers: its own block and place, if it has any. -/
theorem Src.nums {w : World} {v : Value} {n : Nat} {L : List Int} (h : Src w v n 1 (vI L)) : L.length = n ∧ ∃ ao c, v = .slice ao n c ∧ ∀ i x, L[i]? = some x → ∃ B Of, ao = some ⟨B, Of, none⟩ ∧ w.cell? ⟨B, Of + i, none⟩ = some (.int .i64 x) := by
  obtain ⟨ao, c, rfl, _, hl, h3⟩ := h
  simp only [List.length_map, Nat.mul_one] at hl
  refine ⟨hl, ao, c, rfl, fun i x hx => ?_⟩
  obtain ⟨⟨B, Of, sp⟩, rfl, h0⟩ := h3 i (.int .i64 x) (by simp [hx])
  obtain ⟨x0, hx0⟩ : ∃ x0, L[0]? = some x0 := ⟨_, List.getElem?_eq_getElem (by have := lt_of_some hx; omega)⟩
  obtain ⟨ad, e, h00⟩ := h3 0 (.int .i64 x0) (by simp [hx0])
  cases e
  have hsp : sp = none := by
    have := spot_of_cell h00
    simpa [Addr.add] using this
  subst hsp
  rw [addr_add] at h0
  exact ⟨B, Of, rfl, h0⟩

set_option maxRecDepth 100000 in
set_option maxHeartbeats 1000000 in
theorem nums_any (va vb : Value) (n : Nat) (L : List Int) (w : World) (ha : Src w va n 1 (vI L)) (hb : Src w vb n 1 (vI L)) (hn : n ≤ 1000000) :
    Calls Try.prog 16 #[va, vb] w fun e w' => e = .returned (.bool true) ∧ ∃ q, w' = w.drewN q := by
  obtain ⟨hl, ao, ca, rfl, hca⟩ := Src.nums ha
  obtain ⟨-, bo, cb, rfl, hcb⟩ := Src.nums hb
  have Hl := Lib.hid hl
  have Ha := Lib.hid hca
  have Hb := Lib.hid hcb
  clear hl hca hcb ha hb
  go_enter Try.func16, Try.ntmps16
  go_wp2
  go_loopw [5] (fun i wr => ∃ k : Nat, k ≤ n ∧ i = .int .i64 k ∧ (∃ q, wr = w.drewN q)) (fun i _ => n - (intOf i).toNat)
  case atStart => exact ⟨0, Nat.zero_le _, rfl, 0, rfl⟩
  case round =>
    obtain ⟨k, hk, rfl, q, rfl⟩ := hrel
    by_cases hlt : k < n
    · obtain ⟨x, hx⟩ : ∃ x, L[k]? = some x := ⟨_, List.getElem?_eq_getElem (by have := Hl.out; omega)⟩
      obtain ⟨B, Of, rfl, a0⟩ := Ha.out k x hx
      obtain ⟨B', Of', rfl, b0⟩ := Hb.out k x hx
      clear hx
      go_wp2
      go_quiet (fail)
      go_wp2
      go_roundw
      case rel => exact ⟨k + 1, by omega, by go_num, _, rfl⟩
      case measure => simp [intOf]; omega
    · go_wp2
      go_ret
      exact ⟨rfl, _, rfl⟩

def NP (b : Nat) (wd : Int) (is : Bool) (L : List Int) : Thing := fun O w => Nt O w b wd is L
theorem NP.ok (b : Nat) (wd : Int) (is : Bool) (L : List Int) : (NP b wd is L).Ok := ⟨fun h k hF => Nt.kept h k hF, fun h => Nt.sized h, fun h hO => Nt.mono h hO⟩

/-- Bits. -/
theorem or_u64 (a b : BitVec 64) : bits .or .u64 (a.toNat : Int) (b.toNat : Int) = ((a ||| b).toNat : Int) := by
  show IntKind.u64.wrap ((BitVec.ofInt 64 (a.toNat : Int) ||| BitVec.ofInt 64 (b.toNat : Int)).toNat : Int) = _
  rw [BitVec.ofInt_natCast, BitVec.ofInt_natCast, BitVec.ofNat_toNat, BitVec.ofNat_toNat]
  simp only [BitVec.setWidth_eq]
  have := (a ||| b).isLt
  rw [IntKind.wrap_u64]
  omega
theorem u64_bv {n : Int} (h : (Lit.int .u64 n).wf = true) : ∃ a : BitVec 64, n = (a.toNat : Int) := by
  simp [Lit.wf, IntKind.min, IntKind.max, IntKind.signed, IntKind.bits] at h
  refine ⟨BitVec.ofNat 64 n.toNat, ?_⟩
  rw [BitVec.toNat_ofNat, Nat.mod_eq_of_lt (by omega)]
  omega

/-- Those that wait, when these came. -/
def lineE (L : List Int) (who : Int) : List Int := if who ∈ L then L else L ++ [who]
def linesE (xs : List Int) : List Int := xs.foldl lineE []
theorem linesE_take {k : Nat} {L : List Int} {x : Int} (h : L[k]? = some x) : linesE (L.take (k + 1)) = lineE (linesE (L.take k)) x := by
  rw [List.take_add_one, h]; simp [linesE]
theorem lineE_length (L : List Int) (x : Int) : (lineE L x).length ≤ L.length + 1 := by
  unfold lineE; split <;> simp
theorem linesE_length : ∀ k (L : List Int), (linesE (L.take k)).length ≤ k
  | 0, L => by simp [linesE]
  | k + 1, L => by
    cases h : L[k]? with
    | none =>
      rw [List.take_of_length_le (by rw [List.getElem?_eq_none_iff] at h; omega)]
      have := linesE_length k L
      rw [List.take_of_length_le (by rw [List.getElem?_eq_none_iff] at h; omega)] at this
      omega
    | some x =>
      rw [linesE_take h]
      have := linesE_length k L
      have := lineE_length (linesE (L.take k)) x
      omega
theorem mem_lineE {L : List Int} {x y : Int} : y ∈ lineE L x ↔ y ∈ L ∨ y = x := by
  unfold lineE
  split
  · rename_i h
    constructor
    · exact .inl
    · rintro (h1 | rfl)
      · exact h1
      · exact h
  · simp

/-- Whoever comes to wait, when nothing is signalled. -/
theorem wait_in {O : Nat → Prop} (b : Nat) (wd : Int) (L : List Int) (who : Int) (w : World) (h : Nt O w b wd false L) (hL : L.length ≤ 1000) :
    Calls Try.prog 11 #[.pointer (some ⟨b, 0, none⟩), .int .i64 who, .bool true] w fun e w' => ∃ x : Int, e = .returned (.tuple #[.int .u64 0, .bool false, .int .i64 x]) ∧ Nt (fun k => O k ∨ w.heap.size ≤ k) w' b wd false (lineE L who) ∧ Kept O w w' := by
  by_cases hw : who ∈ L
  · refine (wait_there b wd false L who true w h hL hw).mono ?_
    rintro e w1 ⟨rfl, rfl⟩
    exact ⟨120, rfl, by rw [lineE, if_pos hw]; exact h.mono (fun _ h => .inl h), Kept.refl _ _⟩
  · refine (wait_line b wd L who w h hL hw).mono ?_
    rintro e w1 ⟨rfl, h1, h2⟩
    exact ⟨0, rfl, by rw [lineE, if_neg hw]; exact h1, h2⟩
end Go.Proofs.Ytaaoegfdhpploaa

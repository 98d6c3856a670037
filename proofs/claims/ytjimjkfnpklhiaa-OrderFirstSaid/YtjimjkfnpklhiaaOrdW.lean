/- Package order: what watches; who is first. -/
import Derived.Test.YtjimjkfnpklhiaaOrdL
set_option linter.all false
namespace Go.Proofs.Ytjimjkfnpklhiaa
open Go.RowKit Go.Maps

theorem Lock.kept4 {O F : Nat → Prop} {w w' : World} {b g n : Nat} {L : List Int} (h : Lock O w b g n L) (k : Kept F w w') (hF : ∀ i, F i → ∀ c T fz, w.heap[i]? = some (.cells c T fz) → T ≠ 62 ∧ T ≠ 59 ∧ T ≠ 64) : Lock O w' b g n L := by
  obtain ⟨N, h1, h2, h3⟩ := h
  refine ⟨N, h1, h2.kept k (fun i ho hf => ?_) (fun d c fz hf e => absurd rfl (hF d hf c 64 fz e).2.2), h3⟩
  obtain ⟨c, T, e, hT⟩ := h2.own_lt ho
  have h4 := hF i hf c T _ e
  rcases hT with h' | h' | h'
  · exact h4.1 h'
  · exact h4.2.1 h'
  · exact h4.2.2 h'

/-- What one in line has. -/
structure En where
  c : Int
  n : Int
  did : Bool
  t : Td
  v : Value
  wt : Nat
abbrev blkE (x : En) : Obj := .cells #[.int .i64 x.n, .bool x.did, .int .i64 x.t.e, .int .u64 x.t.w, .int .i64 x.t.k, x.v, .int .i64 x.wt] 71
abbrev coresE (Q : List (En × Nat)) : List Int := Q.map fun x => x.1.c
abbrev blksE (Q : List (En × Nat)) : List (Int × Nat) := Q.map fun x => (x.1.c, x.2)
theorem blks_cores (Q : List (En × Nat)) : (blksE Q).map Prod.fst = coresE Q := by simp [List.map_map, Function.comp_def]

/-- What watches, with its lock, its map and those in line; all of it is newer than w0. -/
structure Wt (w0 w : World) (b lb g mb n : Nat) (Q : List (En × Nat)) (most : Nat) : Prop where
  new : New w0 w
  blk : w.heap[b]? = some (.cells #[.pointer (some ⟨lb, 0, none⟩), .map (some mb), .int .i64 most] 50 (0, 0))
  lo : w0.heap.size ≤ b ∧ w0.heap.size ≤ mb
  lock : Lock (fun k => w0.heap.size ≤ k) w lb g n (coresE Q)
  map : Mp w mb (blksE Q)
  ent : ∀ x ∈ Q, w0.heap.size ≤ x.2 ∧ w.heap[x.2]? = some (blkE x.1)
  nodup : (Q.map Prod.snd).Nodup
  src : ∀ x ∈ Q, Src w0 x.1.v x.1.t.fg.length 4 (x.1.t.fg.flatMap encL)

section
variable {w0 w w' : World} {b lb g mb n most : Nat} {Q : List (En × Nat)}
theorem Wt.same (h : Wt w0 w b lb g mb n Q most) (k : New w w') : Wt w0 w' b lb g mb n Q most :=
  ⟨h.new.trans k, k.heap h.blk (fun h => h), h.lo, h.lock.same k, h.map.same k, fun x hx => ⟨(h.ent x hx).1, k.heap (h.ent x hx).2 (fun h => h)⟩, h.nodup, h.src⟩
theorem Wt.core (h : Wt w0 w b lb g mb n Q most) {c : Int} (hc : c ∈ coresE Q) : 0 ≤ c ∧ c < n := h.lock.core c hc
theorem Wt.le (h : Wt w0 w b lb g mb n Q most) : n ≤ 8 := h.lock.le
theorem Wt.len (h : Wt w0 w b lb g mb n Q most) : Q.length ≤ 8 := by
  have := h.lock.len
  have := h.lock.le
  simp only [List.length_map] at *
  omega
theorem wf_core (h : Wt w0 w b lb g mb n Q most) {c : Int} (hc : 0 ≤ c ∧ c < n) : (Lit.int .i64 c).wf = true := WalkArith.wf_i64 (by have := h.le; omega)
end

set_option maxRecDepth 100000 in
set_option maxHeartbeats 1000000 in
theorem first_any {w0 w : World} {b lb g mb n most : Nat} {Q : List (En × Nat)} (c : Int) (h : Wt w0 w b lb g mb n Q most) (hc : 0 ≤ c ∧ c < n) (p : Option Addr) (hp : byOf (blksE Q) c = p) (r : Bool) (hr : decide ((coresE Q).head? = some c) = r) :
    Calls Try.prog 31 #[.pointer (some ⟨b, 0, none⟩), .int .i64 c] w fun e w' => e = .returned (.tuple #[.pointer p, .bool r]) ∧ w = w' := by
  obtain ⟨⟨r1, r2⟩, hpr⟩ : ∃ x, x = probeE n (coresE Q) c := ⟨_, rfl⟩
  have hcall := lock_probe lb g n (coresE Q) c w h.lock
  rw [← hpr] at hcall
  have hlk := h.map.look (wf_core h hc)
  rw [hp] at hlk
  have c0 := cell_blk h.blk 0
  have c1 := cell_blk h.blk 1
  have hand : (r1 && (r2 == 0)) = r ∧ (r1 = true → r2 = 0) := by
    clear hcall
    rw [← hr]
    generalize coresE Q = L at hpr ⊢
    unfold probeE at hpr
    rw [if_neg (fun x => x hc)] at hpr
    by_cases hm : c ∈ L
    · rw [if_pos hm] at hpr
      injection hpr with h1 h2
      subst h1 h2
      simp
    · rw [if_neg hm] at hpr
      injection hpr with h1 h2
      subst h1 h2
      refine ⟨?_, fun h => by cases h⟩
      have : L.head? ≠ some c := fun e => hm (List.mem_of_mem_head? (by rw [e]; rfl))
      simp [this]
  have Hcall := Lib.hid hcall
  have Hand := Lib.hid hand
  clear hcall hand hpr hr hp h
  go_enter Try.func31, Try.ntmps31
  go_wp2_with fail
  refine Hcall.out.mono ?_
  rintro e w1 ⟨rfl, rfl⟩
  obtain ⟨ha, hb⟩ := Hand.out
  cases r1 with
  | true =>
    obtain rfl := hb rfl
    simp at ha
    subst ha
    clear hb
    go_wp2_with fail
    go_ret2
    exact ⟨rfl, rfl⟩
  | false =>
    simp at ha
    subst ha
    clear hb
    go_wp2_with fail
    go_ret2
    exact ⟨rfl, rfl⟩
end Go.Proofs.Ytjimjkfnpklhiaa

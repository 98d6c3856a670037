/- EndpointDoes: Whatever is sent and received, whoever waits no more, in any order: who meets whom, with what, and who waits, is as the document says; what is told is its owner's (of at most 80 calls) -/
import Derived.Test.YtanongcaokldmaaWalkEndpointDoes
import Derived.Test.YtanongcaokldmaaArgs
namespace Go.Proofs.Ytanongcaokldmaa.endpointDoes
set_option linter.all false
open Go.ChangeShapes Go.WideShapes Go.ChangeAt Go.RowKit

theorem own : ownKnob Try.prog.godebug = none := by kernel_rfl
theorem laidOut : laidOutB Try.prog = true := by kernel_rfl
theorem said (H : Type) (d0 : DataW H) : (Rows.endpointDoesSpec.fn H [d0]).results = [.lit (.bool true)] ∧ (Rows.endpointDoesSpec.fn H [d0]).args = [d0] := ⟨rfl, rfl⟩

set_option maxRecDepth 100000 in
theorem lifted (os : Os) (started : os.Started) (H : Type) (enc : TypeId × Value → H) :
    ReturnsInHanded {} Try.checked os 8 .any (Rows.endpointDoesSpec.pre6 enc Try.prog Try.f8 Rows.endpointDoesRow.domain false) (Rows.endpointDoesSpec.post enc Try.prog Try.f8 false true false false) := by
  refine returnsInHanded_of_change (C := Try.checked) own started (by kernel_rfl) Try.func8
    (ChangeSpec.witness6 (enc := enc) (C := Try.checked) false ⟨#[], #[.slice none 0 0], []⟩ 8 (by kernel_rfl) (by kernel_rfl) (by kernel_rfl) (by kernel_rfl)) ?_
  intro W base args ds gs before hval0 hW hcnd _
  clear hcnd
  have hval : ∀ (j : Nat) t v, Try.f8.params[j]? = some t → args[j]? = some v → Value.okWide Try.prog W .any base t v := hval0
  have hW' := hW
  obtain ⟨p, q, hA0, hV, rfl, _, _⟩ := hW
  have hA : DataW.TrodAll enc Try.prog W 0 (fun _ => true) true Try.f8.params.toList args.toList ds p := hA0
  rw [Try.params8] at hA hval
  obtain ⟨v0, vs0, d0, ds0, p0, q0, hargs, rfl, rfl, h0, r0'⟩ := trodAll_cons hA
  obtain ⟨rfl, rfl, rfl⟩ := trodAll_nil r0'
  obtain rfl : args = #[v0] := by cases args; simp_all
  obtain ⟨r0, s0, w0, m0⟩ := open_flats 8 (ks := [FK.int .i64, FK.int .i64, FK.int .i64, FK.int .u64, FK.int .u64, FK.int .u64, FK.int .u64, FK.int .u64, FK.bool, FK.bool]) Try.underlying22 (by kernel_rfl) (by kernel_rfl) (hval 0 22 v0 rfl rfl) h0
  clear hA0 hval0 hval
  refine (walkEndpointDoes W v0 r0 s0 w0 m0).mono fun e W' ⟨he, bel⟩ => ?_
  subst he
  exact ⟨_, rfl, law_post laidOut rfl Try.underlying4 (by kernel_rfl) rfl rfl hW' bel⟩

theorem over : Rows.endpointDoesRow.holds Try.pinned (OpenSpec.ofChange Rows.endpointDoesSpec) :=
  OpenClaim.holds_of_wide 8 Try.f8 rfl rfl rfl rfl rfl rfl rfl ⟨rfl, rfl, rfl, rfl, rfl⟩ rfl rfl rfl rfl rfl (by kernel_rfl) Try.func8 (by kernel_rfl)
    (of_decide_eq_true (by kernel_rfl)) (by unfold Func.isWrapper; first | (rw [if_pos (by decide +kernel)]; kernel_rfl) | (rw [if_neg (by decide +kernel)]; exact ⟨rfl, rfl⟩))
    (fun os started H enc _ => lifted os started H enc)

/-- The statement. -/
theorem proved : Rows.EndpointDoesSaid := over
end Go.Proofs.Ytanongcaokldmaa.endpointDoes

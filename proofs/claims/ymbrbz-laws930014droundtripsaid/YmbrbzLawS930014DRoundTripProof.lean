/-
  The proof of 'Rows.LawS930014DRoundTripSaid': the row's frame (the guide's own way at this function's number and types) round the walk 'droundtrip' (YmbrbzDRoundTrip.lean).
-/
import Derived.Test.YmbrbzRows
import Derived.WalkKit
import Derived.ProofKit
import Derived.OpenShut
import Derived.ShutString
import Derived.ChangeOld
import Derived.Below
import Derived.Lib.SmallJoins
import Derived.Test.YmbrbzOpen
import Derived.Test.YmbrbzDRoundTrip
namespace Go.Proofs.Ymbrbz.lawS930014DRoundTrip
open Go.ChangeShapes Go.WideShapes Go.ChangeAt Go.RowKit Go.Joins
open Go.ChangeMaps (open_string shut_string)
set_option linter.unusedVariables false

theorem own : ownKnob Ybzm.prog.godebug = none := by kernel_rfl
theorem laidOut : laidOutB Ybzm.prog = true := by kernel_rfl

set_option maxRecDepth 100000 in
theorem lifted (os : Os) (started : os.Started) (H : Type) (enc : TypeId × Value → H) :
    ReturnsInHanded {} Ybzm.checked os 11 .any (Rows.lawS930014DRoundTripSpec.pre6 enc Ybzm.prog Ybzm.f11 Rows.lawS930014DRoundTripRow.domain false) (Rows.lawS930014DRoundTripSpec.post enc Ybzm.prog Ybzm.f11 false true false false) := by
  refine returnsInHanded_of_change (C := Ybzm.checked) own started (by kernel_rfl) Ybzm.func11
    (ChangeSpec.witness6 (enc := enc) (C := Ybzm.checked) false ⟨#[], #[.slice none 0 0], []⟩ 8 (by kernel_rfl) (by kernel_rfl) (by kernel_rfl) (by kernel_rfl)) ?_
  intro W base args ds gs before hval0 hW hcnd _
  have hval : ∀ (j : Nat) t v, Ybzm.f11.params[j]? = some t → args[j]? = some v → Value.okWide Ybzm.prog W .any base t v := hval0
  have hW' := hW
  obtain ⟨p, q, hA0, hV, rfl, hfz, hnd⟩ := hW
  have hA : DataW.TrodAll enc Ybzm.prog W 0 (fun _ => true) true Ybzm.f11.params.toList args.toList ds p := hA0
  rw [Ybzm.params11] at hA hval
  obtain ⟨v0, vs0, d0, ds0, p0, q0, hargs, rfl, rfl, h0, r0⟩ := trodAll_cons hA
  obtain ⟨rfl, rfl, rfl⟩ := trodAll_nil r0
  obtain rfl : args = #[v0] := by cases args; simp_all
  obtain ⟨rfl, rfl⟩ := trodVars_none hV
  obtain ⟨a0, len0, cap0, rfl⟩ := okWide_slice Ybzm.underlying52 (hval 0 52 v0 rfl rfl)
  have k0 := h0
  have lt0 : ∀ x ∈ p0, x.block < W.heap.size := by obtain ⟨m, hm⟩ := k0; exact DataW.trod_lt m _ _ _ hm
  obtain ⟨l0, hl0, hm0, hr0⟩ := open_ditems Ybzm.underlying52 Ybzm.underlying55 (by kernel_rfl) (by kernel_rfl) Ybzm.underlying5 Ybzm.underlying5 Ybzm.underlying4 Ybzm.underlying4 Ybzm.underlying4 Ybzm.underlying53 Ybzm.underlying58 (by kernel_rfl) (by kernel_rfl) Ybzm.underlying5 Ybzm.underlying5 Ybzm.underlying4 h0
  clear hA0 hval0
  refine (droundtrip W a0 len0 cap0 l0 hl0 hm0 hr0).mono fun e W' ⟨he, bel⟩ => ?_
  subst he
  exact ⟨_, rfl, _, _, _, [], _, [], hW', trodAll_mk1 (shut_bool Ybzm.underlying4 _), (trodAll_cons_mk (Below.trod laidOut (by kernel_rfl) (of_decide_eq_true (by kernel_rfl)) k0 bel lt0) trodAll_mk0), rfl, bel.frame _, fun h => by cases h⟩

theorem over : Rows.lawS930014DRoundTripRow.holds Ybzm.pinned (OpenSpec.ofChange Rows.lawS930014DRoundTripSpec) :=
  OpenClaim.holds_of_wide 11 Ybzm.f11 rfl rfl rfl rfl rfl rfl rfl ⟨rfl, rfl, rfl, rfl, rfl⟩ rfl rfl rfl rfl rfl (by kernel_rfl) Ybzm.func11 (by kernel_rfl)
    (of_decide_eq_true (by kernel_rfl)) (by unfold Func.isWrapper; first | (rw [if_pos (by decide +kernel)]; kernel_rfl) | (rw [if_neg (by decide +kernel)]; exact ⟨rfl, rfl⟩))
    (fun os started H enc _ => lifted os started H enc)

/-- The statement. -/
theorem proved : Rows.LawS930014DRoundTripSaid := over
end Go.Proofs.Ymbrbz.lawS930014DRoundTrip

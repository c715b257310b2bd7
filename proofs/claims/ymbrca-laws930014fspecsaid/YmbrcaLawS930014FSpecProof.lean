/-
  The proof of 'Rows.LawS930014FSpecSaid': the row's frame (the guide's own way at this function's number and types) round the walk 'fspec' (YmbrcaFSpec.lean).
-/
import Derived.Test.YmbrcaRows
import Derived.WalkKit
import Derived.ProofKit
import Derived.OpenShut
import Derived.ShutString
import Derived.ChangeOld
import Derived.Below
import Derived.Lib.SmallJoins
import Derived.Test.YmbrcaOpen
import Derived.Test.YmbrcaFSpec
namespace Go.Proofs.Ymbrca.lawS930014FSpec
open Go.ChangeShapes Go.WideShapes Go.ChangeAt Go.RowKit Go.Joins
open Go.ChangeMaps (open_string shut_string)
set_option linter.unusedVariables false

theorem own : ownKnob Ycam.prog.godebug = none := by kernel_rfl
theorem laidOut : laidOutB Ycam.prog = true := by kernel_rfl

set_option maxRecDepth 100000 in
theorem lifted (os : Os) (started : os.Started) (H : Type) (enc : TypeId × Value → H) :
    ReturnsInHanded {} Ycam.checked os 5 .any (Rows.lawS930014FSpecSpec.pre6 enc Ycam.prog Ycam.f5 Rows.lawS930014FSpecRow.domain false) (Rows.lawS930014FSpecSpec.post enc Ycam.prog Ycam.f5 false true false false) := by
  refine returnsInHanded_of_change (C := Ycam.checked) own started (by kernel_rfl) Ycam.func5
    (ChangeSpec.witness6 (enc := enc) (C := Ycam.checked) false ⟨#[], #[.slice none 0 0, .string ByteArray.empty], []⟩ 8 (by kernel_rfl) (by kernel_rfl) (by kernel_rfl) (by kernel_rfl)) ?_
  intro W base args ds gs before hval0 hW hcnd _
  have hval : ∀ (j : Nat) t v, Ycam.f5.params[j]? = some t → args[j]? = some v → Value.okWide Ycam.prog W .any base t v := hval0
  have hW' := hW
  obtain ⟨p, q, hA0, hV, rfl, hfz, hnd⟩ := hW
  have hA : DataW.TrodAll enc Ycam.prog W 0 (fun _ => true) true Ycam.f5.params.toList args.toList ds p := hA0
  rw [Ycam.params5] at hA hval
  obtain ⟨v0, vs0, d0, ds0, p0, q0, hargs, rfl, rfl, h0, r0⟩ := trodAll_cons hA
  obtain ⟨v1, vs1, d1, ds1, p1, q1, rfl, rfl, rfl, h1, r1⟩ := trodAll_cons r0
  obtain ⟨rfl, rfl, rfl⟩ := trodAll_nil r1
  obtain rfl : args = #[v0, v1] := by cases args; simp_all
  obtain ⟨rfl, rfl⟩ := trodVars_none hV
  obtain ⟨a0, len0, cap0, rfl⟩ := okWide_slice Ycam.underlying27 (hval 0 27 v0 rfl rfl)
  have k0 := h0
  have lt0 : ∀ x ∈ p0, x.block < W.heap.size := by obtain ⟨m, hm⟩ := k0; exact DataW.trod_lt m _ _ _ hm
  obtain ⟨l0, hl0, hm0, hr0⟩ := open_tokens Ycam.underlying27 Ycam.underlying31 (by kernel_rfl) (by kernel_rfl) Ycam.underlying3 Ycam.underlying5 Ycam.underlying4 Ycam.underlying29 Ycam.underlying45 (by kernel_rfl) (by kernel_rfl) Ycam.underlying5 Ycam.underlying5 h0
  obtain ⟨a1, rfl, rfl, rfl, w1⟩ := open_string Ycam.underlying9 (hval 1 9 v1 rfl rfl) h1
  clear hA0 hval0
  refine (fspec W a0 len0 cap0 l0 hl0 hm0 hr0 a1 (by unfold maxLen at w1; exact w1)).mono fun e W' ⟨he, bel⟩ => ?_
  subst he
  exact ⟨_, rfl, _, _, _, [], _, [], hW', trodAll_mk1 (shut_bool Ycam.underlying4 _), (trodAll_cons_mk (Below.trod laidOut (by kernel_rfl) (of_decide_eq_true (by kernel_rfl)) k0 bel lt0) (trodAll_cons_mk (shut_string Ycam.underlying9 w1) trodAll_mk0)), rfl, bel.frame _, fun h => by cases h⟩

theorem over : Rows.lawS930014FSpecRow.holds Ycam.pinned (OpenSpec.ofChange Rows.lawS930014FSpecSpec) :=
  OpenClaim.holds_of_wide 5 Ycam.f5 rfl rfl rfl rfl rfl rfl rfl ⟨rfl, rfl, rfl, rfl, rfl⟩ rfl rfl rfl rfl rfl (by kernel_rfl) Ycam.func5 (by kernel_rfl)
    (of_decide_eq_true (by kernel_rfl)) (by unfold Func.isWrapper; first | (rw [if_pos (by decide +kernel)]; kernel_rfl) | (rw [if_neg (by decide +kernel)]; exact ⟨rfl, rfl⟩))
    (fun os started H enc _ => lifted os started H enc)

/-- The statement. -/
theorem proved : Rows.LawS930014FSpecSaid := over
end Go.Proofs.Ymbrca.lawS930014FSpec

/-
  The proof of 'Rows.LawS930014JRoundSaid': the row's frame (the guide's own way at this function's number and types) round the walk 'jround' (YmbrcbJRound.lean).
-/
import Derived.Test.YmbrcbRows
import Derived.WalkKit
import Derived.ProofKit
import Derived.OpenShut
import Derived.ShutString
import Derived.ChangeOld
import Derived.Below
import Derived.Lib.SmallJoins
import Derived.Test.YmbrcbOpen
import Derived.Test.YmbrcbJRound
namespace Go.Proofs.Ymbrcb.lawS930014JRound
open Go.ChangeShapes Go.WideShapes Go.ChangeAt Go.RowKit Go.Joins
open Go.ChangeMaps (open_string shut_string)
set_option linter.unusedVariables false

theorem own : ownKnob Ycbm.prog.godebug = none := by kernel_rfl
theorem laidOut : laidOutB Ycbm.prog = true := by kernel_rfl

set_option maxRecDepth 100000 in
theorem lifted (os : Os) (started : os.Started) (H : Type) (enc : TypeId × Value → H) :
    ReturnsInHanded {} Ycbm.checked os 5 .any (Rows.lawS930014JRoundSpec.pre6 enc Ycbm.prog Ycbm.f5 Rows.lawS930014JRoundRow.domain false) (Rows.lawS930014JRoundSpec.post enc Ycbm.prog Ycbm.f5 false true false false) := by
  refine returnsInHanded_of_change (C := Ycbm.checked) own started (by kernel_rfl) Ycbm.func5
    (ChangeSpec.witness6 (enc := enc) (C := Ycbm.checked) false ⟨#[], #[.string ByteArray.empty, .bool false, .slice none 0 0, .string ByteArray.empty], []⟩ 8 (by kernel_rfl) (by kernel_rfl) (by kernel_rfl) (by kernel_rfl)) ?_
  intro W base args ds gs before hval0 hW hcnd _
  have hval : ∀ (j : Nat) t v, Ycbm.f5.params[j]? = some t → args[j]? = some v → Value.okWide Ycbm.prog W .any base t v := hval0
  have hW' := hW
  obtain ⟨p, q, hA0, hV, rfl, hfz, hnd⟩ := hW
  have hA : DataW.TrodAll enc Ycbm.prog W 0 (fun _ => true) true Ycbm.f5.params.toList args.toList ds p := hA0
  rw [Ycbm.params5] at hA hval
  obtain ⟨v0, vs0, d0, ds0, p0, q0, hargs, rfl, rfl, h0, r0⟩ := trodAll_cons hA
  obtain ⟨v1, vs1, d1, ds1, p1, q1, rfl, rfl, rfl, h1, r1⟩ := trodAll_cons r0
  obtain ⟨v2, vs2, d2, ds2, p2, q2, rfl, rfl, rfl, h2, r2⟩ := trodAll_cons r1
  obtain ⟨v3, vs3, d3, ds3, p3, q3, rfl, rfl, rfl, h3, r3⟩ := trodAll_cons r2
  obtain ⟨rfl, rfl, rfl⟩ := trodAll_nil r3
  obtain rfl : args = #[v0, v1, v2, v3] := by cases args; simp_all
  obtain ⟨rfl, rfl⟩ := trodVars_none hV
  obtain ⟨a0, rfl, rfl, rfl, w0⟩ := open_string Ycbm.underlying9 (hval 0 9 v0 rfl rfl) h0
  obtain ⟨a1, rfl, rfl, rfl⟩ := open_bool Ycbm.underlying4 (hval 1 4 v1 rfl rfl) h1
  obtain ⟨a2, len2, cap2, rfl⟩ := okWide_slice Ycbm.underlying30 (hval 2 30 v2 rfl rfl)
  have k2 := h2
  have lt2 : ∀ x ∈ p2, x.block < W.heap.size := by obtain ⟨m, hm⟩ := k2; exact DataW.trod_lt m _ _ _ hm
  obtain ⟨l2, hl2, hm2, hr2⟩ := open_jitems Ycbm.underlying30 Ycbm.underlying34 (by kernel_rfl) (by kernel_rfl) Ycbm.underlying5 Ycbm.underlying5 Ycbm.underlying4 Ycbm.underlying4 Ycbm.underlying4 h2
  obtain ⟨a3, rfl, rfl, rfl, w3⟩ := open_string Ycbm.underlying9 (hval 3 9 v3 rfl rfl) h3
  clear hA0 hval0
  refine (jround W a0 (by unfold maxLen at w0; exact w0) a1 a2 len2 cap2 l2 hl2 hm2 hr2 a3 (by unfold maxLen at w3; exact w3)).mono fun e W' ⟨he, bel⟩ => ?_
  subst he
  exact ⟨_, rfl, _, _, _, [], _, [], hW', trodAll_mk1 (shut_bool Ycbm.underlying4 _), (trodAll_cons_mk (shut_string Ycbm.underlying9 w0) (trodAll_cons_mk (shut_bool Ycbm.underlying4 a1) (trodAll_cons_mk (Below.trod laidOut (by kernel_rfl) (of_decide_eq_true (by kernel_rfl)) k2 bel lt2) (trodAll_cons_mk (shut_string Ycbm.underlying9 w3) trodAll_mk0)))), rfl, bel.frame _, fun h => by cases h⟩

theorem over : Rows.lawS930014JRoundRow.holds Ycbm.pinned (OpenSpec.ofChange Rows.lawS930014JRoundSpec) :=
  OpenClaim.holds_of_wide 5 Ycbm.f5 rfl rfl rfl rfl rfl rfl rfl ⟨rfl, rfl, rfl, rfl, rfl⟩ rfl rfl rfl rfl rfl (by kernel_rfl) Ycbm.func5 (by kernel_rfl)
    (of_decide_eq_true (by kernel_rfl)) (by unfold Func.isWrapper; first | (rw [if_pos (by decide +kernel)]; kernel_rfl) | (rw [if_neg (by decide +kernel)]; exact ⟨rfl, rfl⟩))
    (fun os started H enc _ => lifted os started H enc)

/-- The statement. -/
theorem proved : Rows.LawS930014JRoundSaid := over
end Go.Proofs.Ymbrcb.lawS930014JRound

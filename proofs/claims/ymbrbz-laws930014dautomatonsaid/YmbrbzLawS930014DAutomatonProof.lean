/-
  The proof of 'Rows.LawS930014DAutomatonSaid': the row's frame (the guide's own way at this function's number and types) round the walk 'dautomaton' (YmbrbzDAutomaton.lean).
-/
import Derived.Test.YmbrbzRows
import Derived.WalkKit
import Derived.ProofKit
import Derived.OpenShut
import Derived.ShutString
import Derived.ChangeOld
import Derived.Below
import Derived.Lib.SmallJoins
import Derived.Test.YmbrbzOpen
import Derived.Test.YmbrbzDAutomaton
namespace Go.Proofs.Ymbrbz.lawS930014DAutomaton
open Go.ChangeShapes Go.WideShapes Go.ChangeAt Go.RowKit Go.Joins
open Go.ChangeMaps (open_string shut_string)
set_option linter.unusedVariables false

theorem own : ownKnob Ybzm.prog.godebug = none := by kernel_rfl
theorem laidOut : laidOutB Ybzm.prog = true := by kernel_rfl

set_option maxRecDepth 100000 in
theorem lifted (os : Os) (started : os.Started) (H : Type) (enc : TypeId × Value → H) :
    ReturnsInHanded {} Ybzm.checked os 12 .any (Rows.lawS930014DAutomatonSpec.pre6 enc Ybzm.prog Ybzm.f12 Rows.lawS930014DAutomatonRow.domain false) (Rows.lawS930014DAutomatonSpec.post enc Ybzm.prog Ybzm.f12 false true false false) := by
  refine returnsInHanded_of_change (C := Ybzm.checked) own started (by kernel_rfl) Ybzm.func12
    (ChangeSpec.witness6 (enc := enc) (C := Ybzm.checked) false ⟨#[], #[.string ByteArray.empty, .slice none 0 0], []⟩ 8 (by kernel_rfl) (by kernel_rfl) (by kernel_rfl) (by kernel_rfl)) ?_
  intro W base args ds gs before hval0 hW hcnd _
  have hval : ∀ (j : Nat) t v, Ybzm.f12.params[j]? = some t → args[j]? = some v → Value.okWide Ybzm.prog W .any base t v := hval0
  have hW' := hW
  obtain ⟨p, q, hA0, hV, rfl, hfz, hnd⟩ := hW
  have hA : DataW.TrodAll enc Ybzm.prog W 0 (fun _ => true) true Ybzm.f12.params.toList args.toList ds p := hA0
  rw [Ybzm.params12] at hA hval
  obtain ⟨v0, vs0, d0, ds0, p0, q0, hargs, rfl, rfl, h0, r0⟩ := trodAll_cons hA
  obtain ⟨v1, vs1, d1, ds1, p1, q1, rfl, rfl, rfl, h1, r1⟩ := trodAll_cons r0
  obtain ⟨rfl, rfl, rfl⟩ := trodAll_nil r1
  obtain rfl : args = #[v0, v1] := by cases args; simp_all
  obtain ⟨rfl, rfl⟩ := trodVars_none hV
  obtain ⟨a0, rfl, rfl, rfl, w0⟩ := open_string Ybzm.underlying9 (hval 0 9 v0 rfl rfl) h0
  obtain ⟨a1, len1, cap1, rfl⟩ := okWide_slice Ybzm.underlying30 (hval 1 30 v1 rfl rfl)
  have k1 := h1
  have lt1 : ∀ x ∈ p1, x.block < W.heap.size := by obtain ⟨m, hm⟩ := k1; exact DataW.trod_lt m _ _ _ hm
  obtain ⟨l1, hl1, hm1, hr1⟩ := open_bytes Ybzm.underlying30 Ybzm.underlying5 (by kernel_rfl) h1
  clear hA0 hval0
  refine (dautomaton W a0 (by unfold maxLen at w0; exact w0) a1 len1 cap1 l1 hl1 hm1 hr1).mono fun e W' ⟨he, bel⟩ => ?_
  subst he
  exact ⟨_, rfl, _, _, _, [], _, [], hW', trodAll_mk1 (shut_bool Ybzm.underlying4 _), (trodAll_cons_mk (shut_string Ybzm.underlying9 w0) (trodAll_cons_mk (Below.trod laidOut (by kernel_rfl) (of_decide_eq_true (by kernel_rfl)) k1 bel lt1) trodAll_mk0)), rfl, bel.frame _, fun h => by cases h⟩

theorem over : Rows.lawS930014DAutomatonRow.holds Ybzm.pinned (OpenSpec.ofChange Rows.lawS930014DAutomatonSpec) :=
  OpenClaim.holds_of_wide 12 Ybzm.f12 rfl rfl rfl rfl rfl rfl rfl ⟨rfl, rfl, rfl, rfl, rfl⟩ rfl rfl rfl rfl rfl (by kernel_rfl) Ybzm.func12 (by kernel_rfl)
    (of_decide_eq_true (by kernel_rfl)) (by unfold Func.isWrapper; first | (rw [if_pos (by decide +kernel)]; kernel_rfl) | (rw [if_neg (by decide +kernel)]; exact ⟨rfl, rfl⟩))
    (fun os started H enc _ => lifted os started H enc)

/-- The statement. -/
theorem proved : Rows.LawS930014DAutomatonSaid := over
end Go.Proofs.Ymbrbz.lawS930014DAutomaton

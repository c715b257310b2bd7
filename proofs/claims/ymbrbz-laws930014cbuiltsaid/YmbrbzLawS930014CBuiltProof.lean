/-
  The proof of 'Rows.LawS930014CBuiltSaid': the row's frame (the guide's own way at this function's number and types) round the walk 'cbuilt' (YmbrbzCBuilt.lean).
-/
import Derived.Test.YmbrbzRows
import Derived.WalkKit
import Derived.ProofKit
import Derived.OpenShut
import Derived.ShutString
import Derived.ChangeOld
import Derived.Below
import Derived.Lib.SmallJoins
import Derived.Test.YmbrbzOpen
import Derived.Test.YmbrbzCBuilt
namespace Go.Proofs.Ymbrbz.lawS930014CBuilt
open Go.ChangeShapes Go.WideShapes Go.ChangeAt Go.RowKit Go.Joins
open Go.ChangeMaps (open_string shut_string)
set_option linter.unusedVariables false

theorem own : ownKnob Ybzm.prog.godebug = none := by kernel_rfl
theorem laidOut : laidOutB Ybzm.prog = true := by kernel_rfl

set_option maxRecDepth 100000 in
theorem lifted (os : Os) (started : os.Started) (H : Type) (enc : TypeId × Value → H) :
    ReturnsInHanded {} Ybzm.checked os 10 .any (Rows.lawS930014CBuiltSpec.pre6 enc Ybzm.prog Ybzm.f10 Rows.lawS930014CBuiltRow.domain false) (Rows.lawS930014CBuiltSpec.post enc Ybzm.prog Ybzm.f10 false true false false) := by
  refine returnsInHanded_of_change (C := Ybzm.checked) own started (by kernel_rfl) Ybzm.func10
    (ChangeSpec.witness6 (enc := enc) (C := Ybzm.checked) false ⟨#[], #[.slice none 0 0, .bool false, .slice none 0 0, .slice none 0 0], []⟩ 8 (by kernel_rfl) (by kernel_rfl) (by kernel_rfl) (by kernel_rfl)) ?_
  intro W base args ds gs before hval0 hW hcnd _
  have hval : ∀ (j : Nat) t v, Ybzm.f10.params[j]? = some t → args[j]? = some v → Value.okWide Ybzm.prog W .any base t v := hval0
  have hW' := hW
  obtain ⟨p, q, hA0, hV, rfl, hfz, hnd⟩ := hW
  have hA : DataW.TrodAll enc Ybzm.prog W 0 (fun _ => true) true Ybzm.f10.params.toList args.toList ds p := hA0
  rw [Ybzm.params10] at hA hval
  obtain ⟨v0, vs0, d0, ds0, p0, q0, hargs, rfl, rfl, h0, r0⟩ := trodAll_cons hA
  obtain ⟨v1, vs1, d1, ds1, p1, q1, rfl, rfl, rfl, h1, r1⟩ := trodAll_cons r0
  obtain ⟨v2, vs2, d2, ds2, p2, q2, rfl, rfl, rfl, h2, r2⟩ := trodAll_cons r1
  obtain ⟨v3, vs3, d3, ds3, p3, q3, rfl, rfl, rfl, h3, r3⟩ := trodAll_cons r2
  obtain ⟨rfl, rfl, rfl⟩ := trodAll_nil r3
  obtain rfl : args = #[v0, v1, v2, v3] := by cases args; simp_all
  obtain ⟨rfl, rfl⟩ := trodVars_none hV
  obtain ⟨a0, len0, cap0, rfl⟩ := okWide_slice Ybzm.underlying30 (hval 0 30 v0 rfl rfl)
  have k0 := h0
  have lt0 : ∀ x ∈ p0, x.block < W.heap.size := by obtain ⟨m, hm⟩ := k0; exact DataW.trod_lt m _ _ _ hm
  obtain ⟨l0, hl0, hm0, hr0⟩ := open_bytes Ybzm.underlying30 Ybzm.underlying5 (by kernel_rfl) h0
  obtain ⟨a1, rfl, rfl, rfl⟩ := open_bool Ybzm.underlying4 (hval 1 4 v1 rfl rfl) h1
  obtain ⟨a2, len2, cap2, rfl⟩ := okWide_slice Ybzm.underlying48 (hval 2 48 v2 rfl rfl)
  have k2 := h2
  have lt2 : ∀ x ∈ p2, x.block < W.heap.size := by obtain ⟨m, hm⟩ := k2; exact DataW.trod_lt m _ _ _ hm
  obtain ⟨l2, hl2, hm2, hr2⟩ := open_citems Ybzm.underlying48 Ybzm.underlying50 (by kernel_rfl) (by kernel_rfl) Ybzm.underlying5 Ybzm.underlying5 Ybzm.underlying4 h2
  obtain ⟨a3, len3, cap3, rfl⟩ := okWide_slice Ybzm.underlying30 (hval 3 30 v3 rfl rfl)
  have k3 := h3
  have lt3 : ∀ x ∈ p3, x.block < W.heap.size := by obtain ⟨m, hm⟩ := k3; exact DataW.trod_lt m _ _ _ hm
  obtain ⟨l3, hl3, hm3, hr3⟩ := open_bytes Ybzm.underlying30 Ybzm.underlying5 (by kernel_rfl) h3
  clear hA0 hval0
  refine (cbuilt W a0 len0 cap0 l0 hl0 hm0 hr0 a1 a2 len2 cap2 l2 hl2 hm2 hr2 a3 len3 cap3 l3 hl3 hm3 hr3).mono fun e W' ⟨he, bel⟩ => ?_
  subst he
  exact ⟨_, rfl, _, _, _, [], _, [], hW', trodAll_mk1 (shut_bool Ybzm.underlying4 _), (trodAll_cons_mk (Below.trod laidOut (by kernel_rfl) (of_decide_eq_true (by kernel_rfl)) k0 bel lt0) (trodAll_cons_mk (shut_bool Ybzm.underlying4 a1) (trodAll_cons_mk (Below.trod laidOut (by kernel_rfl) (of_decide_eq_true (by kernel_rfl)) k2 bel lt2) (trodAll_cons_mk (Below.trod laidOut (by kernel_rfl) (of_decide_eq_true (by kernel_rfl)) k3 bel lt3) trodAll_mk0)))), rfl, bel.frame _, fun h => by cases h⟩

theorem over : Rows.lawS930014CBuiltRow.holds Ybzm.pinned (OpenSpec.ofChange Rows.lawS930014CBuiltSpec) :=
  OpenClaim.holds_of_wide 10 Ybzm.f10 rfl rfl rfl rfl rfl rfl rfl ⟨rfl, rfl, rfl, rfl, rfl⟩ rfl rfl rfl rfl rfl (by kernel_rfl) Ybzm.func10 (by kernel_rfl)
    (of_decide_eq_true (by kernel_rfl)) (by unfold Func.isWrapper; first | (rw [if_pos (by decide +kernel)]; kernel_rfl) | (rw [if_neg (by decide +kernel)]; exact ⟨rfl, rfl⟩))
    (fun os started H enc _ => lifted os started H enc)

/-- The statement. -/
theorem proved : Rows.LawS930014CBuiltSaid := over
end Go.Proofs.Ymbrbz.lawS930014CBuilt

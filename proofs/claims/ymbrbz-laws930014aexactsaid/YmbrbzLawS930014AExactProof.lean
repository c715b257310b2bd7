/-
  The proof of 'Rows.LawS930014AExactSaid': the row's frame (the guide's own way at this function's number and types) round the walk 'aexact' (YmbrbzAExact.lean).
-/
import Derived.Test.YmbrbzRows
import Derived.WalkKit
import Derived.ProofKit
import Derived.OpenShut
import Derived.ShutString
import Derived.ChangeOld
import Derived.Below
import Derived.Lib.SmallJoins
import Derived.Test.YmbrbzOpen
import Derived.Test.YmbrbzAExact
namespace Go.Proofs.Ymbrbz.lawS930014AExact
open Go.ChangeShapes Go.WideShapes Go.ChangeAt Go.RowKit Go.Joins
open Go.ChangeMaps (open_string shut_string)
set_option linter.unusedVariables false

theorem own : ownKnob Ybzm.prog.godebug = none := by kernel_rfl
theorem laidOut : laidOutB Ybzm.prog = true := by kernel_rfl

set_option maxRecDepth 100000 in
theorem lifted (os : Os) (started : os.Started) (H : Type) (enc : TypeId × Value → H) :
    ReturnsInHanded {} Ybzm.checked os 3 .any (Rows.lawS930014AExactSpec.pre6 enc Ybzm.prog Ybzm.f3 Rows.lawS930014AExactRow.domain false) (Rows.lawS930014AExactSpec.post enc Ybzm.prog Ybzm.f3 false true false false) := by
  refine returnsInHanded_of_change (C := Ybzm.checked) own started (by kernel_rfl) Ybzm.func3
    (ChangeSpec.witness6 (enc := enc) (C := Ybzm.checked) false ⟨#[], #[.int .u8 0, .int .i64 0, .int .u8 0, .bool false, .slice none 0 0, .bool false, .int .u8 0], []⟩ 8 (by kernel_rfl) (by kernel_rfl) (by kernel_rfl) (by kernel_rfl)) ?_
  intro W base args ds gs before hval0 hW hcnd _
  have hval : ∀ (j : Nat) t v, Ybzm.f3.params[j]? = some t → args[j]? = some v → Value.okWide Ybzm.prog W .any base t v := hval0
  have hW' := hW
  obtain ⟨p, q, hA0, hV, rfl, hfz, hnd⟩ := hW
  have hA : DataW.TrodAll enc Ybzm.prog W 0 (fun _ => true) true Ybzm.f3.params.toList args.toList ds p := hA0
  rw [Ybzm.params3] at hA hval
  obtain ⟨v0, vs0, d0, ds0, p0, q0, hargs, rfl, rfl, h0, r0⟩ := trodAll_cons hA
  obtain ⟨v1, vs1, d1, ds1, p1, q1, rfl, rfl, rfl, h1, r1⟩ := trodAll_cons r0
  obtain ⟨v2, vs2, d2, ds2, p2, q2, rfl, rfl, rfl, h2, r2⟩ := trodAll_cons r1
  obtain ⟨v3, vs3, d3, ds3, p3, q3, rfl, rfl, rfl, h3, r3⟩ := trodAll_cons r2
  obtain ⟨v4, vs4, d4, ds4, p4, q4, rfl, rfl, rfl, h4, r4⟩ := trodAll_cons r3
  obtain ⟨v5, vs5, d5, ds5, p5, q5, rfl, rfl, rfl, h5, r5⟩ := trodAll_cons r4
  obtain ⟨v6, vs6, d6, ds6, p6, q6, rfl, rfl, rfl, h6, r6⟩ := trodAll_cons r5
  obtain ⟨rfl, rfl, rfl⟩ := trodAll_nil r6
  obtain rfl : args = #[v0, v1, v2, v3, v4, v5, v6] := by cases args; simp_all
  obtain ⟨rfl, rfl⟩ := trodVars_none hV
  obtain ⟨a0, rfl, rfl, rfl, w0⟩ := open_int Ybzm.underlying5 (hval 0 5 v0 rfl rfl) h0
  obtain ⟨c0, rfl⟩ := nat_of_u8 (bounds_u8 w0)
  obtain ⟨a1, rfl, rfl, rfl, w1⟩ := open_int Ybzm.underlying3 (hval 1 3 v1 rfl rfl) h1
  obtain ⟨a2, rfl, rfl, rfl, w2⟩ := open_int Ybzm.underlying5 (hval 2 5 v2 rfl rfl) h2
  obtain ⟨c2, rfl⟩ := nat_of_u8 (bounds_u8 w2)
  obtain ⟨a3, rfl, rfl, rfl⟩ := open_bool Ybzm.underlying4 (hval 3 4 v3 rfl rfl) h3
  obtain ⟨a4, len4, cap4, rfl⟩ := okWide_slice Ybzm.underlying22 (hval 4 22 v4 rfl rfl)
  have k4 := h4
  have lt4 : ∀ x ∈ p4, x.block < W.heap.size := by obtain ⟨m, hm⟩ := k4; exact DataW.trod_lt m _ _ _ hm
  obtain ⟨l4, hl4, hm4, hr4⟩ := open_ranges Ybzm.underlying22 Ybzm.underlying29 (by kernel_rfl) (by kernel_rfl) Ybzm.underlying5 Ybzm.underlying5 h4
  obtain ⟨a5, rfl, rfl, rfl⟩ := open_bool Ybzm.underlying4 (hval 5 4 v5 rfl rfl) h5
  obtain ⟨a6, rfl, rfl, rfl, w6⟩ := open_int Ybzm.underlying5 (hval 6 5 v6 rfl rfl) h6
  obtain ⟨c6, rfl⟩ := nat_of_u8 (bounds_u8 w6)
  clear hA0 hval0
  refine (aexact W c0 a1 (bounds_i64 w1) c2 a3 a4 len4 cap4 l4 hl4 hm4 hr4 a5 c6).mono fun e W' ⟨he, bel⟩ => ?_
  subst he
  exact ⟨_, rfl, _, _, _, [], _, [], hW', trodAll_mk1 (shut_bool Ybzm.underlying4 _), (trodAll_cons_mk (shut_int Ybzm.underlying5 w0) (trodAll_cons_mk (shut_int Ybzm.underlying3 w1) (trodAll_cons_mk (shut_int Ybzm.underlying5 w2) (trodAll_cons_mk (shut_bool Ybzm.underlying4 a3) (trodAll_cons_mk (Below.trod laidOut (by kernel_rfl) (of_decide_eq_true (by kernel_rfl)) k4 bel lt4) (trodAll_cons_mk (shut_bool Ybzm.underlying4 a5) (trodAll_cons_mk (shut_int Ybzm.underlying5 w6) trodAll_mk0))))))), rfl, bel.frame _, fun h => by cases h⟩

theorem over : Rows.lawS930014AExactRow.holds Ybzm.pinned (OpenSpec.ofChange Rows.lawS930014AExactSpec) :=
  OpenClaim.holds_of_wide 3 Ybzm.f3 rfl rfl rfl rfl rfl rfl rfl ⟨rfl, rfl, rfl, rfl, rfl⟩ rfl rfl rfl rfl rfl (by kernel_rfl) Ybzm.func3 (by kernel_rfl)
    (of_decide_eq_true (by kernel_rfl)) (by unfold Func.isWrapper; first | (rw [if_pos (by decide +kernel)]; kernel_rfl) | (rw [if_neg (by decide +kernel)]; exact ⟨rfl, rfl⟩))
    (fun os started H enc _ => lifted os started H enc)

/-- The statement. -/
theorem proved : Rows.LawS930014AExactSaid := over
end Go.Proofs.Ymbrbz.lawS930014AExact

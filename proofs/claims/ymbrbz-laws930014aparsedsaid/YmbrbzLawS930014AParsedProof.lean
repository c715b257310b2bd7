/-
  The proof of 'Rows.LawS930014AParsedSaid': the row's frame (the guide's own way at this function's number and types) round the walk 'aparsed' (YmbrbzAParsed.lean).
-/
import Derived.Test.YmbrbzRows
import Derived.WalkKit
import Derived.ProofKit
import Derived.OpenShut
import Derived.ShutString
import Derived.ChangeOld
import Derived.Below
import Derived.Lib.SmallJoins
import Derived.Test.YmbrbzOpen
import Derived.Test.YmbrbzAParsed
namespace Go.Proofs.Ymbrbz.lawS930014AParsed
open Go.ChangeShapes Go.WideShapes Go.ChangeAt Go.RowKit Go.Joins
open Go.ChangeMaps (open_string shut_string)
set_option linter.unusedVariables false

theorem own : ownKnob Ybzm.prog.godebug = none := by kernel_rfl
theorem laidOut : laidOutB Ybzm.prog = true := by kernel_rfl

set_option maxRecDepth 100000 in
theorem lifted (os : Os) (started : os.Started) (H : Type) (enc : TypeId × Value → H) :
    ReturnsInHanded {} Ybzm.checked os 4 .any (Rows.lawS930014AParsedSpec.pre6 enc Ybzm.prog Ybzm.f4 Rows.lawS930014AParsedRow.domain false) (Rows.lawS930014AParsedSpec.post enc Ybzm.prog Ybzm.f4 false true false false) := by
  refine returnsInHanded_of_change (C := Ybzm.checked) own started (by kernel_rfl) Ybzm.func4
    (ChangeSpec.witness6 (enc := enc) (C := Ybzm.checked) false ⟨#[], #[.bool false, .agg #[.int .u8 0, .int .u8 0], .slice none 0 0, .int .u8 0], []⟩ 8 (by kernel_rfl) (by kernel_rfl) (by kernel_rfl) (by kernel_rfl)) ?_
  intro W base args ds gs before hval0 hW hcnd _
  have hval : ∀ (j : Nat) t v, Ybzm.f4.params[j]? = some t → args[j]? = some v → Value.okWide Ybzm.prog W .any base t v := hval0
  have hW' := hW
  obtain ⟨p, q, hA0, hV, rfl, hfz, hnd⟩ := hW
  have hA : DataW.TrodAll enc Ybzm.prog W 0 (fun _ => true) true Ybzm.f4.params.toList args.toList ds p := hA0
  rw [Ybzm.params4] at hA hval
  obtain ⟨v0, vs0, d0, ds0, p0, q0, hargs, rfl, rfl, h0, r0⟩ := trodAll_cons hA
  obtain ⟨v1, vs1, d1, ds1, p1, q1, rfl, rfl, rfl, h1, r1⟩ := trodAll_cons r0
  obtain ⟨v2, vs2, d2, ds2, p2, q2, rfl, rfl, rfl, h2, r2⟩ := trodAll_cons r1
  obtain ⟨v3, vs3, d3, ds3, p3, q3, rfl, rfl, rfl, h3, r3⟩ := trodAll_cons r2
  obtain ⟨rfl, rfl, rfl⟩ := trodAll_nil r3
  obtain rfl : args = #[v0, v1, v2, v3] := by cases args; simp_all
  obtain ⟨rfl, rfl⟩ := trodVars_none hV
  obtain ⟨a0, rfl, rfl, rfl⟩ := open_bool Ybzm.underlying4 (hval 0 4 v0 rfl rfl) h0
  have k1 := h1
  have lt1 : ∀ x ∈ p1, x.block < W.heap.size := by obtain ⟨m, hm⟩ := k1; exact DataW.trod_lt m _ _ _ hm
  obtain ⟨lo1, hi1, hrv1⟩ : ∃ lo hi : UInt8, v1 = .agg #[.int .u8 lo.toNat, .int .u8 hi.toNat] := open_range Ybzm.underlying29 (by kernel_rfl) (by kernel_rfl) Ybzm.underlying5 Ybzm.underlying5 (hval 1 29 v1 rfl rfl) h1
  subst hrv1
  obtain ⟨a2, len2, cap2, rfl⟩ := okWide_slice Ybzm.underlying22 (hval 2 22 v2 rfl rfl)
  have k2 := h2
  have lt2 : ∀ x ∈ p2, x.block < W.heap.size := by obtain ⟨m, hm⟩ := k2; exact DataW.trod_lt m _ _ _ hm
  obtain ⟨l2, hl2, hm2, hr2⟩ := open_ranges Ybzm.underlying22 Ybzm.underlying29 (by kernel_rfl) (by kernel_rfl) Ybzm.underlying5 Ybzm.underlying5 h2
  obtain ⟨a3, rfl, rfl, rfl, w3⟩ := open_int Ybzm.underlying5 (hval 3 5 v3 rfl rfl) h3
  obtain ⟨c3, rfl⟩ := nat_of_u8 (bounds_u8 w3)
  clear hA0 hval0
  refine (aparsed W a0 lo1 hi1 a2 len2 cap2 l2 hl2 hm2 hr2 c3).mono fun e W' ⟨he, bel⟩ => ?_
  subst he
  exact ⟨_, rfl, _, _, _, [], _, [], hW', trodAll_mk1 (shut_bool Ybzm.underlying4 _), (trodAll_cons_mk (shut_bool Ybzm.underlying4 a0) (trodAll_cons_mk (Below.trod laidOut (by kernel_rfl) (of_decide_eq_true (by kernel_rfl)) k1 bel lt1) (trodAll_cons_mk (Below.trod laidOut (by kernel_rfl) (of_decide_eq_true (by kernel_rfl)) k2 bel lt2) (trodAll_cons_mk (shut_int Ybzm.underlying5 w3) trodAll_mk0)))), rfl, bel.frame _, fun h => by cases h⟩

theorem over : Rows.lawS930014AParsedRow.holds Ybzm.pinned (OpenSpec.ofChange Rows.lawS930014AParsedSpec) :=
  OpenClaim.holds_of_wide 4 Ybzm.f4 rfl rfl rfl rfl rfl rfl rfl ⟨rfl, rfl, rfl, rfl, rfl⟩ rfl rfl rfl rfl rfl (by kernel_rfl) Ybzm.func4 (by kernel_rfl)
    (of_decide_eq_true (by kernel_rfl)) (by unfold Func.isWrapper; first | (rw [if_pos (by decide +kernel)]; kernel_rfl) | (rw [if_neg (by decide +kernel)]; exact ⟨rfl, rfl⟩))
    (fun os started H enc _ => lifted os started H enc)

/-- The statement. -/
theorem proved : Rows.LawS930014AParsedSaid := over
end Go.Proofs.Ymbrbz.lawS930014AParsed

/-
  The proof of 'Rows.LawS930014IExactSaid': the row's frame (the guide's own way at this function's number and types) round the walk 'iexact' (YmbrcaIExact.lean).
-/
import Derived.Test.YmbrcaRows
import Derived.WalkKit
import Derived.ProofKit
import Derived.OpenShut
import Derived.ShutString
import Derived.ChangeOld
import Derived.Below
import Derived.Lib.SmallJoins
import Derived.Test.YmbrcaOpen
import Derived.Test.YmbrcaIExact
namespace Go.Proofs.Ymbrca.lawS930014IExact
open Go.ChangeShapes Go.WideShapes Go.ChangeAt Go.RowKit Go.Joins
open Go.ChangeMaps (open_string shut_string)
set_option linter.unusedVariables false

theorem own : ownKnob Ycam.prog.godebug = none := by kernel_rfl
theorem laidOut : laidOutB Ycam.prog = true := by kernel_rfl

set_option maxRecDepth 100000 in
theorem lifted (os : Os) (started : os.Started) (H : Type) (enc : TypeId × Value → H) :
    ReturnsInHanded {} Ycam.checked os 14 .any (Rows.lawS930014IExactSpec.pre6 enc Ycam.prog Ycam.f14 Rows.lawS930014IExactRow.domain false) (Rows.lawS930014IExactSpec.post enc Ycam.prog Ycam.f14 false true false false) := by
  refine returnsInHanded_of_change (C := Ycam.checked) own started (by kernel_rfl) Ycam.func14
    (ChangeSpec.witness6 (enc := enc) (C := Ycam.checked) false ⟨#[], #[.slice none 0 0, .int .u8 0, .int .u8 0], []⟩ 8 (by kernel_rfl) (by kernel_rfl) (by kernel_rfl) (by kernel_rfl)) ?_
  intro W base args ds gs before hval0 hW hcnd _
  have hval : ∀ (j : Nat) t v, Ycam.f14.params[j]? = some t → args[j]? = some v → Value.okWide Ycam.prog W .any base t v := hval0
  have hW' := hW
  obtain ⟨p, q, hA0, hV, rfl, hfz, hnd⟩ := hW
  have hA : DataW.TrodAll enc Ycam.prog W 0 (fun _ => true) true Ycam.f14.params.toList args.toList ds p := hA0
  rw [Ycam.params14] at hA hval
  obtain ⟨v0, vs0, d0, ds0, p0, q0, hargs, rfl, rfl, h0, r0⟩ := trodAll_cons hA
  obtain ⟨v1, vs1, d1, ds1, p1, q1, rfl, rfl, rfl, h1, r1⟩ := trodAll_cons r0
  obtain ⟨v2, vs2, d2, ds2, p2, q2, rfl, rfl, rfl, h2, r2⟩ := trodAll_cons r1
  obtain ⟨rfl, rfl, rfl⟩ := trodAll_nil r2
  obtain rfl : args = #[v0, v1, v2] := by cases args; simp_all
  obtain ⟨rfl, rfl⟩ := trodVars_none hV
  obtain ⟨a0, len0, cap0, rfl⟩ := okWide_slice Ycam.underlying22 (hval 0 22 v0 rfl rfl)
  have k0 := h0
  have lt0 : ∀ x ∈ p0, x.block < W.heap.size := by obtain ⟨m, hm⟩ := k0; exact DataW.trod_lt m _ _ _ hm
  obtain ⟨l0, hl0, hm0, hr0⟩ := open_bytes Ycam.underlying22 Ycam.underlying5 (by kernel_rfl) h0
  obtain ⟨a1, rfl, rfl, rfl, w1⟩ := open_int Ycam.underlying5 (hval 1 5 v1 rfl rfl) h1
  obtain ⟨c1, rfl⟩ := nat_of_u8 (bounds_u8 w1)
  obtain ⟨a2, rfl, rfl, rfl, w2⟩ := open_int Ycam.underlying5 (hval 2 5 v2 rfl rfl) h2
  obtain ⟨c2, rfl⟩ := nat_of_u8 (bounds_u8 w2)
  clear hA0 hval0
  refine (iexact W a0 len0 cap0 l0 hl0 hm0 hr0 c1 c2).mono fun e W' ⟨he, bel⟩ => ?_
  subst he
  exact ⟨_, rfl, _, _, _, [], _, [], hW', trodAll_mk1 (shut_bool Ycam.underlying4 _), (trodAll_cons_mk (Below.trod laidOut (by kernel_rfl) (of_decide_eq_true (by kernel_rfl)) k0 bel lt0) (trodAll_cons_mk (shut_int Ycam.underlying5 w1) (trodAll_cons_mk (shut_int Ycam.underlying5 w2) trodAll_mk0))), rfl, bel.frame _, fun h => by cases h⟩

theorem over : Rows.lawS930014IExactRow.holds Ycam.pinned (OpenSpec.ofChange Rows.lawS930014IExactSpec) :=
  OpenClaim.holds_of_wide 14 Ycam.f14 rfl rfl rfl rfl rfl rfl rfl ⟨rfl, rfl, rfl, rfl, rfl⟩ rfl rfl rfl rfl rfl (by kernel_rfl) Ycam.func14 (by kernel_rfl)
    (of_decide_eq_true (by kernel_rfl)) (by unfold Func.isWrapper; first | (rw [if_pos (by decide +kernel)]; kernel_rfl) | (rw [if_neg (by decide +kernel)]; exact ⟨rfl, rfl⟩))
    (fun os started H enc _ => lifted os started H enc)

/-- The statement. -/
theorem proved : Rows.LawS930014IExactSaid := over
end Go.Proofs.Ymbrca.lawS930014IExact

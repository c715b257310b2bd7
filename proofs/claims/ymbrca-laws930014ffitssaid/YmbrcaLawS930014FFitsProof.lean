/-
  The proof of 'Rows.LawS930014FFitsSaid': the row's frame (the guide's own way at this function's number and types) round the walk 'ffits' (YmbrcaFFits.lean).
-/
import Derived.Test.YmbrcaRows
import Derived.WalkKit
import Derived.ProofKit
import Derived.OpenShut
import Derived.ShutString
import Derived.ChangeOld
import Derived.Below
import Derived.Lib.SmallJoins
import Derived.Test.YmbrcaOpen
import Derived.Test.YmbrcaFFits
namespace Go.Proofs.Ymbrca.lawS930014FFits
open Go.ChangeShapes Go.WideShapes Go.ChangeAt Go.RowKit Go.Joins
open Go.ChangeMaps (open_string shut_string)
set_option linter.unusedVariables false

theorem own : ownKnob Ycam.prog.godebug = none := by kernel_rfl
theorem laidOut : laidOutB Ycam.prog = true := by kernel_rfl

set_option maxRecDepth 100000 in
theorem lifted (os : Os) (started : os.Started) (H : Type) (enc : TypeId × Value → H) :
    ReturnsInHanded {} Ycam.checked os 7 .any (Rows.lawS930014FFitsSpec.pre6 enc Ycam.prog Ycam.f7 Rows.lawS930014FFitsRow.domain false) (Rows.lawS930014FFitsSpec.post enc Ycam.prog Ycam.f7 false true false false) := by
  refine returnsInHanded_of_change (C := Ycam.checked) own started (by kernel_rfl) Ycam.func7
    (ChangeSpec.witness6 (enc := enc) (C := Ycam.checked) false ⟨#[], #[.string ByteArray.empty, .slice none 0 0, .int .u64 0, .int .i64 0], []⟩ 8 (by kernel_rfl) (by kernel_rfl) (by kernel_rfl) (by kernel_rfl)) ?_
  intro W base args ds gs before hval0 hW hcnd _
  have hval : ∀ (j : Nat) t v, Ycam.f7.params[j]? = some t → args[j]? = some v → Value.okWide Ycam.prog W .any base t v := hval0
  have hW' := hW
  obtain ⟨p, q, hA0, hV, rfl, hfz, hnd⟩ := hW
  have hA : DataW.TrodAll enc Ycam.prog W 0 (fun _ => true) true Ycam.f7.params.toList args.toList ds p := hA0
  rw [Ycam.params7] at hA hval
  obtain ⟨v0, vs0, d0, ds0, p0, q0, hargs, rfl, rfl, h0, r0⟩ := trodAll_cons hA
  obtain ⟨v1, vs1, d1, ds1, p1, q1, rfl, rfl, rfl, h1, r1⟩ := trodAll_cons r0
  obtain ⟨v2, vs2, d2, ds2, p2, q2, rfl, rfl, rfl, h2, r2⟩ := trodAll_cons r1
  obtain ⟨v3, vs3, d3, ds3, p3, q3, rfl, rfl, rfl, h3, r3⟩ := trodAll_cons r2
  obtain ⟨rfl, rfl, rfl⟩ := trodAll_nil r3
  obtain rfl : args = #[v0, v1, v2, v3] := by cases args; simp_all
  obtain ⟨rfl, rfl⟩ := trodVars_none hV
  obtain ⟨a0, rfl, rfl, rfl, w0⟩ := open_string Ycam.underlying9 (hval 0 9 v0 rfl rfl) h0
  obtain ⟨a1, len1, cap1, rfl⟩ := okWide_slice Ycam.underlying22 (hval 1 22 v1 rfl rfl)
  have k1 := h1
  have lt1 : ∀ x ∈ p1, x.block < W.heap.size := by obtain ⟨m, hm⟩ := k1; exact DataW.trod_lt m _ _ _ hm
  obtain ⟨l1, hl1, hm1, hr1⟩ := open_bytes Ycam.underlying22 Ycam.underlying5 (by kernel_rfl) h1
  obtain ⟨a2, rfl, rfl, rfl, w2⟩ := open_int Ycam.underlying33 (hval 2 33 v2 rfl rfl) h2
  obtain ⟨a3, rfl, rfl, rfl, w3⟩ := open_int Ycam.underlying3 (hval 3 3 v3 rfl rfl) h3
  clear hA0 hval0
  refine (ffits W a0 (by unfold maxLen at w0; exact w0) a1 len1 cap1 l1 hl1 hm1 hr1 a2 (bounds_u64 w2) a3 (bounds_i64 w3)).mono fun e W' ⟨he, bel⟩ => ?_
  subst he
  exact ⟨_, rfl, _, _, _, [], _, [], hW', trodAll_mk1 (shut_bool Ycam.underlying4 _), (trodAll_cons_mk (shut_string Ycam.underlying9 w0) (trodAll_cons_mk (Below.trod laidOut (by kernel_rfl) (of_decide_eq_true (by kernel_rfl)) k1 bel lt1) (trodAll_cons_mk (shut_int Ycam.underlying33 w2) (trodAll_cons_mk (shut_int Ycam.underlying3 w3) trodAll_mk0)))), rfl, bel.frame _, fun h => by cases h⟩

theorem over : Rows.lawS930014FFitsRow.holds Ycam.pinned (OpenSpec.ofChange Rows.lawS930014FFitsSpec) :=
  OpenClaim.holds_of_wide 7 Ycam.f7 rfl rfl rfl rfl rfl rfl rfl ⟨rfl, rfl, rfl, rfl, rfl⟩ rfl rfl rfl rfl rfl (by kernel_rfl) Ycam.func7 (by kernel_rfl)
    (of_decide_eq_true (by kernel_rfl)) (by unfold Func.isWrapper; first | (rw [if_pos (by decide +kernel)]; kernel_rfl) | (rw [if_neg (by decide +kernel)]; exact ⟨rfl, rfl⟩))
    (fun os started H enc _ => lifted os started H enc)

/-- The statement. -/
theorem proved : Rows.LawS930014FFitsSaid := over
end Go.Proofs.Ymbrca.lawS930014FFits

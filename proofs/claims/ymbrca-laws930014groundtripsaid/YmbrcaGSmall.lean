import Derived.Test.YmbrcaProg
import Derived.Test.YmbrcaAid
import Derived.WalkKit
import Derived.WalkSpells
import Derived.WalkLawsBesides
namespace Go.Proofs.Ymbrca
open Go.RowKit

/-- gpick: a raw byte to a pattern byte. -/
def gp (x : UInt8) : UInt8 := if x.toNat % 8 = 0 then 92 else if x.toNat % 8 = 1 then 93 else if x.toNat % 8 = 2 then 45 else x

theorem gp_cases (x : UInt8) : (x.toNat % 8 = 0 ∧ gp x = 92) ∨ (x.toNat % 8 = 1 ∧ gp x = 93) ∨ (x.toNat % 8 = 2 ∧ gp x = 45) ∨ (x.toNat % 8 ≠ 0 ∧ x.toNat % 8 ≠ 1 ∧ x.toNat % 8 ≠ 2 ∧ gp x = x) := by
  unfold gp
  by_cases h0 : x.toNat % 8 = 0
  · simp [h0]
  · by_cases h1 : x.toNat % 8 = 1
    · simp [h1]
    · by_cases h2 : x.toNat % 8 = 2
      · simp [h2]
      · simp [h0, h1, h2]

set_option maxHeartbeats 400000 in
theorem gpick_any (x : UInt8) (w : World) : Calls Ycam.prog 20 #[.int .u8 x.toNat] w fun e w' => e = .returned (.int .u8 (gp x).toNat) ∧ w' = w := by
  rcases gp_cases x with ⟨h, e⟩ | ⟨h, e⟩ | ⟨h, e⟩ | ⟨h0, h1, h2, e⟩
  all_goals
    rw [e]
    clear e
    go_enter Ycam.func20, Ycam.ntmps20
    go_wp2
    go_ret
    exact ⟨rfl, rfl⟩

def gs (c : UInt8) : Bool := c == 92 || c == 93 || c == 45

theorem gs_cases (c : UInt8) : (c.toNat = 92 ∧ gs c = true) ∨ (c.toNat = 93 ∧ gs c = true) ∨ (c.toNat = 45 ∧ gs c = true) ∨ (c.toNat ≠ 92 ∧ c.toNat ≠ 93 ∧ c.toNat ≠ 45 ∧ gs c = false) := by
  have key : ∀ n : UInt8, (c == n) = decide (c.toNat = n.toNat) := by
    intro n
    rw [Bool.eq_iff_iff]
    simp [UInt8.toNat_inj]
  unfold gs
  simp only [key]
  simp only [show (93 : UInt8).toNat = 93 from rfl, show (92 : UInt8).toNat = 92 from rfl, show (45 : UInt8).toNat = 45 from rfl]
  by_cases h4 : c.toNat = 93 <;> by_cases h5 : c.toNat = 92 <;> by_cases h6 : c.toNat = 45 <;> simp [h4, h5, h6]

set_option maxHeartbeats 400000 in
theorem gspecial_any (c : UInt8) (w : World) : Calls Ycam.prog 21 #[.int .u8 c.toNat] w fun e w' => e = .returned (.bool (gs c)) ∧ w' = w := by
  rcases gs_cases c with ⟨h, e⟩ | ⟨h, e⟩ | ⟨h, e⟩ | ⟨h0, h1, h2, e⟩
  case inr.inr.inr =>
    have g0 : ((c.toNat : Int) == 92) = false := beq_eq_false_iff_ne.2 (by omega)
    have g1 : ((c.toNat : Int) == 93) = false := beq_eq_false_iff_ne.2 (by omega)
    have g2 : ((c.toNat : Int) == 45) = false := beq_eq_false_iff_ne.2 (by omega)
    rw [e]
    clear e
    go_enter Ycam.func21, Ycam.ntmps21
    go_wp2
    go_ret
    exact ⟨rfl, rfl⟩
  all_goals
    rw [e]
    clear e
    go_enter Ycam.func21, Ycam.ntmps21
    go_wp2
    go_ret
    exact ⟨rfl, rfl⟩
end Go.Proofs.Ymbrca

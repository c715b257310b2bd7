import Derived.Test.YmbrbzAppendChar
namespace Go.Proofs.Ymbrbz
open Go.RowKit

theorem isSp_cases (c : UInt8) : (c.toNat = 42 ∧ isSp c = true) ∨ (c.toNat = 63 ∧ isSp c = true) ∨ (c.toNat = 91 ∧ isSp c = true) ∨ (c.toNat = 93 ∧ isSp c = true) ∨ (c.toNat = 92 ∧ isSp c = true) ∨
    (c.toNat = 45 ∧ isSp c = true) ∨ (c.toNat = 33 ∧ isSp c = true) ∨ (c.toNat ≠ 42 ∧ c.toNat ≠ 63 ∧ c.toNat ≠ 91 ∧ c.toNat ≠ 93 ∧ c.toNat ≠ 92 ∧ c.toNat ≠ 45 ∧ c.toNat ≠ 33 ∧ isSp c = false) := by
  have key : ∀ n : UInt8, (c == n) = decide (c.toNat = n.toNat) := by
    intro n
    rw [Bool.eq_iff_iff]
    simp [UInt8.toNat_inj]
  unfold isSp
  simp only [key]
  simp only [show (42 : UInt8).toNat = 42 from rfl, show (63 : UInt8).toNat = 63 from rfl, show (91 : UInt8).toNat = 91 from rfl, show (93 : UInt8).toNat = 93 from rfl, show (92 : UInt8).toNat = 92 from rfl, show (45 : UInt8).toNat = 45 from rfl, show (33 : UInt8).toNat = 33 from rfl]
  by_cases h1 : c.toNat = 42 <;> by_cases h2 : c.toNat = 63 <;> by_cases h3 : c.toNat = 91 <;> by_cases h4 : c.toNat = 93 <;> by_cases h5 : c.toNat = 92 <;> by_cases h6 : c.toNat = 45 <;> by_cases h7 : c.toNat = 33 <;> simp [h1, h2, h3, h4, h5, h6, h7]

set_option maxHeartbeats 1000000 in
theorem especial_any (c : UInt8) (w : World) :
    Calls Ybzm.prog 32 #[.int .u8 c.toNat] w fun e w' => e = .returned (.bool (isSp c)) ∧ w' = w := by
  rcases isSp_cases c with ⟨h1, he⟩ | ⟨h1, he⟩ | ⟨h1, he⟩ | ⟨h1, he⟩ | ⟨h1, he⟩ | ⟨h1, he⟩ | ⟨h1, he⟩ | ⟨h1, h2, h3, h4, h5, h6, h7, he⟩
  case inr.inr.inr.inr.inr.inr.inr =>
    rw [he]
    clear he
    have g0 : (((({ data := #[42, 63, 91, 93, 92, 45, 33] } : ByteArray)[0]'(by decide)).toNat : Int) == (c.toNat : Int)) = false := by show ((42 : Int) == (c.toNat : Int)) = false; exact beq_eq_false_iff_ne.2 (by omega)
    have g1 : (((({ data := #[42, 63, 91, 93, 92, 45, 33] } : ByteArray)[1]'(by decide)).toNat : Int) == (c.toNat : Int)) = false := by show ((63 : Int) == (c.toNat : Int)) = false; exact beq_eq_false_iff_ne.2 (by omega)
    have g2 : (((({ data := #[42, 63, 91, 93, 92, 45, 33] } : ByteArray)[2]'(by decide)).toNat : Int) == (c.toNat : Int)) = false := by show ((91 : Int) == (c.toNat : Int)) = false; exact beq_eq_false_iff_ne.2 (by omega)
    have g3 : (((({ data := #[42, 63, 91, 93, 92, 45, 33] } : ByteArray)[3]'(by decide)).toNat : Int) == (c.toNat : Int)) = false := by show ((93 : Int) == (c.toNat : Int)) = false; exact beq_eq_false_iff_ne.2 (by omega)
    have g4 : (((({ data := #[42, 63, 91, 93, 92, 45, 33] } : ByteArray)[4]'(by decide)).toNat : Int) == (c.toNat : Int)) = false := by show ((92 : Int) == (c.toNat : Int)) = false; exact beq_eq_false_iff_ne.2 (by omega)
    have g5 : (((({ data := #[42, 63, 91, 93, 92, 45, 33] } : ByteArray)[5]'(by decide)).toNat : Int) == (c.toNat : Int)) = false := by show ((45 : Int) == (c.toNat : Int)) = false; exact beq_eq_false_iff_ne.2 (by omega)
    have g6 : (((({ data := #[42, 63, 91, 93, 92, 45, 33] } : ByteArray)[6]'(by decide)).toNat : Int) == (c.toNat : Int)) = false := by show ((33 : Int) == (c.toNat : Int)) = false; exact beq_eq_false_iff_ne.2 (by omega)
    go_enter Ybzm.func32, Ybzm.ntmps32
    go_wp2
    refine wp_loop_rounds 8 ?_
    repeat (rw [rounds_succ]; go_wp2)
    go_ret
    exact ⟨rfl, rfl⟩
  all_goals
    rw [he]
    clear he
    go_enter Ybzm.func32, Ybzm.ntmps32
    go_wp2
    refine wp_loop_rounds 8 ?_
    repeat (rw [rounds_succ]; go_wp2)
    go_ret
    exact ⟨rfl, rfl⟩
end Go.Proofs.Ymbrbz

import Derived.Test.YmbrbzProg
import Derived.WalkKit
import Derived.WalkSpells
import Derived.WalkLawsBesides
namespace Go.Proofs.Ymbrbz
open Go.RowKit

/-- What readChar answers at index i of s: the byte, the next index, success. -/
def rcv (s : ByteArray) (i : Nat) (b : Bool) : UInt8 × Nat × Bool :=
  if h : i < s.size then
    if s[i].toNat = 92 then
      if h2 : i + 1 < s.size then (s[i + 1], i + 2, true) else (0, i, false)
    else if b = true ∧ (s[i].toNat = 93 ∨ s[i].toNat = 45) then (0, i, false)
    else (s[i], i + 1, true)
  else (0, i, false)

theorem rcv_cases (s : ByteArray) (i : Nat) (b : Bool) :
    (s.size ≤ i ∧ rcv s i b = (0, i, false)) ∨
    (∃ h : i < s.size, s[i].toNat = 92 ∧ s.size ≤ i + 1 ∧ rcv s i b = (0, i, false)) ∨
    (∃ h : i < s.size, s[i].toNat = 92 ∧ ∃ h2 : i + 1 < s.size, rcv s i b = (s[i + 1], i + 2, true)) ∨
    (∃ h : i < s.size, s[i].toNat = 93 ∧ b = true ∧ rcv s i b = (0, i, false)) ∨
    (∃ h : i < s.size, s[i].toNat = 45 ∧ b = true ∧ rcv s i b = (0, i, false)) ∨
    (∃ h : i < s.size, s[i].toNat ≠ 92 ∧ b = false ∧ rcv s i b = (s[i], i + 1, true)) ∨
    (∃ h : i < s.size, s[i].toNat ≠ 92 ∧ s[i].toNat ≠ 93 ∧ s[i].toNat ≠ 45 ∧ b = true ∧ rcv s i b = (s[i], i + 1, true)) := by
  unfold rcv
  by_cases h : i < s.size
  · by_cases h1 : s[i].toNat = 92
    · by_cases h2 : i + 1 < s.size
      · simp [h, h1, h2]
      · simp [h, h1, h2]; omega
    · by_cases h3 : s[i].toNat = 93 <;> by_cases h4 : s[i].toNat = 45 <;> cases b <;> simp [h, h1, h3, h4]
  · simp [h]; omega

set_option maxHeartbeats 400000 in
theorem readChar_any (s : ByteArray) (i : Nat) (b : Bool) (hs : s.size ≤ 9223372036854775807) (hi : i ≤ 9223372036854775807) (w : World) :
    Calls Ybzm.prog 35 #[.string s, .int .i64 i, .bool b] w fun e w' => e = .returned (.tuple #[.int .u8 (rcv s i b).1.toNat, .int .i64 (rcv s i b).2.1, .bool (rcv s i b).2.2]) ∧ w' = w := by
  rcases rcv_cases s i b with ⟨h, e⟩ | ⟨h, h1, h2, e⟩ | ⟨h, h1, h2, e⟩ | ⟨h, h1, rfl, e⟩ | ⟨h, h1, rfl, e⟩ | ⟨h, h1, rfl, e⟩ | ⟨h, h1, h2, h3, rfl, e⟩
  case inr.inr.inr.inr.inr.inr =>
    rw [e]; clear e
    have g2 : ((s[i].toNat : Int) == 93) = false := beq_eq_false_iff_ne.2 (by omega)
    have g3 : ((s[i].toNat : Int) == 45) = false := beq_eq_false_iff_ne.2 (by omega)
    go_enter Ybzm.func35, Ybzm.ntmps35
    go_wp2
    go_ret3
    exact ⟨rfl, rfl⟩
  all_goals
    rw [e]; clear e
    go_enter Ybzm.func35, Ybzm.ntmps35
    go_wp2
    go_ret3
    exact ⟨rfl, rfl⟩

theorem readChar_at (s : ByteArray) (j : Int) (i : Nat) (b : Bool) (hj : j = i) (hs : s.size ≤ 9223372036854775807) (hi : i ≤ 9223372036854775807) (w : World) :
    Calls Ybzm.prog 35 #[.string s, .int .i64 j, .bool b] w fun e w' => e = .returned (.tuple #[.int .u8 (rcv s i b).1.toNat, .int .i64 (rcv s i b).2.1, .bool (rcv s i b).2.2]) ∧ w' = w := by
  subst hj; exact readChar_any s i b hs hi w
end Go.Proofs.Ymbrbz

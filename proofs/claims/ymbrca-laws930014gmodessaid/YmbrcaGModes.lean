import Derived.Test.YmbrcaReadChar
import Derived.RowKit3
namespace Go.Proofs.Ymbrca
open Go.RowKit

theorem modes_cases (s : ByteArray) (n : Nat) :
    (s.size ≤ n ∧ Hid (rcv s n false = (0, n, false)) ∧ Hid (rcv s n true = (0, n, false))) ∨
    (∃ h : n < s.size, s[n].toNat = 92 ∧ s.size ≤ n + 1 ∧ Hid (rcv s n false = (0, n, false)) ∧ Hid (rcv s n true = (0, n, false))) ∨
    (∃ h : n < s.size, s[n].toNat = 92 ∧ ∃ h2 : n + 1 < s.size, Hid (rcv s n false = (s[n + 1], n + 2, true)) ∧ Hid (rcv s n true = (s[n + 1], n + 2, true))) ∨
    (∃ h : n < s.size, s[n].toNat = 93 ∧ Hid (rcv s n false = (s[n], n + 1, true)) ∧ Hid (rcv s n true = (0, n, false))) ∨
    (∃ h : n < s.size, s[n].toNat = 45 ∧ Hid (rcv s n false = (s[n], n + 1, true)) ∧ Hid (rcv s n true = (0, n, false))) ∨
    (∃ h : n < s.size, s[n].toNat ≠ 92 ∧ s[n].toNat ≠ 93 ∧ s[n].toNat ≠ 45 ∧ Hid (rcv s n false = (s[n], n + 1, true)) ∧ Hid (rcv s n true = (s[n], n + 1, true))) := by
  unfold Hid rcv
  by_cases h : n < s.size
  · by_cases h1 : s[n].toNat = 92
    · by_cases h2 : n + 1 < s.size
      · simp [h, h1, h2]
      · simp [h, h1, h2]; omega
    · by_cases h3 : s[n].toNat = 93 <;> by_cases h4 : s[n].toNat = 45 <;> simp [h, h1, h3, h4]
  · simp [h]; omega

set_option maxHeartbeats 400000 in
theorem gmodes (s : ByteArray) (j : Int) (n : Nat) (hj : (0 ≤ j ∧ j = n) ∨ (j < 0 ∧ -(j + 1) = n)) (hs : s.size ≤ 9223372036854775807) (hn : n ≤ 9223372036854775807) (w : World) :
    Calls Ycam.prog 9 #[.string s, .int .i64 j] w fun e w' => e = .returned (.bool true) ∧ w' = w := by
  rcases modes_cases s n with ⟨h, H1, H2⟩ | ⟨h, h1, h2, H1, H2⟩ | ⟨h, h1, h2, H1, H2⟩ | ⟨h, h1, H1, H2⟩ | ⟨h, h1, H1, H2⟩ | ⟨h, h1, h2, h3, H1, H2⟩
  case inr.inr.inr.inr.inr =>
    have g2 : ((s[n].toNat : Int) == 93) = false := beq_eq_false_iff_ne.2 (by omega)
    have g3 : ((s[n].toNat : Int) == 45) = false := beq_eq_false_iff_ne.2 (by omega)
    rcases hj with ⟨h0, hj⟩ | ⟨h0, hj⟩
    all_goals
      go_enter Ycam.func9, Ycam.ntmps9
      go_wp2_with fail
      refine (readChar_at s _ n false (by omega) hs hn _).mono ?_
      rintro e w' ⟨rfl, rfl⟩
      rw [H1.out]
      go_wp2_with fail
      refine (readChar_at s _ n true (by omega) hs hn _).mono ?_
      rintro e w' ⟨rfl, rfl⟩
      rw [H2.out]
      go_wp2_with fail
      go_ret
      exact ⟨rfl, rfl⟩
  case inr.inl =>
    have g4 : ((n : Int) == (s.size : Int) - 1) = true := beq_iff_eq.2 (by omega)
    have g5 : decide (s.size ≤ n) = false := decide_eq_false (by omega)
    rcases hj with ⟨h0, hj⟩ | ⟨h0, hj⟩
    all_goals
      go_enter Ycam.func9, Ycam.ntmps9
      go_wp2_with fail
      refine (readChar_at s _ n false (by omega) hs hn _).mono ?_
      rintro e w' ⟨rfl, rfl⟩
      rw [H1.out]
      go_wp2_with fail
      refine (readChar_at s _ n true (by omega) hs hn _).mono ?_
      rintro e w' ⟨rfl, rfl⟩
      rw [H2.out]
      go_wp2_with fail
      go_ret
      exact ⟨rfl, rfl⟩
  all_goals
    rcases hj with ⟨h0, hj⟩ | ⟨h0, hj⟩
    all_goals
      go_enter Ycam.func9, Ycam.ntmps9
      go_wp2_with fail
      refine (readChar_at s _ n false (by omega) hs hn _).mono ?_
      rintro e w' ⟨rfl, rfl⟩
      rw [H1.out]
      go_wp2_with fail
      refine (readChar_at s _ n true (by omega) hs hn _).mono ?_
      rintro e w' ⟨rfl, rfl⟩
      rw [H2.out]
      go_wp2_with fail
      go_ret
      exact ⟨rfl, rfl⟩
end Go.Proofs.Ymbrca

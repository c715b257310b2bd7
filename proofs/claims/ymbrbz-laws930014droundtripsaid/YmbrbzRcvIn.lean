import Derived.Test.YmbrbzReadChar
import Derived.Test.YmbrbzClassFn
namespace Go.Proofs.Ymbrbz
open Go.RowKit

theorem dropAt (s : ByteArray) (i : Nat) (h : i < s.size) : s.data.toList.drop i = s[i] :: s.data.toList.drop (i + 1) := by
  have hl : i < s.data.toList.length := by simpa using h
  rw [List.drop_eq_getElem_cons hl]
  congr 1
theorem dropEnd (s : ByteArray) (i : Nat) (h : s.size ≤ i) : s.data.toList.drop i = [] := List.drop_of_length_le (by simpa using h)
theorem dropLen (s : ByteArray) (i : Nat) : (s.data.toList.drop i).length = s.size - i := by simp

/-- What reading one byte within a class at i comes to, told by what is left. -/
theorem rcv_rdIn (s : ByteArray) (i : Nat) :
    (rdIn (s.data.toList.drop i) = none ∧ rcv s i true = (0, i, false)) ∨
    ∃ c j, i < j ∧ j ≤ s.size ∧ rdIn (s.data.toList.drop i) = some (c, s.data.toList.drop j) ∧ rcv s i true = (c, j, true) := by
  by_cases h : i < s.size
  · rw [dropAt s i h]
    rcases rcv_cases s i true with ⟨q, e⟩ | ⟨_, h1, h2, e⟩ | ⟨_, h1, h2, e⟩ | ⟨_, h1, _, e⟩ | ⟨_, h1, _, e⟩ | ⟨_, h1, q, e⟩ | ⟨_, h1, h2, h3, _, e⟩
    · omega
    · left
      rw [dropEnd s (i + 1) h2]
      exact ⟨by simp [rdIn, h1], e⟩
    · right
      rw [dropAt s (i + 1) h2]
      exact ⟨s[i + 1], i + 2, by omega, by omega, by simp [rdIn, h1], e⟩
    · left
      exact ⟨by simp [rdIn, h1], e⟩
    · left
      exact ⟨by simp [rdIn, h1], e⟩
    · cases q
    · right
      exact ⟨s[i], i + 1, by omega, by omega, by simp [rdIn, h1, h2, h3], e⟩
  · left
    rw [dropEnd s i (by omega)]
    refine ⟨rfl, ?_⟩
    unfold rcv
    rw [dif_neg h]
end Go.Proofs.Ymbrbz

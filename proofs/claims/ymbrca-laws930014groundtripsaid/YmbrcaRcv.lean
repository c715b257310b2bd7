import Derived.Test.YmbrcaReadChar
import Derived.Test.YmbrcaBytes
namespace Go.Proofs.Ymbrca
open Go.RowKit

/-- The byte at an index behind a first part. -/
theorem str_at (A B : List UInt8) (j : Nat) (hj : j < B.length) : ∃ h : A.length + j < (strOf (A ++ B)).size, (strOf (A ++ B))[A.length + j] = B[j] := by
  have hs : A.length + j < (strOf (A ++ B)).size := by rw [strOf_size]; simp; omega
  refine ⟨hs, ?_⟩
  rw [strOf_getElem]
  rw [List.getElem_append_right (by omega)]
  simp

theorem rcv_end (A : List UInt8) (ic : Bool) : rcv (strOf A) A.length ic = (0, A.length, false) := by
  unfold rcv
  rw [dif_neg (by rw [strOf_size]; omega)]

theorem rcv_bs_end (A : List UInt8) (ic : Bool) : rcv (strOf (A ++ [92])) A.length ic = (0, A.length, false) := by
  obtain ⟨h, e⟩ := str_at A [92] 0 (by simp)
  simp only [Nat.add_zero] at h e
  unfold rcv
  rw [dif_pos h, e]
  simp only [List.getElem_cons_zero]
  rw [if_pos (by rfl), dif_neg (by rw [strOf_size]; simp)]

theorem rcv_bs (A : List UInt8) (d : UInt8) (t : List UInt8) (ic : Bool) : rcv (strOf (A ++ 92 :: d :: t)) A.length ic = (d, A.length + 2, true) := by
  obtain ⟨h, e⟩ := str_at A (92 :: d :: t) 0 (by simp)
  obtain ⟨h1, e1⟩ := str_at A (92 :: d :: t) 1 (by simp)
  simp only [Nat.add_zero] at h e
  unfold rcv
  rw [dif_pos h, e]
  simp only [List.getElem_cons_zero]
  rw [if_pos (by rfl), dif_pos h1, e1]
  simp

theorem rcv_plain (A : List UInt8) (c : UInt8) (t : List UInt8) (ic : Bool) (h92 : c.toNat ≠ 92) (hic : ¬ (ic = true ∧ (c.toNat = 93 ∨ c.toNat = 45))) : rcv (strOf (A ++ c :: t)) A.length ic = (c, A.length + 1, true) := by
  obtain ⟨h, e⟩ := str_at A (c :: t) 0 (by simp)
  simp only [Nat.add_zero] at h e
  unfold rcv
  rw [dif_pos h, e]
  simp only [List.getElem_cons_zero]
  rw [if_neg h92, if_neg hic]

theorem rcv_bare (A : List UInt8) (c : UInt8) (t : List UInt8) (hc : c.toNat = 93 ∨ c.toNat = 45) : rcv (strOf (A ++ c :: t)) A.length true = (0, A.length, false) := by
  obtain ⟨h, e⟩ := str_at A (c :: t) 0 (by simp)
  simp only [Nat.add_zero] at h e
  unfold rcv
  rw [dif_pos h, e]
  simp only [List.getElem_cons_zero]
  rw [if_neg (by omega), if_pos ⟨by simp, hc⟩]

end Go.Proofs.Ymbrca

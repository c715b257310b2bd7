import Derived.Test.YmbrcbAppendChar
namespace Go.Proofs.Ymbrcb
open Go.RowKit

def quote (bs : List UInt8) : List UInt8 := bs.flatMap esc

theorem quote_length (bs : List UInt8) : (quote bs).length ≤ 2 * bs.length := by
  induction bs with
  | nil => simp [quote]
  | cons c t ih =>
    have := esc_length c
    simp only [quote, List.flatMap_cons, List.length_append, List.length_cons] at *
    omega

theorem quote_take_succ (bs : List UInt8) (k : Nat) (hk : k < bs.length) : quote (bs.take (k + 1)) = quote (bs.take k) ++ esc bs[k] := by
  unfold quote
  rw [List.take_succ_eq_append_getElem hk, List.flatMap_append]
  simp

theorem quote_split (l : List UInt8) (k : Nat) (hk : k < l.length) : quote l = quote (l.take k) ++ (esc l[k] ++ quote (l.drop (k + 1))) := by
  have e : l = l.take k ++ (l[k] :: l.drop (k + 1)) := by simp
  unfold quote
  conv => lhs; rw [e]
  rw [List.flatMap_append, List.flatMap_cons]

theorem getD_append_at (l m : List UInt8) (j : Nat) : (l ++ m).getD (l.length + j) 0 = m.getD j 0 := by
  simp only [List.getD_eq_getElem?_getD]
  rw [List.getElem?_append_right (by omega)]
  simp

/-- What the quoted text holds where byte k's spelling begins. -/
theorem quote_atL (l : List UInt8) (k j : Nat) (hk : k < l.length) (hj : j = (quote (l.take k)).length) :
    (isSp (l.getD k 0) = true ∧ j + 1 < (quote l).length ∧ (quote l).getD j 0 = 92 ∧ (quote l).getD (j + 1) 0 = l.getD k 0 ∧ (quote (l.take (k + 1))).length = j + 2) ∨
    (isSp (l.getD k 0) = false ∧ j < (quote l).length ∧ (quote l).getD j 0 = l.getD k 0 ∧ (quote (l.take (k + 1))).length = j + 1) := by
  have hg : l.getD k 0 = l[k] := by simp [List.getD_eq_getElem?_getD, List.getElem?_eq_getElem hk]
  rw [hg]
  have e := quote_split l k hk
  have e2 := quote_take_succ l k hk
  subst hj
  cases hsp : isSp l[k] with
  | true =>
    have he : esc l[k] = [92, l[k]] := by simp [esc, hsp]
    rw [he] at e e2
    left
    refine ⟨rfl, ?_, ?_, ?_, by rw [e2]; simp⟩
    · rw [e]; simp
    · have := getD_append_at (quote (l.take k)) ([92, l[k]] ++ quote (l.drop (k + 1))) 0
      rw [← e] at this
      simpa using this
    · have := getD_append_at (quote (l.take k)) ([92, l[k]] ++ quote (l.drop (k + 1))) 1
      rw [← e] at this
      simpa using this
  | false =>
    have he : esc l[k] = [l[k]] := by simp [esc, hsp]
    rw [he] at e e2
    right
    refine ⟨rfl, ?_, ?_, by rw [e2]; simp⟩
    · rw [e]; simp
    · have := getD_append_at (quote (l.take k)) ([l[k]] ++ quote (l.drop (k + 1))) 0
      rw [← e] at this
      simpa using this

end Go.Proofs.Ymbrcb

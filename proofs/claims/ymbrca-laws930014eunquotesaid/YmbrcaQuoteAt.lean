import Derived.Test.YmbrcaQuote
namespace Go.Proofs.Ymbrca
open Go.RowKit

theorem quote_split (l : List UInt8) (k : Nat) (hk : k < l.length) : quote l = quote (l.take k) ++ (esc l[k] ++ quote (l.drop (k + 1))) := by
  have e : l = l.take k ++ (l[k] :: l.drop (k + 1)) := by simp
  unfold quote
  conv => lhs; rw [e]
  rw [List.flatMap_append, List.flatMap_cons]

/-- What the loop meets at byte k of s: q holds the backslash and the byte, or the byte alone. -/
theorem quote_at (s q : ByteArray) (k j : Nat) (hq : q = strOf (quote s.data.toList)) (hk : k < s.size) (hj : j = (quote (s.data.toList.take k)).length) :
    (isSp s[k] = true ∧ ∃ (h0 : j < q.size) (h1 : j + 1 < q.size), q[j].toNat = 92 ∧ q[j + 1] = s[k] ∧ (quote (s.data.toList.take (k + 1))).length = j + 2) ∨
    (isSp s[k] = false ∧ ∃ h0 : j < q.size, q[j] = s[k] ∧ (quote (s.data.toList.take (k + 1))).length = j + 1) := by
  have hkl : k < s.data.toList.length := by simpa using hk
  have e := quote_split s.data.toList k hkl
  have e2 := quote_take_succ s.data.toList k hkl
  have hc : s[k] = s.data.toList[k] := ba_getElem s k hk
  rw [← hc] at e e2
  have hsz : q.size = (quote s.data.toList).length := by rw [hq, strOf_size]
  cases hsp : isSp s[k] with
  | true =>
    have he : esc s[k] = [92, s[k]] := by simp [esc, hsp]
    rw [he] at e e2
    left
    have hl : (quote s.data.toList).length = j + 2 + (quote (s.data.toList.drop (k + 1))).length := by rw [e, hj]; simp; omega
    refine ⟨rfl, by omega, by omega, ?_, ?_, by rw [e2, hj]; simp⟩
    · subst hq
      rw [strOf_getElem]
      simp only [e]
      rw [List.getElem_append_right (by omega)]
      simp [hj]
    · subst hq
      rw [strOf_getElem]
      simp only [e]
      rw [List.getElem_append_right (by omega)]
      simp [hj]
  | false =>
    have he : esc s[k] = [s[k]] := by simp [esc, hsp]
    rw [he] at e e2
    right
    have hl : (quote s.data.toList).length = j + 1 + (quote (s.data.toList.drop (k + 1))).length := by rw [e, hj]; simp; omega
    refine ⟨rfl, by omega, ?_, by rw [e2, hj]; simp⟩
    subst hq
    rw [strOf_getElem]
    simp only [e]
    rw [List.getElem_append_right (by omega)]
    simp [hj]

end Go.Proofs.Ymbrca

import Derived.Test.YmbrcaAppendChar
namespace Go.Proofs.Ymbrca
open Go.RowKit

def quote (bs : List UInt8) : List UInt8 := bs.flatMap esc

theorem quote_length (bs : List UInt8) : (quote bs).length ≤ 2 * bs.length := by
  induction bs with
  | nil => simp [quote]
  | cons c t ih =>
    have := esc_length c
    simp only [quote, List.flatMap_cons, List.length_append, List.length_cons] at *
    omega

theorem quote_take_succ (bs : List UInt8) (k : Nat) (hk : k < bs.length) : quote (bs.take (k + 1)) = quote (bs.take k) ++ esc bs[k] := by
  unfold quote
  rw [List.take_succ_eq_append_getElem hk, List.flatMap_append]
  simp

theorem ret_string {a b : ByteArray} (h : a = b) : Ending.returned (.string a) = .returned (.string b) := by rw [h]

theorem ba_getElem (s : ByteArray) (i : Nat) (h : i < s.size) : s[i] = s.data.toList[i]'(by simpa using h) := by
  show s.data[i] = _
  simp

set_option maxHeartbeats 400000 in
theorem quote_any (s : ByteArray) (w : World) (hs : s.size ≤ 70000000000000) :
    Calls Ycam.prog 15 #[.string s] w fun e w' => e = .returned (.string (strOf (quote s.data.toList))) ∧ Below w.heap.size w w' := by
  go_enter Ycam.func15, Ycam.ntmps15
  go_wp2_with fail
  go_loopw [3, 4] (fun v i wr => ∃ k : Nat, k ≤ s.size ∧ i = .int .i64 k ∧ OwnB wr w.heap.size v (quote (s.data.toList.take k)) ∧ Below w.heap.size w wr) (fun _ i _ => s.size - (intOf i).toNat)
  case atStart => exact ⟨0, Nat.zero_le _, rfl, OwnB.nil _ _, Below.refl _ _⟩
  case round =>
    obtain ⟨k, hk, rfl, hown, hb⟩ := hrel
    by_cases hks : k < s.size
    · have hkl : k < s.data.toList.length := by simpa using hks
      have HQ : Hid (quote (s.data.toList.take (k + 1)) = quote (s.data.toList.take k) ++ esc s[k]) := by
        have := quote_take_succ s.data.toList k hkl
        rw [ba_getElem]; exact this
      have hq := quote_length (s.data.toList.take k)
      have hql : (s.data.toList.take k).length ≤ k := List.length_take_le _ _
      have HO : Hid (_) := hown
      clear hown
      go_wp2_with fail
      refine (appendChar_any w.heap.size _ _ s[k] _ HO.out hb.size (by omega)).mono ?_
      rintro e w1 ⟨v1, rfl, hown1, hb1⟩
      rw [← HQ.out] at hown1
      have HO1 : Hid (_) := hown1
      clear hown1
      go_wp2_with fail
      go_roundw
      case rel => exact ⟨k + 1, by omega, by go_num, HO1.out, hb.trans hb1⟩
      case measure => simp [intOf]; omega
    · have hkk : s.data.toList.take k = s.data.toList := List.take_of_length_le (by simp; omega)
      rw [hkk] at hown
      have hconv := hown.conv (P := Ycam.prog) 22 Ycam.underlying22 Ycam.underlying5 9 Ycam.underlying9
      clear hkk hown
      go_wp2_with fail
      go_ret
      exact ⟨rfl, hb⟩
end Go.Proofs.Ymbrca

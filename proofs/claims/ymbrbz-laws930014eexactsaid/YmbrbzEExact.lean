import Derived.Test.YmbrbzQuote
import Derived.Test.YmbrbzEspecial
import Derived.RegionTactic
import Derived.Deep.QuietTactic
import Derived.BigQuiet
namespace Go.Proofs.Ymbrbz
open Go.RowKit

theorem quote_split (l : List UInt8) (k : Nat) (hk : k < l.length) : quote l = quote (l.take k) ++ (esc l[k] ++ quote (l.drop (k + 1))) := by
  have e : l = l.take k ++ (l[k] :: l.drop (k + 1)) := by simp
  unfold quote
  conv => lhs; rw [e]
  rw [List.flatMap_append, List.flatMap_cons]

/-- What the loop meets at byte k of s: q holds the backslash and the byte, or the byte alone. -/
theorem quote_at (s q : ByteArray) (k j : Nat) (hq : q = strOf (quote s.data.toList)) (hk : k < s.size) (hj : j = (quote (s.data.toList.take k)).length) :
    (isSp s[k] = true ∧ ∃ (h0 : j < q.size) (h1 : j + 1 < q.size), q[j].toNat = 92 ∧ q[j + 1] = s[k] ∧ (quote (s.data.toList.take (k + 1))).length = j + 2) ∨
    (isSp s[k] = false ∧ ∃ h0 : j < q.size, q[j] = s[k] ∧ (quote (s.data.toList.take (k + 1))).length = j + 1) := by
  have hkl : k < s.data.toList.length := by simpa using hk
  have e := quote_split s.data.toList k hkl
  have e2 := quote_take_succ s.data.toList k hkl
  have hc : s[k] = s.data.toList[k] := ba_getElem s k hk
  rw [← hc] at e e2
  have hsz : q.size = (quote s.data.toList).length := by rw [hq, strOf_size]
  cases hsp : isSp s[k] with
  | true =>
    have he : esc s[k] = [92, s[k]] := by simp [esc, hsp]
    rw [he] at e e2
    left
    have hl : (quote s.data.toList).length = j + 2 + (quote (s.data.toList.drop (k + 1))).length := by rw [e, hj]; simp; omega
    refine ⟨rfl, by omega, by omega, ?_, ?_, by rw [e2, hj]; simp⟩
    · subst hq
      rw [strOf_getElem]
      simp only [e]
      rw [List.getElem_append_right (by omega)]
      simp [hj]
    · subst hq
      rw [strOf_getElem]
      simp only [e]
      rw [List.getElem_append_right (by omega)]
      simp [hj]
  | false =>
    have he : esc s[k] = [s[k]] := by simp [esc, hsp]
    rw [he] at e e2
    right
    have hl : (quote s.data.toList).length = j + 1 + (quote (s.data.toList.drop (k + 1))).length := by rw [e, hj]; simp; omega
    refine ⟨rfl, by omega, ?_, by rw [e2, hj]; simp⟩
    subst hq
    rw [strOf_getElem]
    simp only [e]
    rw [List.getElem_append_right (by omega)]
    simp [hj]

set_option maxHeartbeats 1000000 in
theorem eexact (w : World) (s : ByteArray) (hs : s.size ≤ 9223372036854775807) :
    Calls Ybzm.prog 14 #[.string s] w fun e w' => e = .returned (.bool true) ∧ Below w.heap.size w w' := by
  by_cases hbig : 4096 < s.size
  · go_enter Ybzm.func14, Ybzm.ntmps14
    go_wp2_with fail
    go_ret
    exact ⟨rfl, Below.refl _ _⟩
  · obtain ⟨q, hq⟩ : ∃ q, q = strOf (quote s.data.toList) := ⟨_, rfl⟩
    have HQ : Hid (q = strOf (quote s.data.toList)) := hq
    have hql : q.size ≤ 8192 := by
      rw [hq, strOf_size]
      have := quote_length s.data.toList
      simp at this
      omega
    clear hq
    go_enter Ybzm.func14, Ybzm.ntmps14
    go_wp2_with fail
    refine (quote_any s _ (by omega)).mono ?_
    rintro e w1 ⟨rfl, hb1⟩
    rw [← HQ.out]
    go_wp2_with fail
    go_loopw [4, 5] (fun j i wr => ∃ k n : Nat, k ≤ s.size ∧ i = .int .i64 k ∧ j = .int .i64 n ∧ n = (quote (s.data.toList.take k)).length ∧ Below w.heap.size w wr) (fun _ i _ => s.size - (intOf i).toNat)
    case atStart => exact ⟨0, 0, Nat.zero_le _, rfl, rfl, rfl, hb1⟩
    case round =>
      obtain ⟨k, n, hk, rfl, rfl, hn, hb⟩ := hrel
      have HN : Hid (_) := hn
      clear hn
      by_cases hks : k < s.size
      · rcases quote_at s q k n HQ.out hks HN.out with ⟨hsp, h0, h1, q0, q1, hl⟩ | ⟨hsp, h0, q0, hl⟩
        · have HL : Hid (_) := hl
          have HSp : Hid (_) := hsp
          have HQ1 : Hid (_) := q1
          clear hl hsp q1
          have g1 : ((q[n + 1].toNat : Int) != (s[k].toNat : Int)) = false := by rw [HQ1.out]; simp
          have g2 : decide ((q.size : Int) ≤ (n : Int) + 1) = false := decide_eq_false (by omega)
          have i0 : (0 : Int) ≤ (n : Int) + 1 := by omega
          have i1 : (n : Int) + 1 < (q.size : Int) := by omega
          have g3 : decide (q.size ≤ n) = false := decide_eq_false (by omega)
          go_wp2_with fail
          refine (especial_any s[k] _).mono ?_
          rintro e w2 ⟨rfl, rfl⟩
          rw [HSp.out]
          go_wp2_with fail
          go_region
          all_goals
            go_wp2_with fail
            go_roundw
            case rel => exact ⟨k + 1, n + 2, by omega, by go_num, by go_num, HL.out.symm, hb.drew⟩
            case measure => simp [intOf]; omega
        · have HL : Hid (_) := hl
          have HSp : Hid (_) := hsp
          have HQ0 : Hid (_) := q0
          clear hl hsp q0
          have g1 : ((q[n].toNat : Int) != (s[k].toNat : Int)) = false := by rw [HQ0.out]; simp
          have g3 : decide (q.size ≤ n) = false := decide_eq_false (by omega)
          go_wp2_with fail
          refine (especial_any s[k] _).mono ?_
          rintro e w2 ⟨rfl, rfl⟩
          rw [HSp.out]
          go_wp2_with fail
          go_region
          all_goals
            go_wp2_with fail
            go_roundw
            case rel => exact ⟨k + 1, n + 1, by omega, by go_num, by go_num, HL.out.symm, hb.drew⟩
            case measure => simp [intOf]; omega
      · have hkk : s.data.toList.take k = s.data.toList := List.take_of_length_le (by simp; omega)
        have hnq : n = q.size := by rw [HN.out, hkk, HQ.out, strOf_size]
        subst hnq
        clear hkk
        go_wp2_with fail
        go_ret
        exact ⟨ret_bool (by simp), hb⟩
end Go.Proofs.Ymbrbz

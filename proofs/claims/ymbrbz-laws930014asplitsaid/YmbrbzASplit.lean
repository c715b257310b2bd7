import Derived.Test.YmbrbzMatchOne
import Derived.WideShapes
namespace Go.Proofs.Ymbrbz
open Go.RowKit Go.WideShapes

theorem ranges_take {w : World} {a : Option Addr} {rs : List (UInt8 × UInt8)} (h : RangesAt w a rs) (k : Nat) : RangesAt w a (rs.take k) := by
  intro j hj
  simp at hj
  obtain ⟨b, off, e, h0, h1⟩ := h j (by omega)
  have e1 : (rs.take k).getD j (0, 0) = rs.getD j (0, 0) := by simp only [List.getD_eq_getElem?_getD]; rw [List.getElem?_take_of_lt (by omega)]
  exact ⟨b, off, e, by rw [e1]; exact h0, by rw [e1]; exact h1⟩

theorem ranges_drop {w : World} {a : Option Addr} {rs : List (UInt8 × UInt8)} (h : RangesAt w a rs) (k : Nat) : RangesAt w (Option.map (fun x => x.add (k * 2)) a) (rs.drop k) := by
  intro j hj
  simp at hj
  obtain ⟨b, off, e, h0, h1⟩ := h (k + j) (by omega)
  have e1 : (rs.drop k).getD j (0, 0) = rs.getD (k + j) (0, 0) := by simp [List.getD_eq_getElem?_getD, List.getElem?_drop]
  refine ⟨b, off + k * 2, by rw [e]; simp [add_plain], ?_, ?_⟩
  · rw [e1, ← h0, show off + k * 2 + j * 2 = off + (k + j) * 2 by omega]
  · rw [e1, ← h1, show off + k * 2 + j * 2 = off + (k + j) * 2 by omega]

theorem ranges_none (w : World) (a : Option Addr) : RangesAt w a [] := fun _ hk => absurd hk (Nat.not_lt_zero _)

theorem inR_split (rs : List (UInt8 × UInt8)) (c : UInt8) (k : Nat) : inR rs c = (inR (rs.take k) c || inR (rs.drop k) c) := by
  unfold inR
  rw [← List.any_append, List.take_append_drop]

/-- The law's body: the three slices as values, read as rs, its first k and the rest. -/
theorem asplit_vals (pA pB : Bool) (rs : List (UInt8 × UInt8)) (c : UInt8) (k : Nat) (hA : inR (rs.take k) c = pA) (hB : inR (rs.drop k) c = pB) :
    mOne 3 0 false rs c = (pA || pB) ∧ mOne 3 0 false (rs.take k) c = pA ∧ mOne 3 0 false (rs.drop k) c = pB ∧
    mOne 3 0 true rs c = !(pA || pB) ∧ mOne 3 0 true (rs.take k) c = !pA ∧ mOne 3 0 true (rs.drop k) c = !pB := by
  have := inR_split rs c k
  rw [hA, hB] at this
  simp [mOne, this, hA, hB]

set_option maxHeartbeats 1000000 in
theorem asplit (w : World) (a : Option Addr) (n cap : Nat) (rs : List (UInt8 × UInt8)) (hl : rs.length = n) (hm : n ≤ cap ∧ cap ≤ 9223372036854775807) (hr : RangesAt w a rs) (z : Int) (hz : 0 ≤ z ∧ z ≤ 18446744073709551615) (c : UInt8) :
    Calls Ybzm.prog 5 #[.slice a n cap, .int .u64 z, .int .u8 c.toNat] w fun e w' => e = .returned (.bool true) ∧ Below w.heap.size w w' := by
  obtain ⟨hz0, hz1⟩ := hz
  obtain ⟨hm0, hm1⟩ := hm
  obtain ⟨k, hk⟩ : ∃ k : Nat, z % ((n : Int) + 1) = k := ⟨(z % ((n : Int) + 1)).toNat, by have := Int.emod_nonneg z (show (n : Int) + 1 ≠ 0 by omega); omega⟩
  have hkn : k ≤ n := by have := Int.emod_lt_of_pos z (show 0 < (n : Int) + 1 by omega); omega
  obtain ⟨pA, hA⟩ : ∃ x, inR (rs.take k) c = x := ⟨_, rfl⟩
  obtain ⟨pB, hB⟩ : ∃ x, inR (rs.drop k) c = x := ⟨_, rfl⟩
  obtain ⟨v1, v2, v3, v4, v5, v6⟩ := asplit_vals pA pB rs c k hA hB
  have V1 : Hid (_) := v1
  have V2 : Hid (_) := v2
  have V3 : Hid (_) := v3
  have V4 : Hid (_) := v4
  have V5 : Hid (_) := v5
  have V6 : Hid (_) := v6
  have hA1 : Hid (RangesAt w a (rs.take k)) := ranges_take hr k
  have hB1 : Hid (RangesAt w (Option.map (fun x => x.add (k * 2)) a) (rs.drop k)) := ranges_drop hr k
  have lA : Hid ((rs.take k).length = k) := by simp [Hid]; omega
  have lB : Hid ((rs.drop k).length = n - k) := by simp [Hid, hl]
  have HL : Hid (rs.length = n) := hl
  clear v1 v2 v3 v4 v5 v6 hA hB hl
  by_cases hck : cap = k
  · have hD : Hid (rs.drop k = []) := List.drop_of_length_le (by rw [HL.out]; omega)
    have V3' : Hid (mOne 3 0 false [] c = pB) := by have := V3.out; rw [hD.out] at this; exact this
    have V6' : Hid (mOne 3 0 true [] c = !pB) := by have := V6.out; rw [hD.out] at this; exact this
    subst hck
    have hcn : n = cap := by omega
    subst hcn
    clear hkn
    cases pA <;> cases pB
    all_goals
      go_enter Ybzm.func5, Ybzm.ntmps5
      go_wp2_with fail
      refine (matchOne_any 3 0 _ _ _ _ rs (by omega) HL.out c _ hr).mono ?_
      rintro e w1 ⟨rfl, hb1⟩
      rw [V1.out]
      go_wp2_with fail
      refine (matchOne_any 3 0 _ _ _ _ _ (by omega) lA.out c _ (hA1.out.below hb1)).mono ?_
      rintro e w2 ⟨rfl, hb2⟩
      rw [V2.out]
      go_wp2_with fail
      refine (matchOne_any 3 0 _ _ _ _ [] (by simp) rfl c _ (ranges_none _ _)).mono ?_
      rintro e w3 ⟨rfl, hb3⟩
      rw [V3'.out]
      go_wp2_with fail
      refine (matchOne_any 3 0 _ _ _ _ rs (by omega) HL.out c _ (((hr.below hb1).below hb2).below hb3)).mono ?_
      rintro e w4 ⟨rfl, hb4⟩
      rw [V4.out]
      go_wp2_with fail
      refine (matchOne_any 3 0 _ _ _ _ _ (by omega) lA.out c _ ((((hA1.out.below hb1).below hb2).below hb3).below hb4)).mono ?_
      rintro e w5 ⟨rfl, hb5⟩
      rw [V5.out]
      go_wp2_with fail
      refine (matchOne_any 3 0 _ _ _ _ [] (by simp) rfl c _ (ranges_none _ _)).mono ?_
      rintro e w6 ⟨rfl, hb6⟩
      rw [V6'.out]
      go_wp2_with fail
      go_ret
      have t2 := hb1.trans (hb2.mono hb1.size)
      have t3 := t2.trans (hb3.mono t2.size)
      have t4 := t3.trans (hb4.mono t3.size)
      have t5 := t4.trans (hb5.mono t4.size)
      have t6 := t5.trans (hb6.mono t5.size)
      exact ⟨rfl, t6⟩
  · have hck' : cap - k ≠ 0 := by omega
    cases pA <;> cases pB
    all_goals
      go_enter Ybzm.func5, Ybzm.ntmps5
      go_wp2_with fail
      refine (matchOne_any 3 0 _ _ _ _ rs (by omega) HL.out c _ hr).mono ?_
      rintro e w1 ⟨rfl, hb1⟩
      rw [V1.out]
      go_wp2_with fail
      refine (matchOne_any 3 0 _ _ _ _ (rs.take k) (by omega) lA.out c _ (hA1.out.below hb1)).mono ?_
      rintro e w2 ⟨rfl, hb2⟩
      rw [V2.out]
      go_wp2_with fail
      refine (matchOne_any 3 0 _ _ _ _ (rs.drop k) (by omega) lB.out c _ ((hB1.out.below hb1).below hb2)).mono ?_
      rintro e w3 ⟨rfl, hb3⟩
      rw [V3.out]
      go_wp2_with fail
      refine (matchOne_any 3 0 _ _ _ _ rs (by omega) HL.out c _ (((hr.below hb1).below hb2).below hb3)).mono ?_
      rintro e w4 ⟨rfl, hb4⟩
      rw [V4.out]
      go_wp2_with fail
      refine (matchOne_any 3 0 _ _ _ _ (rs.take k) (by omega) lA.out c _ ((((hA1.out.below hb1).below hb2).below hb3).below hb4)).mono ?_
      rintro e w5 ⟨rfl, hb5⟩
      rw [V5.out]
      go_wp2_with fail
      refine (matchOne_any 3 0 _ _ _ _ (rs.drop k) (by omega) lB.out c _ (((((hB1.out.below hb1).below hb2).below hb3).below hb4).below hb5)).mono ?_
      rintro e w6 ⟨rfl, hb6⟩
      rw [V6.out]
      go_wp2_with fail
      go_ret
      have t2 := hb1.trans (hb2.mono hb1.size)
      have t3 := t2.trans (hb3.mono t2.size)
      have t4 := t3.trans (hb4.mono t3.size)
      have t5 := t4.trans (hb5.mono t4.size)
      have t6 := t5.trans (hb6.mono t5.size)
      exact ⟨rfl, t6⟩
end Go.Proofs.Ymbrbz

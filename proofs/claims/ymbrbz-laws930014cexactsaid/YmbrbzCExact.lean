import Derived.Test.YmbrbzCModel
import Derived.Test.YmbrbzCLaw
import Derived.Test.YmbrbzValid
import Derived.Test.YmbrbzCmap
namespace Go.Proofs.Ymbrbz
open Go.RowKit

set_option maxHeartbeats 2000000 in
theorem cmodel_any (s : ByteArray) (hs : s.size ≤ 1000000) (w : World) :
    Calls Ybzm.prog 25 #[.string s] w fun e w' => e = .returned (.bool (mmodel (s.data.toList.length + 1) s.data.toList)) ∧ w' = w := by
  obtain ⟨R, hR⟩ : ∃ R, R = mmodel (s.data.toList.length + 1) s.data.toList := ⟨_, rfl⟩
  rw [← hR]
  have HR := hid hR
  clear hR
  go_enter Ybzm.func25, Ybzm.ntmps25
  go_wp2_with fail
  go_loop [3] (fun a => ∃ k f : Nat, k ≤ s.size ∧ a = .int .i64 k ∧ s.size - k < f ∧ mmodel f (s.data.toList.drop k) = R) (fun a => s.size - (intOf a).toNat)
  case atStart => exact ⟨0, s.data.toList.length + 1, Nat.zero_le _, rfl, by have := drop_len s 0; rw [List.drop_zero] at this; omega, by rw [List.drop_zero]; exact HR.out.symm⟩
  case round =>
    obtain ⟨k, f, hk, rfl, hf, hr⟩ := hrel
    have HF := hid hf
    have HRR := hid hr
    clear hf hr HR
    obtain ⟨f, rfl⟩ : ∃ g, f = g + 1 := ⟨f - 1, by have := HF.out; omega⟩
    by_cases hks : k < s.size
    · have hrd := HRR.out
      rw [drop_at s k hks] at hrd
      unfold mmodel at hrd
      by_cases c91 : s[k].toNat = 91
      · rw [if_pos c91] at hrd
        cases hm : mclass (s.data.toList.drop (k + 1)) with
        | none =>
          rw [hm] at hrd
          have HX : Hid (R = false) := hid hrd.symm
          have HM := hid hm
          clear hrd HRR HF hm
          go_wp2_with fail
          refine (cclass_any s _ (k + 1) (by omega) hs (by omega) _).mono ?_
          rintro e w1 ⟨rfl, rfl⟩
          rw [HM.out, show clret s.size none = -1 from rfl]
          go_wp2_with fail
          go_ret
          exact ⟨ret_boolV HX.out.symm, rfl⟩
        | some r =>
          rw [hm] at hrd
          obtain ⟨a1, n, e1⟩ := mclass_drop hm
          rw [List.drop_drop] at e1
          obtain ⟨j, hj⟩ : ∃ j, j = s.size - r.length := ⟨_, rfl⟩
          rw [drop_len] at a1
          have hrj : r = s.data.toList.drop j := by
            by_cases hn : k + 1 + n ≤ s.size
            · have : j = k + 1 + n := by rw [hj, e1, drop_len]; omega
              rw [this]; exact e1
            · have h0 : r = [] := by rw [e1]; exact drop_end s _ (by omega)
              rw [h0] at hj ⊢
              rw [drop_end s j (by simp at hj; omega)]
          have HX : Hid (mmodel f (s.data.toList.drop j) = R) := hid (by rw [← hrj]; exact hrd)
          have hfj : s.size - j < f := by have := HF.out; omega
          have HFJ := hid hfj
          have hkj : k < j := by omega
          have hjs : j ≤ s.size := by omega
          have HM : Hid (clret s.size (mclass (s.data.toList.drop (k + 1))) = (j : Int)) := hid (by rw [hm, hj]; rfl)
          clear hrd HRR HF hm a1 e1 hj hrj hfj
          go_wp2_with fail
          refine (cclass_any s _ (k + 1) (by omega) hs (by omega) _).mono ?_
          rintro e w1 ⟨rfl, rfl⟩
          rw [HM.out]
          go_wp2_with fail
          go_round
          case rel => exact ⟨j, f, hjs, rfl, HFJ.out, HX.out⟩
          case measure => simp [intOf]; omega
      · rw [if_neg c91, ← drop_at s k hks] at hrd
        have f91 : ((s[k].toNat : Int) == 91) = false := beq_eq_false_iff_ne.2 (by omega)
        rcases rcv_mchar s k hk with ⟨hmc, hrc⟩ | ⟨lo, j, hkj, hj, hmc, hrc⟩
        · rw [hmc] at hrd
          have HX : Hid (R = false) := hid hrd.symm
          have HRC := hid hrc
          clear hrd HRR HF hmc hrc
          go_wp2_with fail
          refine (cchar_any s k hs (by omega) _).mono ?_
          rintro e w1 ⟨rfl, rfl⟩
          rw [HRC.out]
          go_wp2_with fail
          go_ret
          exact ⟨ret_boolV HX.out.symm, rfl⟩
        · rw [hmc] at hrd
          have HX := hid hrd
          have HRC := hid hrc
          have hfj : s.size - j < f := by have := HF.out; omega
          have HFJ := hid hfj
          clear hrd HRR HF hmc hrc hfj
          go_wp2_with fail
          refine (cchar_any s k hs (by omega) _).mono ?_
          rintro e w1 ⟨rfl, rfl⟩
          rw [HRC.out]
          go_wp2_with fail
          go_round
          case rel => exact ⟨j, f, hj, rfl, HFJ.out, HX.out⟩
          case measure => simp [intOf]; omega
    · have hrd := HRR.out
      rw [drop_end s k (by omega)] at hrd
      have HX : Hid (R = true) := hid hrd.symm
      clear hrd HRR HF
      go_wp2_with fail
      go_ret
      exact ⟨ret_boolV HX.out.symm, rfl⟩

set_option maxHeartbeats 2000000 in
theorem cexact (w : World) (s : ByteArray) (hs : s.size ≤ 9223372036854775807) (a : Option Addr) (n cap : Nat) (ps : List UInt8) (hl : ps.length = n) (hm : n ≤ cap ∧ cap ≤ 9223372036854775807) (hr : BytesAt w a ps) :
    Calls Ybzm.prog 9 #[.string s, .slice a n cap] w fun e w' => e = .returned (.bool true) ∧ Below w.heap.size w w' := by
  have hn : n ≤ 9223372036854775807 := Nat.le_trans hm.1 hm.2
  clear hm
  by_cases hb1 : 1024 < s.size
  · go_enter Ybzm.func9, Ybzm.ntmps9
    go_wp2_with fail
    go_ret
    exact ⟨rfl, Below.refl _ _⟩
  have q1 : decide ((1024 : Int) < (s.size : Int)) = false := decide_eq_false (by omega)
  by_cases hb2 : 1024 < n
  · go_enter Ybzm.func9, Ybzm.ntmps9
    go_wp2_with fail
    go_ret
    exact ⟨rfl, Below.refl _ _⟩
  have q2 : decide ((1024 : Int) < (n : Int)) = false := decide_eq_false (by omega)
  have HR := hid hr
  have HL := hid hl
  have HV := hid (valid_model s.data.toList)
  clear hr hl
  go_enter Ybzm.func9, Ybzm.ntmps9
  go_wp2_with fail
  refine (valid_any s _ (by omega)).mono ?_
  rintro e w1 ⟨rfl, rfl⟩
  rw [HV.out]
  go_wp2_with fail
  refine (cmodel_any s (by omega) _).mono ?_
  rintro e w2 ⟨rfl, rfl⟩
  go_wp2_with fail
  refine (cmap_any a n cap ps (by omega) HL.out _ HR.out).mono ?_
  rintro e w3 ⟨⟨l, hll, rfl⟩, hb⟩
  have HV2 := hid (valid_model (strOf l).data.toList)
  have hsz : (strOf l).size ≤ 1024 := by rw [strOf_size]; omega
  generalize strOf l = m at HV2 hsz ⊢
  clear hll
  go_wp2_with fail
  refine (valid_any m _ (by omega)).mono ?_
  rintro e w4 ⟨rfl, rfl⟩
  rw [HV2.out]
  go_wp2_with fail
  refine (cmodel_any m (by omega) _).mono ?_
  rintro e w5 ⟨rfl, rfl⟩
  go_wp2_with fail
  go_ret
  exact ⟨ret_boolV (by simp), hb⟩
end Go.Proofs.Ymbrbz

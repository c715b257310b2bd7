import Derived.Test.YmbrbzReadChar
import Derived.Test.YmbrbzDescent
import Derived.Test.YmbrbzAid
import Derived.Deep.LoopGhost
namespace Go.Proofs.Ymbrbz
open Go.RowKit

theorem drop_at (s : ByteArray) (i : Nat) (h : i < s.size) : s.data.toList.drop i = s[i] :: s.data.toList.drop (i + 1) := by
  have hl : i < s.data.toList.length := by simpa using h
  rw [List.drop_eq_getElem_cons hl]
  congr 1
theorem drop_end (s : ByteArray) (i : Nat) (h : s.size ≤ i) : s.data.toList.drop i = [] := List.drop_of_length_le (by simpa using h)
theorem drop_len (s : ByteArray) (i : Nat) : (s.data.toList.drop i).length = s.size - i := by simp

/-- What reading one byte at i comes to, told by what is left. -/
theorem rcv_mchar (s : ByteArray) (i : Nat) (hi : i ≤ s.size) :
    (mchar (s.data.toList.drop i) = none ∧ rcv s i false = (0, i, false)) ∨
    ∃ c j, i < j ∧ j ≤ s.size ∧ mchar (s.data.toList.drop i) = some (c, s.data.toList.drop j) ∧ rcv s i false = (c, j, true) := by
  by_cases h : i < s.size
  · rw [drop_at s i h]
    rcases rcv_cases s i false with ⟨q, e⟩ | ⟨_, h1, h2, e⟩ | ⟨_, h1, h2, e⟩ | ⟨_, h1, q, e⟩ | ⟨_, h1, q, e⟩ | ⟨_, h1, _, e⟩ | ⟨_, h1, _, _, q, e⟩
    · omega
    · left
      rw [drop_end s (i + 1) h2]
      exact ⟨by simp [mchar, h1], e⟩
    · right
      rw [drop_at s (i + 1) h2]
      exact ⟨s[i + 1], i + 2, by omega, by omega, by simp [mchar, h1], e⟩
    · cases q
    · cases q
    · right
      exact ⟨s[i], i + 1, by omega, by omega, by simp [mchar, h1], e⟩
    · cases q
  · left
    rw [drop_end s i (by omega)]
    refine ⟨rfl, ?_⟩
    unfold rcv
    rw [dif_neg h]

set_option maxHeartbeats 400000 in
theorem cchar_any (s : ByteArray) (i : Nat) (hs : s.size ≤ 1000000) (hi : i ≤ 1000000) (w : World) :
    Calls Ybzm.prog 39 #[.string s, .int .i64 i] w fun e w' => e = .returned (.tuple #[.int .u8 (rcv s i false).1.toNat, .int .i64 (rcv s i false).2.1, .bool (rcv s i false).2.2]) ∧ w' = w := by
  rcases rcv_cases s i false with ⟨h, e⟩ | ⟨h, h1, h2, e⟩ | ⟨h, h1, h2, e⟩ | ⟨h, h1, q, e⟩ | ⟨h, h1, q, e⟩ | ⟨h, h1, _, e⟩ | ⟨h, h1, h2, h3, q, e⟩
  case inr.inr.inr.inl => cases q
  case inr.inr.inr.inr.inl => cases q
  case inr.inr.inr.inr.inr.inr => cases q
  all_goals
    rw [e]; clear e
    go_enter Ybzm.func39, Ybzm.ntmps39
    go_wp2
    go_ret3
    exact ⟨rfl, rfl⟩

def clret (n : Nat) : Option (List UInt8) → Int
  | none => -1
  | some r => ((n - r.length : Nat) : Int)

theorem ret_i64 {a b : Int} (h : a = b) : Ending.returned (.int .i64 a) = .returned (.int .i64 b) := by rw [h]

set_option maxHeartbeats 4000000 in
set_option maxRecDepth 4000 in
theorem cclass_any (s : ByteArray) (z : Int) (i0 : Nat) (hz : z = i0) (hs : s.size ≤ 1000000) (hi0 : i0 ≤ s.size) (w : World) :
    Calls Ybzm.prog 38 #[.string s, .int .i64 z] w fun e w' => e = .returned (.int .i64 (clret s.size (mclass (s.data.toList.drop i0)))) ∧ w' = w := by
  subst hz
  -- the mark '!' ahead
  have hbang : ∃ i1 : Nat, i1 ≤ s.size ∧ mbang (s.data.toList.drop i0) = s.data.toList.drop i1 ∧ ((∃ h : i0 < s.size, s[i0].toNat = 33 ∧ i1 = i0 + 1) ∨ (∃ h : i0 < s.size, s[i0].toNat ≠ 33 ∧ i1 = i0) ∨ (s.size ≤ i0 ∧ i1 = i0)) := by
    by_cases h : i0 < s.size
    · rw [drop_at s i0 h]
      by_cases h33 : s[i0].toNat = 33
      · exact ⟨i0 + 1, by omega, by simp [mbang, h33], .inl ⟨h, h33, rfl⟩⟩
      · exact ⟨i0, by omega, by simp only [mbang]; rw [if_neg h33, ← drop_at s i0 h], .inr (.inl ⟨h, h33, rfl⟩)⟩
    · rw [drop_end s i0 (by omega)]
      exact ⟨i0, by omega, by rw [drop_end s i0 (by omega)]; rfl, .inr (.inr ⟨by omega, rfl⟩)⟩
  obtain ⟨i1, hi1, hmb, hcase⟩ := hbang
  obtain ⟨R, hR⟩ : ∃ R, R = mclass (s.data.toList.drop i0) := ⟨_, rfl⟩
  rw [← hR]
  have hR' : mcl ((s.data.toList.drop i0).length + 1) false (s.data.toList.drop i1) = R := by rw [hR]; unfold mclass; rw [hmb]
  have hf : s.size - i1 < (s.data.toList.drop i0).length + 1 := by
    have := (mbang_drop (s.data.toList.drop i0)).1
    rw [hmb, drop_len] at this
    omega
  have HR := hid hR'
  have HF := hid hf
  clear hR hR' hf hmb
  -- the loop
  rcases hcase with ⟨h, h33, rfl⟩ | ⟨h, h33, rfl⟩ | ⟨h, rfl⟩
  · go_enter Ybzm.func38, Ybzm.ntmps38
    go_wp2_with fail
    clear h33
    go_loopg [1, 5] (s.size - (i0 + 1)) (fun g a b wr => ∃ k m f : Nat, wr = w ∧ g = s.size - k ∧ k ≤ s.size ∧ m ≤ s.size ∧ a = .int .i64 k ∧ b = .int .i64 m ∧ s.size - k < f ∧ m ≤ k ∧ mcl f (decide (0 < m)) (s.data.toList.drop k) = R)
    case atStart => exact ⟨_, 0, _, rfl, rfl, by omega, by omega, by go_num, rfl, HF.out, by omega, HR.out⟩
    case round =>
      obtain ⟨k, m, f, rfl, rfl, hk, hm, rfl, rfl, hf, hmk, hr⟩ := hrel
      clear HF HR
      have HFF := hid hf
      have HRR := hid hr
      clear hf hr
      by_cases hks : k < s.size
      · obtain ⟨f, rfl⟩ : ∃ g, f = g + 1 := ⟨f - 1, by have := HFF.out; omega⟩
        have hrd := HRR.out
        rw [drop_at s k hks] at hrd
        unfold mcl at hrd
        by_cases c93 : s[k].toNat = 93
        · rw [if_pos c93] at hrd
          by_cases hm0 : m = 0
          · subst hm0
            have HX : Hid (R = none) := hid (by rw [← hrd]; rfl)
            clear hrd HRR HFF
            go_wp2_with fail
            go_ret
            exact ⟨ret_i64 (by rw [HX.out]; rfl), rfl⟩
          · have hmp : 0 < m := by omega
            have HX : Hid (R = some (s.data.toList.drop (k + 1))) := hid (by rw [← hrd]; simp [hmp])
            clear hrd HRR HFF
            go_wp2_with fail
            go_ret
            exact ⟨ret_i64 (by rw [HX.out]; simp only [clret, drop_len]; omega), rfl⟩
        · rw [if_neg c93] at hrd
          have f93 : ((s[k].toNat : Int) == 93) = false := beq_eq_false_iff_ne.2 (by omega)
          by_cases c45 : s[k].toNat = 45
          · rw [if_pos c45] at hrd
            have HX : Hid (R = none) := hid hrd.symm
            clear hrd HRR HFF
            go_wp2_with fail
            go_ret
            exact ⟨ret_i64 (by rw [HX.out]; rfl), rfl⟩
          · rw [if_neg c45, ← drop_at s k hks] at hrd
            have f45 : ((s[k].toNat : Int) == 45) = false := beq_eq_false_iff_ne.2 (by omega)
            rcases rcv_mchar s k hk with ⟨hmc, hrc⟩ | ⟨lo, j, hkj, hj, hmc, hrc⟩
            · rw [hmc] at hrd
              have HX : Hid (R = none) := hid hrd.symm
              have HRC := hid hrc
              clear hrd HRR HFF hmc hrc
              go_wp2_with fail
              refine (cchar_any s k hs (by omega) _).mono ?_
              rintro e w1 ⟨rfl, rfl⟩
              rw [HRC.out]
              go_wp2_with fail
              go_ret
              exact ⟨ret_i64 (by rw [HX.out]; rfl), rfl⟩
            · rw [hmc] at hrd
              simp only [Option.bind_some] at hrd
              have HRC := hid hrc
              have hfj : s.size - j < f := by have := HFF.out; omega
              clear hmc hrc HRR HFF
              by_cases hjs : j < s.size
              · by_cases d45 : s[j].toNat = 45
                · have hd : mrng lo (s.data.toList.drop j) = mhi lo (s.data.toList.drop (j + 1)) := by rw [drop_at s j hjs]; simp [mrng, d45]
                  rw [hd] at hrd
                  clear hd
                  by_cases hj1 : j + 1 < s.size
                  · rw [drop_at s (j + 1) hj1] at hrd
                    by_cases e93 : s[j + 1].toNat = 93
                    · have HX : Hid (R = none) := hid (by rw [← hrd]; simp [mhi, e93])
                      clear hrd
                      go_wp2_with fail
                      refine (cchar_any s k hs (by omega) _).mono ?_
                      rintro e w1 ⟨rfl, rfl⟩
                      rw [HRC.out]
                      go_wp2_with fail
                      go_ret
                      exact ⟨ret_i64 (by rw [HX.out]; rfl), rfl⟩
                    · have f93' : ((s[j + 1].toNat : Int) == 93) = false := beq_eq_false_iff_ne.2 (by omega)
                      by_cases e45 : s[j + 1].toNat = 45
                      · have HX : Hid (R = none) := hid (by rw [← hrd]; simp [mhi, e45])
                        clear hrd
                        go_wp2_with fail
                        refine (cchar_any s k hs (by omega) _).mono ?_
                        rintro e w1 ⟨rfl, rfl⟩
                        rw [HRC.out]
                        go_wp2_with fail
                        go_ret
                        exact ⟨ret_i64 (by rw [HX.out]; rfl), rfl⟩
                      · have f45' : ((s[j + 1].toNat : Int) == 45) = false := beq_eq_false_iff_ne.2 (by omega)
                        have hne : ¬ (s[j + 1].toNat = 93 ∨ s[j + 1].toNat = 45) := by omega
                        simp only [mhi] at hrd
                        rw [if_neg hne, ← drop_at s (j + 1) hj1] at hrd
                        rcases rcv_mchar s (j + 1) (by omega) with ⟨hmc2, hrc2⟩ | ⟨hi, j2, hkj2, hj2, hmc2, hrc2⟩
                        · rw [hmc2] at hrd
                          have HX : Hid (R = none) := hid hrd.symm
                          have HRC2 := hid hrc2
                          clear hrd hmc2 hrc2
                          go_wp2_with fail
                          refine (cchar_any s k hs (by omega) _).mono ?_
                          rintro e w1 ⟨rfl, rfl⟩
                          rw [HRC.out]
                          go_wp2_with fail
                          refine (cchar_any s (j + 1) hs (by omega) _).mono ?_
                          rintro e w2 ⟨rfl, rfl⟩
                          rw [HRC2.out]
                          go_wp2_with fail
                          go_ret
                          exact ⟨ret_i64 (by rw [HX.out]; rfl), rfl⟩
                        · rw [hmc2] at hrd
                          simp only [Option.bind_some] at hrd
                          have HRC2 := hid hrc2
                          clear hmc2 hrc2
                          by_cases hlt : hi.toNat < lo.toNat
                          · rw [if_pos hlt] at hrd
                            have HX : Hid (R = none) := hid hrd.symm
                            clear hrd
                            go_wp2_with fail
                            refine (cchar_any s k hs (by omega) _).mono ?_
                            rintro e w1 ⟨rfl, rfl⟩
                            rw [HRC.out]
                            go_wp2_with fail
                            refine (cchar_any s (j + 1) hs (by omega) _).mono ?_
                            rintro e w2 ⟨rfl, rfl⟩
                            rw [HRC2.out]
                            go_wp2_with fail
                            go_ret
                            exact ⟨ret_i64 (by rw [HX.out]; rfl), rfl⟩
                          · rw [if_neg hlt] at hrd
                            simp only [Option.bind_some] at hrd
                            have HX := hid hrd
                            have hfj2 : s.size - j2 < f := by omega
                            have HFJ := hid hfj2
                            clear hrd hfj hfj2
                            go_wp2_with fail
                            refine (cchar_any s k hs (by omega) _).mono ?_
                            rintro e w1 ⟨rfl, rfl⟩
                            rw [HRC.out]
                            go_wp2_with fail
                            refine (cchar_any s (j + 1) hs (by omega) _).mono ?_
                            rintro e w2 ⟨rfl, rfl⟩
                            rw [HRC2.out]
                            go_wp2_with fail
                            go_roundg (s.size - j2)
                            case rel => exact ⟨j2, m + 1, f, rfl, rfl, hj2, by omega, rfl, by go_num, HFJ.out, by omega, by simpa using HX.out⟩
                            case measure => omega
                  · rw [drop_end s (j + 1) (by omega)] at hrd
                    have HX : Hid (R = none) := hid hrd.symm
                    clear hrd
                    go_wp2_with fail
                    refine (cchar_any s k hs (by omega) _).mono ?_
                    rintro e w1 ⟨rfl, rfl⟩
                    rw [HRC.out]
                    go_wp2_with fail
                    go_ret
                    exact ⟨ret_i64 (by rw [HX.out]; rfl), rfl⟩
                · have hd : mrng lo (s.data.toList.drop j) = some (s.data.toList.drop j) := by rw [drop_at s j hjs]; simp [mrng, d45]
                  rw [hd] at hrd
                  simp only [Option.bind_some] at hrd
                  have g45 : ((s[j].toNat : Int) == 45) = false := beq_eq_false_iff_ne.2 (by omega)
                  have HX := hid hrd
                  have HFJ := hid hfj
                  clear hrd hfj hd
                  go_wp2_with fail
                  refine (cchar_any s k hs (by omega) _).mono ?_
                  rintro e w1 ⟨rfl, rfl⟩
                  rw [HRC.out]
                  go_wp2_with fail
                  go_roundg (s.size - j)
                  case rel => exact ⟨j, m + 1, f, rfl, rfl, hj, by omega, rfl, by go_num, HFJ.out, by omega, by simpa using HX.out⟩
                  case measure => omega
              · have hd : mrng lo (s.data.toList.drop j) = some (s.data.toList.drop j) := by rw [drop_end s j (by omega)]; rfl
                rw [hd] at hrd
                simp only [Option.bind_some] at hrd
                have HX := hid hrd
                have HFJ := hid hfj
                clear hrd hfj hd
                go_wp2_with fail
                refine (cchar_any s k hs (by omega) _).mono ?_
                rintro e w1 ⟨rfl, rfl⟩
                rw [HRC.out]
                go_wp2_with fail
                go_roundg (s.size - j)
                case rel => exact ⟨j, m + 1, f, rfl, rfl, hj, by omega, rfl, by go_num, HFJ.out, by omega, by simpa using HX.out⟩
                case measure => omega
      · have hrd := HRR.out
        rw [drop_end s k (by omega)] at hrd
        have HX : Hid (R = none) := hid (by cases f <;> exact hrd.symm)
        clear hrd HRR HFF
        go_wp2_with fail
        go_ret
        exact ⟨ret_i64 (by rw [HX.out]; rfl), rfl⟩
  · have f33 : ((s[i1].toNat : Int) == 33) = false := beq_eq_false_iff_ne.2 (by omega)
    go_enter Ybzm.func38, Ybzm.ntmps38
    go_wp2_with fail
    clear h33
    go_loopg [1, 5] (s.size - i1) (fun g a b wr => ∃ k m f : Nat, wr = w ∧ g = s.size - k ∧ k ≤ s.size ∧ m ≤ s.size ∧ a = .int .i64 k ∧ b = .int .i64 m ∧ s.size - k < f ∧ m ≤ k ∧ mcl f (decide (0 < m)) (s.data.toList.drop k) = R)
    case atStart => exact ⟨_, 0, _, rfl, rfl, by omega, by omega, by go_num, rfl, HF.out, by omega, HR.out⟩
    case round =>
      obtain ⟨k, m, f, rfl, rfl, hk, hm, rfl, rfl, hf, hmk, hr⟩ := hrel
      clear HF HR
      have HFF := hid hf
      have HRR := hid hr
      clear hf hr
      by_cases hks : k < s.size
      · obtain ⟨f, rfl⟩ : ∃ g, f = g + 1 := ⟨f - 1, by have := HFF.out; omega⟩
        have hrd := HRR.out
        rw [drop_at s k hks] at hrd
        unfold mcl at hrd
        by_cases c93 : s[k].toNat = 93
        · rw [if_pos c93] at hrd
          by_cases hm0 : m = 0
          · subst hm0
            have HX : Hid (R = none) := hid (by rw [← hrd]; rfl)
            clear hrd HRR HFF
            go_wp2_with fail
            go_ret
            exact ⟨ret_i64 (by rw [HX.out]; rfl), rfl⟩
          · have hmp : 0 < m := by omega
            have HX : Hid (R = some (s.data.toList.drop (k + 1))) := hid (by rw [← hrd]; simp [hmp])
            clear hrd HRR HFF
            go_wp2_with fail
            go_ret
            exact ⟨ret_i64 (by rw [HX.out]; simp only [clret, drop_len]; omega), rfl⟩
        · rw [if_neg c93] at hrd
          have f93 : ((s[k].toNat : Int) == 93) = false := beq_eq_false_iff_ne.2 (by omega)
          by_cases c45 : s[k].toNat = 45
          · rw [if_pos c45] at hrd
            have HX : Hid (R = none) := hid hrd.symm
            clear hrd HRR HFF
            go_wp2_with fail
            go_ret
            exact ⟨ret_i64 (by rw [HX.out]; rfl), rfl⟩
          · rw [if_neg c45, ← drop_at s k hks] at hrd
            have f45 : ((s[k].toNat : Int) == 45) = false := beq_eq_false_iff_ne.2 (by omega)
            rcases rcv_mchar s k hk with ⟨hmc, hrc⟩ | ⟨lo, j, hkj, hj, hmc, hrc⟩
            · rw [hmc] at hrd
              have HX : Hid (R = none) := hid hrd.symm
              have HRC := hid hrc
              clear hrd HRR HFF hmc hrc
              go_wp2_with fail
              refine (cchar_any s k hs (by omega) _).mono ?_
              rintro e w1 ⟨rfl, rfl⟩
              rw [HRC.out]
              go_wp2_with fail
              go_ret
              exact ⟨ret_i64 (by rw [HX.out]; rfl), rfl⟩
            · rw [hmc] at hrd
              simp only [Option.bind_some] at hrd
              have HRC := hid hrc
              have hfj : s.size - j < f := by have := HFF.out; omega
              clear hmc hrc HRR HFF
              by_cases hjs : j < s.size
              · by_cases d45 : s[j].toNat = 45
                · have hd : mrng lo (s.data.toList.drop j) = mhi lo (s.data.toList.drop (j + 1)) := by rw [drop_at s j hjs]; simp [mrng, d45]
                  rw [hd] at hrd
                  clear hd
                  by_cases hj1 : j + 1 < s.size
                  · rw [drop_at s (j + 1) hj1] at hrd
                    by_cases e93 : s[j + 1].toNat = 93
                    · have HX : Hid (R = none) := hid (by rw [← hrd]; simp [mhi, e93])
                      clear hrd
                      go_wp2_with fail
                      refine (cchar_any s k hs (by omega) _).mono ?_
                      rintro e w1 ⟨rfl, rfl⟩
                      rw [HRC.out]
                      go_wp2_with fail
                      go_ret
                      exact ⟨ret_i64 (by rw [HX.out]; rfl), rfl⟩
                    · have f93' : ((s[j + 1].toNat : Int) == 93) = false := beq_eq_false_iff_ne.2 (by omega)
                      by_cases e45 : s[j + 1].toNat = 45
                      · have HX : Hid (R = none) := hid (by rw [← hrd]; simp [mhi, e45])
                        clear hrd
                        go_wp2_with fail
                        refine (cchar_any s k hs (by omega) _).mono ?_
                        rintro e w1 ⟨rfl, rfl⟩
                        rw [HRC.out]
                        go_wp2_with fail
                        go_ret
                        exact ⟨ret_i64 (by rw [HX.out]; rfl), rfl⟩
                      · have f45' : ((s[j + 1].toNat : Int) == 45) = false := beq_eq_false_iff_ne.2 (by omega)
                        have hne : ¬ (s[j + 1].toNat = 93 ∨ s[j + 1].toNat = 45) := by omega
                        simp only [mhi] at hrd
                        rw [if_neg hne, ← drop_at s (j + 1) hj1] at hrd
                        rcases rcv_mchar s (j + 1) (by omega) with ⟨hmc2, hrc2⟩ | ⟨hi, j2, hkj2, hj2, hmc2, hrc2⟩
                        · rw [hmc2] at hrd
                          have HX : Hid (R = none) := hid hrd.symm
                          have HRC2 := hid hrc2
                          clear hrd hmc2 hrc2
                          go_wp2_with fail
                          refine (cchar_any s k hs (by omega) _).mono ?_
                          rintro e w1 ⟨rfl, rfl⟩
                          rw [HRC.out]
                          go_wp2_with fail
                          refine (cchar_any s (j + 1) hs (by omega) _).mono ?_
                          rintro e w2 ⟨rfl, rfl⟩
                          rw [HRC2.out]
                          go_wp2_with fail
                          go_ret
                          exact ⟨ret_i64 (by rw [HX.out]; rfl), rfl⟩
                        · rw [hmc2] at hrd
                          simp only [Option.bind_some] at hrd
                          have HRC2 := hid hrc2
                          clear hmc2 hrc2
                          by_cases hlt : hi.toNat < lo.toNat
                          · rw [if_pos hlt] at hrd
                            have HX : Hid (R = none) := hid hrd.symm
                            clear hrd
                            go_wp2_with fail
                            refine (cchar_any s k hs (by omega) _).mono ?_
                            rintro e w1 ⟨rfl, rfl⟩
                            rw [HRC.out]
                            go_wp2_with fail
                            refine (cchar_any s (j + 1) hs (by omega) _).mono ?_
                            rintro e w2 ⟨rfl, rfl⟩
                            rw [HRC2.out]
                            go_wp2_with fail
                            go_ret
                            exact ⟨ret_i64 (by rw [HX.out]; rfl), rfl⟩
                          · rw [if_neg hlt] at hrd
                            simp only [Option.bind_some] at hrd
                            have HX := hid hrd
                            have hfj2 : s.size - j2 < f := by omega
                            have HFJ := hid hfj2
                            clear hrd hfj hfj2
                            go_wp2_with fail
                            refine (cchar_any s k hs (by omega) _).mono ?_
                            rintro e w1 ⟨rfl, rfl⟩
                            rw [HRC.out]
                            go_wp2_with fail
                            refine (cchar_any s (j + 1) hs (by omega) _).mono ?_
                            rintro e w2 ⟨rfl, rfl⟩
                            rw [HRC2.out]
                            go_wp2_with fail
                            go_roundg (s.size - j2)
                            case rel => exact ⟨j2, m + 1, f, rfl, rfl, hj2, by omega, rfl, by go_num, HFJ.out, by omega, by simpa using HX.out⟩
                            case measure => omega
                  · rw [drop_end s (j + 1) (by omega)] at hrd
                    have HX : Hid (R = none) := hid hrd.symm
                    clear hrd
                    go_wp2_with fail
                    refine (cchar_any s k hs (by omega) _).mono ?_
                    rintro e w1 ⟨rfl, rfl⟩
                    rw [HRC.out]
                    go_wp2_with fail
                    go_ret
                    exact ⟨ret_i64 (by rw [HX.out]; rfl), rfl⟩
                · have hd : mrng lo (s.data.toList.drop j) = some (s.data.toList.drop j) := by rw [drop_at s j hjs]; simp [mrng, d45]
                  rw [hd] at hrd
                  simp only [Option.bind_some] at hrd
                  have g45 : ((s[j].toNat : Int) == 45) = false := beq_eq_false_iff_ne.2 (by omega)
                  have HX := hid hrd
                  have HFJ := hid hfj
                  clear hrd hfj hd
                  go_wp2_with fail
                  refine (cchar_any s k hs (by omega) _).mono ?_
                  rintro e w1 ⟨rfl, rfl⟩
                  rw [HRC.out]
                  go_wp2_with fail
                  go_roundg (s.size - j)
                  case rel => exact ⟨j, m + 1, f, rfl, rfl, hj, by omega, rfl, by go_num, HFJ.out, by omega, by simpa using HX.out⟩
                  case measure => omega
              · have hd : mrng lo (s.data.toList.drop j) = some (s.data.toList.drop j) := by rw [drop_end s j (by omega)]; rfl
                rw [hd] at hrd
                simp only [Option.bind_some] at hrd
                have HX := hid hrd
                have HFJ := hid hfj
                clear hrd hfj hd
                go_wp2_with fail
                refine (cchar_any s k hs (by omega) _).mono ?_
                rintro e w1 ⟨rfl, rfl⟩
                rw [HRC.out]
                go_wp2_with fail
                go_roundg (s.size - j)
                case rel => exact ⟨j, m + 1, f, rfl, rfl, hj, by omega, rfl, by go_num, HFJ.out, by omega, by simpa using HX.out⟩
                case measure => omega
      · have hrd := HRR.out
        rw [drop_end s k (by omega)] at hrd
        have HX : Hid (R = none) := hid (by cases f <;> exact hrd.symm)
        clear hrd HRR HFF
        go_wp2_with fail
        go_ret
        exact ⟨ret_i64 (by rw [HX.out]; rfl), rfl⟩
  · go_enter Ybzm.func38, Ybzm.ntmps38
    go_wp2_with fail
    go_loopg [1, 5] (s.size - i1) (fun g a b wr => ∃ k m f : Nat, wr = w ∧ g = s.size - k ∧ k ≤ s.size ∧ m ≤ s.size ∧ a = .int .i64 k ∧ b = .int .i64 m ∧ s.size - k < f ∧ m ≤ k ∧ mcl f (decide (0 < m)) (s.data.toList.drop k) = R)
    case atStart => exact ⟨_, 0, _, rfl, rfl, by omega, by omega, by go_num, rfl, HF.out, by omega, HR.out⟩
    case round =>
      obtain ⟨k, m, f, rfl, rfl, hk, hm, rfl, rfl, hf, hmk, hr⟩ := hrel
      clear HF HR
      have HFF := hid hf
      have HRR := hid hr
      clear hf hr
      by_cases hks : k < s.size
      · obtain ⟨f, rfl⟩ : ∃ g, f = g + 1 := ⟨f - 1, by have := HFF.out; omega⟩
        have hrd := HRR.out
        rw [drop_at s k hks] at hrd
        unfold mcl at hrd
        by_cases c93 : s[k].toNat = 93
        · rw [if_pos c93] at hrd
          by_cases hm0 : m = 0
          · subst hm0
            have HX : Hid (R = none) := hid (by rw [← hrd]; rfl)
            clear hrd HRR HFF
            go_wp2_with fail
            go_ret
            exact ⟨ret_i64 (by rw [HX.out]; rfl), rfl⟩
          · have hmp : 0 < m := by omega
            have HX : Hid (R = some (s.data.toList.drop (k + 1))) := hid (by rw [← hrd]; simp [hmp])
            clear hrd HRR HFF
            go_wp2_with fail
            go_ret
            exact ⟨ret_i64 (by rw [HX.out]; simp only [clret, drop_len]; omega), rfl⟩
        · rw [if_neg c93] at hrd
          have f93 : ((s[k].toNat : Int) == 93) = false := beq_eq_false_iff_ne.2 (by omega)
          by_cases c45 : s[k].toNat = 45
          · rw [if_pos c45] at hrd
            have HX : Hid (R = none) := hid hrd.symm
            clear hrd HRR HFF
            go_wp2_with fail
            go_ret
            exact ⟨ret_i64 (by rw [HX.out]; rfl), rfl⟩
          · rw [if_neg c45, ← drop_at s k hks] at hrd
            have f45 : ((s[k].toNat : Int) == 45) = false := beq_eq_false_iff_ne.2 (by omega)
            rcases rcv_mchar s k hk with ⟨hmc, hrc⟩ | ⟨lo, j, hkj, hj, hmc, hrc⟩
            · rw [hmc] at hrd
              have HX : Hid (R = none) := hid hrd.symm
              have HRC := hid hrc
              clear hrd HRR HFF hmc hrc
              go_wp2_with fail
              refine (cchar_any s k hs (by omega) _).mono ?_
              rintro e w1 ⟨rfl, rfl⟩
              rw [HRC.out]
              go_wp2_with fail
              go_ret
              exact ⟨ret_i64 (by rw [HX.out]; rfl), rfl⟩
            · rw [hmc] at hrd
              simp only [Option.bind_some] at hrd
              have HRC := hid hrc
              have hfj : s.size - j < f := by have := HFF.out; omega
              clear hmc hrc HRR HFF
              by_cases hjs : j < s.size
              · by_cases d45 : s[j].toNat = 45
                · have hd : mrng lo (s.data.toList.drop j) = mhi lo (s.data.toList.drop (j + 1)) := by rw [drop_at s j hjs]; simp [mrng, d45]
                  rw [hd] at hrd
                  clear hd
                  by_cases hj1 : j + 1 < s.size
                  · rw [drop_at s (j + 1) hj1] at hrd
                    by_cases e93 : s[j + 1].toNat = 93
                    · have HX : Hid (R = none) := hid (by rw [← hrd]; simp [mhi, e93])
                      clear hrd
                      go_wp2_with fail
                      refine (cchar_any s k hs (by omega) _).mono ?_
                      rintro e w1 ⟨rfl, rfl⟩
                      rw [HRC.out]
                      go_wp2_with fail
                      go_ret
                      exact ⟨ret_i64 (by rw [HX.out]; rfl), rfl⟩
                    · have f93' : ((s[j + 1].toNat : Int) == 93) = false := beq_eq_false_iff_ne.2 (by omega)
                      by_cases e45 : s[j + 1].toNat = 45
                      · have HX : Hid (R = none) := hid (by rw [← hrd]; simp [mhi, e45])
                        clear hrd
                        go_wp2_with fail
                        refine (cchar_any s k hs (by omega) _).mono ?_
                        rintro e w1 ⟨rfl, rfl⟩
                        rw [HRC.out]
                        go_wp2_with fail
                        go_ret
                        exact ⟨ret_i64 (by rw [HX.out]; rfl), rfl⟩
                      · have f45' : ((s[j + 1].toNat : Int) == 45) = false := beq_eq_false_iff_ne.2 (by omega)
                        have hne : ¬ (s[j + 1].toNat = 93 ∨ s[j + 1].toNat = 45) := by omega
                        simp only [mhi] at hrd
                        rw [if_neg hne, ← drop_at s (j + 1) hj1] at hrd
                        rcases rcv_mchar s (j + 1) (by omega) with ⟨hmc2, hrc2⟩ | ⟨hi, j2, hkj2, hj2, hmc2, hrc2⟩
                        · rw [hmc2] at hrd
                          have HX : Hid (R = none) := hid hrd.symm
                          have HRC2 := hid hrc2
                          clear hrd hmc2 hrc2
                          go_wp2_with fail
                          refine (cchar_any s k hs (by omega) _).mono ?_
                          rintro e w1 ⟨rfl, rfl⟩
                          rw [HRC.out]
                          go_wp2_with fail
                          refine (cchar_any s (j + 1) hs (by omega) _).mono ?_
                          rintro e w2 ⟨rfl, rfl⟩
                          rw [HRC2.out]
                          go_wp2_with fail
                          go_ret
                          exact ⟨ret_i64 (by rw [HX.out]; rfl), rfl⟩
                        · rw [hmc2] at hrd
                          simp only [Option.bind_some] at hrd
                          have HRC2 := hid hrc2
                          clear hmc2 hrc2
                          by_cases hlt : hi.toNat < lo.toNat
                          · rw [if_pos hlt] at hrd
                            have HX : Hid (R = none) := hid hrd.symm
                            clear hrd
                            go_wp2_with fail
                            refine (cchar_any s k hs (by omega) _).mono ?_
                            rintro e w1 ⟨rfl, rfl⟩
                            rw [HRC.out]
                            go_wp2_with fail
                            refine (cchar_any s (j + 1) hs (by omega) _).mono ?_
                            rintro e w2 ⟨rfl, rfl⟩
                            rw [HRC2.out]
                            go_wp2_with fail
                            go_ret
                            exact ⟨ret_i64 (by rw [HX.out]; rfl), rfl⟩
                          · rw [if_neg hlt] at hrd
                            simp only [Option.bind_some] at hrd
                            have HX := hid hrd
                            have hfj2 : s.size - j2 < f := by omega
                            have HFJ := hid hfj2
                            clear hrd hfj hfj2
                            go_wp2_with fail
                            refine (cchar_any s k hs (by omega) _).mono ?_
                            rintro e w1 ⟨rfl, rfl⟩
                            rw [HRC.out]
                            go_wp2_with fail
                            refine (cchar_any s (j + 1) hs (by omega) _).mono ?_
                            rintro e w2 ⟨rfl, rfl⟩
                            rw [HRC2.out]
                            go_wp2_with fail
                            go_roundg (s.size - j2)
                            case rel => exact ⟨j2, m + 1, f, rfl, rfl, hj2, by omega, rfl, by go_num, HFJ.out, by omega, by simpa using HX.out⟩
                            case measure => omega
                  · rw [drop_end s (j + 1) (by omega)] at hrd
                    have HX : Hid (R = none) := hid hrd.symm
                    clear hrd
                    go_wp2_with fail
                    refine (cchar_any s k hs (by omega) _).mono ?_
                    rintro e w1 ⟨rfl, rfl⟩
                    rw [HRC.out]
                    go_wp2_with fail
                    go_ret
                    exact ⟨ret_i64 (by rw [HX.out]; rfl), rfl⟩
                · have hd : mrng lo (s.data.toList.drop j) = some (s.data.toList.drop j) := by rw [drop_at s j hjs]; simp [mrng, d45]
                  rw [hd] at hrd
                  simp only [Option.bind_some] at hrd
                  have g45 : ((s[j].toNat : Int) == 45) = false := beq_eq_false_iff_ne.2 (by omega)
                  have HX := hid hrd
                  have HFJ := hid hfj
                  clear hrd hfj hd
                  go_wp2_with fail
                  refine (cchar_any s k hs (by omega) _).mono ?_
                  rintro e w1 ⟨rfl, rfl⟩
                  rw [HRC.out]
                  go_wp2_with fail
                  go_roundg (s.size - j)
                  case rel => exact ⟨j, m + 1, f, rfl, rfl, hj, by omega, rfl, by go_num, HFJ.out, by omega, by simpa using HX.out⟩
                  case measure => omega
              · have hd : mrng lo (s.data.toList.drop j) = some (s.data.toList.drop j) := by rw [drop_end s j (by omega)]; rfl
                rw [hd] at hrd
                simp only [Option.bind_some] at hrd
                have HX := hid hrd
                have HFJ := hid hfj
                clear hrd hfj hd
                go_wp2_with fail
                refine (cchar_any s k hs (by omega) _).mono ?_
                rintro e w1 ⟨rfl, rfl⟩
                rw [HRC.out]
                go_wp2_with fail
                go_roundg (s.size - j)
                case rel => exact ⟨j, m + 1, f, rfl, rfl, hj, by omega, rfl, by go_num, HFJ.out, by omega, by simpa using HX.out⟩
                case measure => omega
      · have hrd := HRR.out
        rw [drop_end s k (by omega)] at hrd
        have HX : Hid (R = none) := hid (by cases f <;> exact hrd.symm)
        clear hrd HRR HFF
        go_wp2_with fail
        go_ret
        exact ⟨ret_i64 (by rw [HX.out]; rfl), rfl⟩
end Go.Proofs.Ymbrbz

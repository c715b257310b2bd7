import Derived.Test.YmbrbzProg
import Derived.Test.YmbrbzAid
import Derived.Test.YmbrbzVmachine
import Derived.WalkKit
import Derived.WalkSpells
import Derived.WalkLawsBesides
namespace Go.Proofs.Ymbrbz
open Go.RowKit

theorem ret_boolV {a b : Bool} (h : a = b) : Ending.returned (.bool a) = .returned (.bool b) := by rw [h]
theorem ba_get (s : ByteArray) (i : Nat) (h : i < s.size) : s.data.toList[i]'(by simpa using h) = s[i] := by
  show _ = s.data[i]
  simp

set_option maxHeartbeats 4000000 in
theorem valid_any (s : ByteArray) (w : World) (hs : s.size ≤ 9223372036854775807) :
    Calls Ybzm.prog 24 #[.string s] w fun e w' => e = .returned (.bool (valid s.data.toList)) ∧ w' = w := by
  go_enter Ybzm.func24, Ybzm.ntmps24
  go_wp2_with fail
  go_loop [3, 4, 5, 6] (fun a b c i => ∃ (k : Nat) (st : Int) (e : Bool) (lo : UInt8), k ≤ s.size ∧ i = .int .i64 k ∧ a = .int .i64 st ∧ b = .bool e ∧ c = .int .u8 lo.toNat ∧ (st = 0 ∨ st = 1 ∨ st = 2 ∨ st = 3 ∨ st = 4 ∨ st = 5) ∧ vrun (0, false, 0) (s.data.toList.take k) = some (st, e, lo)) (fun _ _ _ i => s.size - (intOf i).toNat)
  case atStart => exact ⟨0, 0, false, 0, Nat.zero_le _, rfl, rfl, rfl, rfl, .inl rfl, rfl⟩
  case round =>
    obtain ⟨k, st, e, lo, hk, rfl, rfl, rfl, rfl, hst, hrun⟩ := hrel
    have HRun := hid hrun
    clear hrun
    by_cases hks : k < s.size
    · have hstep := vrun_take_succ s.data.toList k (by simpa using hks) _ _ HRun.out
      rw [ba_get s k hks] at hstep
      have HS := hid hstep
      clear hstep HRun
      cases e
      · by_cases c92 : s[k].toNat = 92
        · have HN : Hid (vrun (0, false, 0) (s.data.toList.take (k + 1)) = some (st, true, lo)) := hid (by rw [HS.out]; simp [vstep, c92])
          clear HS
          go_wp2_with fail
          go_round
          case rel => exact ⟨k + 1, st, true, lo, by omega, by go_num, rfl, rfl, rfl, hst, HN.out⟩
          case measure => simp [intOf]; omega
        · have f92 : ((s[k].toNat : Int) == 92) = false := beq_eq_false_iff_ne.2 (by omega)
          rcases hst with rfl | rfl | rfl | rfl | rfl | rfl
          · by_cases c91 : s[k].toNat = 91
            · have f91 : ((s[k].toNat : Int) == 91) = true := beq_iff_eq.2 (by omega)
              have HN : Hid (vrun (0, false, 0) (s.data.toList.take (k + 1)) = some (1, false, lo)) := hid (by rw [HS.out]; simp [vstep, c91])
              clear HS
              go_wp2_with fail
              go_round
              case rel => exact ⟨k + 1, 1, false, lo, by omega, by go_num, rfl, rfl, rfl, .inr (.inl rfl), HN.out⟩
              case measure => simp [intOf]; omega
            · have f91 : ((s[k].toNat : Int) == 91) = false := beq_eq_false_iff_ne.2 (by omega)
              have HN : Hid (vrun (0, false, 0) (s.data.toList.take (k + 1)) = some (0, false, lo)) := hid (by rw [HS.out]; simp [vstep, c92, c91])
              clear HS
              go_wp2_with fail
              go_round
              case rel => exact ⟨k + 1, 0, false, lo, by omega, by go_num, rfl, rfl, rfl, .inl rfl, HN.out⟩
              case measure => simp [intOf]; omega
          · by_cases c33 : s[k].toNat = 33
            · have f33 : ((s[k].toNat : Int) == 33) = true := beq_iff_eq.2 (by omega)
              have HN : Hid (vrun (0, false, 0) (s.data.toList.take (k + 1)) = some (2, false, lo)) := hid (by rw [HS.out]; simp [vstep, c33])
              clear HS
              go_wp2_with fail
              go_round
              case rel => exact ⟨k + 1, 2, false, lo, by omega, by go_num, rfl, rfl, rfl, .inr (.inr (.inl rfl)), HN.out⟩
              case measure => simp [intOf]; omega
            · have f33 : ((s[k].toNat : Int) == 33) = false := beq_eq_false_iff_ne.2 (by omega)
              by_cases c93 : s[k].toNat = 93
              · have f93 : ((s[k].toNat : Int) == 93) = true := beq_iff_eq.2 (by omega)
                have HN : Hid (valid s.data.toList = false) := hid (by unfold valid; rw [vrun_dead s.data.toList (k + 1) _ (by rw [HS.out]; simp [vstep, c93])]; rfl)
                clear HS
                go_wp2_with fail
                go_ret
                exact ⟨ret_boolV HN.out.symm, rfl⟩
              · have f93 : ((s[k].toNat : Int) == 93) = false := beq_eq_false_iff_ne.2 (by omega)
                by_cases c45 : s[k].toNat = 45
                · have f45 : ((s[k].toNat : Int) == 45) = true := beq_iff_eq.2 (by omega)
                  have HN : Hid (valid s.data.toList = false) := hid (by unfold valid; rw [vrun_dead s.data.toList (k + 1) _ (by rw [HS.out]; simp [vstep, c45])]; rfl)
                  clear HS
                  go_wp2_with fail
                  go_ret
                  exact ⟨ret_boolV HN.out.symm, rfl⟩
                · have f45 : ((s[k].toNat : Int) == 45) = false := beq_eq_false_iff_ne.2 (by omega)
                  have HN : Hid (vrun (0, false, 0) (s.data.toList.take (k + 1)) = some (3, false, s[k])) := hid (by rw [HS.out]; simp [vstep, c92, c33, c93, c45])
                  clear HS
                  go_wp2_with fail
                  go_round
                  case rel => exact ⟨k + 1, 3, false, s[k], by omega, by go_num, rfl, rfl, rfl, .inr (.inr (.inr (.inl rfl))), HN.out⟩
                  case measure => simp [intOf]; omega
          · by_cases c33 : s[k].toNat = 33
            · have f33 : ((s[k].toNat : Int) == 33) = true := beq_iff_eq.2 (by omega)
              have f93 : ((s[k].toNat : Int) == 93) = false := beq_eq_false_iff_ne.2 (by omega)
              have f45 : ((s[k].toNat : Int) == 45) = false := beq_eq_false_iff_ne.2 (by omega)
              have HN : Hid (vrun (0, false, 0) (s.data.toList.take (k + 1)) = some (3, false, s[k])) := hid (by rw [HS.out]; simp [vstep, c33])
              clear HS c33
              go_wp2_with fail
              go_round
              case rel => exact ⟨k + 1, 3, false, s[k], by omega, by go_num, rfl, rfl, rfl, .inr (.inr (.inr (.inl rfl))), HN.out⟩
              case measure => simp [intOf]; omega
            · have f33 : ((s[k].toNat : Int) == 33) = false := beq_eq_false_iff_ne.2 (by omega)
              by_cases c93 : s[k].toNat = 93
              · have f93 : ((s[k].toNat : Int) == 93) = true := beq_iff_eq.2 (by omega)
                have HN : Hid (valid s.data.toList = false) := hid (by unfold valid; rw [vrun_dead s.data.toList (k + 1) _ (by rw [HS.out]; simp [vstep, c93])]; rfl)
                clear HS
                go_wp2_with fail
                go_ret
                exact ⟨ret_boolV HN.out.symm, rfl⟩
              · have f93 : ((s[k].toNat : Int) == 93) = false := beq_eq_false_iff_ne.2 (by omega)
                by_cases c45 : s[k].toNat = 45
                · have f45 : ((s[k].toNat : Int) == 45) = true := beq_iff_eq.2 (by omega)
                  have HN : Hid (valid s.data.toList = false) := hid (by unfold valid; rw [vrun_dead s.data.toList (k + 1) _ (by rw [HS.out]; simp [vstep, c45])]; rfl)
                  clear HS
                  go_wp2_with fail
                  go_ret
                  exact ⟨ret_boolV HN.out.symm, rfl⟩
                · have f45 : ((s[k].toNat : Int) == 45) = false := beq_eq_false_iff_ne.2 (by omega)
                  have HN : Hid (vrun (0, false, 0) (s.data.toList.take (k + 1)) = some (3, false, s[k])) := hid (by rw [HS.out]; simp [vstep, c92, c93, c45])
                  clear HS
                  go_wp2_with fail
                  go_round
                  case rel => exact ⟨k + 1, 3, false, s[k], by omega, by go_num, rfl, rfl, rfl, .inr (.inr (.inr (.inl rfl))), HN.out⟩
                  case measure => simp [intOf]; omega
          · by_cases c33 : s[k].toNat = 33
            · have f33 : ((s[k].toNat : Int) == 33) = true := beq_iff_eq.2 (by omega)
              have f93 : ((s[k].toNat : Int) == 93) = false := beq_eq_false_iff_ne.2 (by omega)
              have f45 : ((s[k].toNat : Int) == 45) = false := beq_eq_false_iff_ne.2 (by omega)
              have HN : Hid (vrun (0, false, 0) (s.data.toList.take (k + 1)) = some (3, false, s[k])) := hid (by rw [HS.out]; simp [vstep, c33])
              clear HS c33
              go_wp2_with fail
              go_round
              case rel => exact ⟨k + 1, 3, false, s[k], by omega, by go_num, rfl, rfl, rfl, .inr (.inr (.inr (.inl rfl))), HN.out⟩
              case measure => simp [intOf]; omega
            · have f33 : ((s[k].toNat : Int) == 33) = false := beq_eq_false_iff_ne.2 (by omega)
              by_cases c93 : s[k].toNat = 93
              · have f93 : ((s[k].toNat : Int) == 93) = true := beq_iff_eq.2 (by omega)
                have HN : Hid (vrun (0, false, 0) (s.data.toList.take (k + 1)) = some (0, false, lo)) := hid (by rw [HS.out]; simp [vstep, c93])
                clear HS
                go_wp2_with fail
                go_round
                case rel => exact ⟨k + 1, 0, false, lo, by omega, by go_num, rfl, rfl, rfl, .inl rfl, HN.out⟩
                case measure => simp [intOf]; omega
              · have f93 : ((s[k].toNat : Int) == 93) = false := beq_eq_false_iff_ne.2 (by omega)
                by_cases c45 : s[k].toNat = 45
                · have f45 : ((s[k].toNat : Int) == 45) = true := beq_iff_eq.2 (by omega)
                  have HN : Hid (vrun (0, false, 0) (s.data.toList.take (k + 1)) = some (4, false, lo)) := hid (by rw [HS.out]; simp [vstep, c45])
                  clear HS
                  go_wp2_with fail
                  go_round
                  case rel => exact ⟨k + 1, 4, false, lo, by omega, by go_num, rfl, rfl, rfl, .inr (.inr (.inr (.inr (.inl rfl)))), HN.out⟩
                  case measure => simp [intOf]; omega
                · have f45 : ((s[k].toNat : Int) == 45) = false := beq_eq_false_iff_ne.2 (by omega)
                  have HN : Hid (vrun (0, false, 0) (s.data.toList.take (k + 1)) = some (3, false, s[k])) := hid (by rw [HS.out]; simp [vstep, c92, c93, c45])
                  clear HS
                  go_wp2_with fail
                  go_round
                  case rel => exact ⟨k + 1, 3, false, s[k], by omega, by go_num, rfl, rfl, rfl, .inr (.inr (.inr (.inl rfl))), HN.out⟩
                  case measure => simp [intOf]; omega
          · by_cases c33 : s[k].toNat = 33
            · have f33 : ((s[k].toNat : Int) == 33) = true := beq_iff_eq.2 (by omega)
              have f93 : ((s[k].toNat : Int) == 93) = false := beq_eq_false_iff_ne.2 (by omega)
              have f45 : ((s[k].toNat : Int) == 45) = false := beq_eq_false_iff_ne.2 (by omega)
              by_cases clt : s[k].toNat < lo.toNat
              · have HN : Hid (valid s.data.toList = false) := hid (by unfold valid; rw [vrun_dead s.data.toList (k + 1) _ (by rw [HS.out]; simp only [vstep, c33]; rw [c33] at clt; simp [clt])]; rfl)
                clear HS c33
                go_wp2_with fail
                go_ret
                exact ⟨ret_boolV HN.out.symm, rfl⟩
              · have HN : Hid (vrun (0, false, 0) (s.data.toList.take (k + 1)) = some (5, false, lo)) := hid (by rw [HS.out]; simp only [vstep, c33]; rw [c33] at clt; simp [clt])
                clear HS c33
                go_wp2_with fail
                go_round
                case rel => exact ⟨k + 1, 5, false, lo, by omega, by go_num, rfl, rfl, rfl, .inr (.inr (.inr (.inr (.inr rfl)))), HN.out⟩
                case measure => simp [intOf]; omega
            · have f33 : ((s[k].toNat : Int) == 33) = false := beq_eq_false_iff_ne.2 (by omega)
              by_cases c93 : s[k].toNat = 93
              · have f93 : ((s[k].toNat : Int) == 93) = true := beq_iff_eq.2 (by omega)
                have HN : Hid (valid s.data.toList = false) := hid (by unfold valid; rw [vrun_dead s.data.toList (k + 1) _ (by rw [HS.out]; simp [vstep, c93])]; rfl)
                clear HS
                go_wp2_with fail
                go_ret
                exact ⟨ret_boolV HN.out.symm, rfl⟩
              · have f93 : ((s[k].toNat : Int) == 93) = false := beq_eq_false_iff_ne.2 (by omega)
                by_cases c45 : s[k].toNat = 45
                · have f45 : ((s[k].toNat : Int) == 45) = true := beq_iff_eq.2 (by omega)
                  have HN : Hid (valid s.data.toList = false) := hid (by unfold valid; rw [vrun_dead s.data.toList (k + 1) _ (by rw [HS.out]; simp [vstep, c45])]; rfl)
                  clear HS
                  go_wp2_with fail
                  go_ret
                  exact ⟨ret_boolV HN.out.symm, rfl⟩
                · have f45 : ((s[k].toNat : Int) == 45) = false := beq_eq_false_iff_ne.2 (by omega)
                  by_cases clt : s[k].toNat < lo.toNat
                  · have HN : Hid (valid s.data.toList = false) := hid (by unfold valid; rw [vrun_dead s.data.toList (k + 1) _ (by rw [HS.out]; simp [vstep, c92, c93, c45, clt])]; rfl)
                    clear HS
                    go_wp2_with fail
                    go_ret
                    exact ⟨ret_boolV HN.out.symm, rfl⟩
                  · have HN : Hid (vrun (0, false, 0) (s.data.toList.take (k + 1)) = some (5, false, lo)) := hid (by rw [HS.out]; simp [vstep, c92, c93, c45, clt])
                    clear HS
                    go_wp2_with fail
                    go_round
                    case rel => exact ⟨k + 1, 5, false, lo, by omega, by go_num, rfl, rfl, rfl, .inr (.inr (.inr (.inr (.inr rfl)))), HN.out⟩
                    case measure => simp [intOf]; omega
          · by_cases c33 : s[k].toNat = 33
            · have f33 : ((s[k].toNat : Int) == 33) = true := beq_iff_eq.2 (by omega)
              have f93 : ((s[k].toNat : Int) == 93) = false := beq_eq_false_iff_ne.2 (by omega)
              have f45 : ((s[k].toNat : Int) == 45) = false := beq_eq_false_iff_ne.2 (by omega)
              have HN : Hid (vrun (0, false, 0) (s.data.toList.take (k + 1)) = some (3, false, s[k])) := hid (by rw [HS.out]; simp [vstep, c33])
              clear HS c33
              go_wp2_with fail
              go_round
              case rel => exact ⟨k + 1, 3, false, s[k], by omega, by go_num, rfl, rfl, rfl, .inr (.inr (.inr (.inl rfl))), HN.out⟩
              case measure => simp [intOf]; omega
            · have f33 : ((s[k].toNat : Int) == 33) = false := beq_eq_false_iff_ne.2 (by omega)
              by_cases c93 : s[k].toNat = 93
              · have f93 : ((s[k].toNat : Int) == 93) = true := beq_iff_eq.2 (by omega)
                have HN : Hid (vrun (0, false, 0) (s.data.toList.take (k + 1)) = some (0, false, lo)) := hid (by rw [HS.out]; simp [vstep, c93])
                clear HS
                go_wp2_with fail
                go_round
                case rel => exact ⟨k + 1, 0, false, lo, by omega, by go_num, rfl, rfl, rfl, .inl rfl, HN.out⟩
                case measure => simp [intOf]; omega
              · have f93 : ((s[k].toNat : Int) == 93) = false := beq_eq_false_iff_ne.2 (by omega)
                by_cases c45 : s[k].toNat = 45
                · have f45 : ((s[k].toNat : Int) == 45) = true := beq_iff_eq.2 (by omega)
                  have HN : Hid (valid s.data.toList = false) := hid (by unfold valid; rw [vrun_dead s.data.toList (k + 1) _ (by rw [HS.out]; simp [vstep, c45])]; rfl)
                  clear HS
                  go_wp2_with fail
                  go_ret
                  exact ⟨ret_boolV HN.out.symm, rfl⟩
                · have f45 : ((s[k].toNat : Int) == 45) = false := beq_eq_false_iff_ne.2 (by omega)
                  have HN : Hid (vrun (0, false, 0) (s.data.toList.take (k + 1)) = some (3, false, s[k])) := hid (by rw [HS.out]; simp [vstep, c92, c93, c45])
                  clear HS
                  go_wp2_with fail
                  go_round
                  case rel => exact ⟨k + 1, 3, false, s[k], by omega, by go_num, rfl, rfl, rfl, .inr (.inr (.inr (.inl rfl))), HN.out⟩
                  case measure => simp [intOf]; omega
      · rcases hst with rfl | rfl | rfl | rfl | rfl | rfl
        · have HN : Hid (vrun (0, false, 0) (s.data.toList.take (k + 1)) = some (0, false, lo)) := hid (by rw [HS.out]; simp [vstep])
          clear HS
          go_wp2_with fail
          go_round
          case rel => exact ⟨k + 1, 0, false, lo, by omega, by go_num, rfl, rfl, rfl, .inl rfl, HN.out⟩
          case measure => simp [intOf]; omega
        · have HN : Hid (vrun (0, false, 0) (s.data.toList.take (k + 1)) = some (3, false, s[k])) := hid (by rw [HS.out]; simp [vstep])
          clear HS
          go_wp2_with fail
          go_round
          case rel => exact ⟨k + 1, 3, false, s[k], by omega, by go_num, rfl, rfl, rfl, .inr (.inr (.inr (.inl rfl))), HN.out⟩
          case measure => simp [intOf]; omega
        · have HN : Hid (vrun (0, false, 0) (s.data.toList.take (k + 1)) = some (3, false, s[k])) := hid (by rw [HS.out]; simp [vstep])
          clear HS
          go_wp2_with fail
          go_round
          case rel => exact ⟨k + 1, 3, false, s[k], by omega, by go_num, rfl, rfl, rfl, .inr (.inr (.inr (.inl rfl))), HN.out⟩
          case measure => simp [intOf]; omega
        · have HN : Hid (vrun (0, false, 0) (s.data.toList.take (k + 1)) = some (3, false, s[k])) := hid (by rw [HS.out]; simp [vstep])
          clear HS
          go_wp2_with fail
          go_round
          case rel => exact ⟨k + 1, 3, false, s[k], by omega, by go_num, rfl, rfl, rfl, .inr (.inr (.inr (.inl rfl))), HN.out⟩
          case measure => simp [intOf]; omega
        · by_cases clt : s[k].toNat < lo.toNat
          · have HN : Hid (valid s.data.toList = false) := hid (by unfold valid; rw [vrun_dead s.data.toList (k + 1) _ (by rw [HS.out]; simp [vstep, clt])]; rfl)
            clear HS
            go_wp2_with fail
            go_ret
            exact ⟨ret_boolV HN.out.symm, rfl⟩
          · have HN : Hid (vrun (0, false, 0) (s.data.toList.take (k + 1)) = some (5, false, lo)) := hid (by rw [HS.out]; simp [vstep, clt])
            clear HS
            go_wp2_with fail
            go_round
            case rel => exact ⟨k + 1, 5, false, lo, by omega, by go_num, rfl, rfl, rfl, .inr (.inr (.inr (.inr (.inr rfl)))), HN.out⟩
            case measure => simp [intOf]; omega
        · have HN : Hid (vrun (0, false, 0) (s.data.toList.take (k + 1)) = some (3, false, s[k])) := hid (by rw [HS.out]; simp [vstep])
          clear HS
          go_wp2_with fail
          go_round
          case rel => exact ⟨k + 1, 3, false, s[k], by omega, by go_num, rfl, rfl, rfl, .inr (.inr (.inr (.inl rfl))), HN.out⟩
          case measure => simp [intOf]; omega
    · have hkk : s.data.toList.take k = s.data.toList := List.take_of_length_le (by simp; omega)
      have hval : valid s.data.toList = (decide (st = 0) && !e) := by
        have := HRun.out
        rw [hkk] at this
        unfold valid
        rw [this]
        rfl
      have HV := hid hval
      clear hval hkk HRun
      cases e <;> rcases hst with rfl | rfl | rfl | rfl | rfl | rfl
      all_goals
        go_wp2_with fail
        go_ret
        exact ⟨ret_boolV (by rw [HV.out]; rfl), rfl⟩
end Go.Proofs.Ymbrbz

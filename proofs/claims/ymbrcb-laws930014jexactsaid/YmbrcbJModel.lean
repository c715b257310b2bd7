import Derived.Test.YmbrcbJLaw
import Derived.Test.YmbrcbRcvIn
import Derived.Test.YmbrcbRanges
import Derived.Test.YmbrcbAid
import Derived.Deep.LoopGhost
import Derived.WalkKit
import Derived.WalkSpells
import Derived.WalkLawsBesides
namespace Go.Proofs.Ymbrcb
open Go.RowKit

theorem Ycbm.infoRange' : (Ycbm.prog.info? 43).map (fun i => (i.zero, i.size, i.bytes)) = some (some (.agg #[.int .u8 0, .int .u8 0]), 2, 2) := by kernel_rfl

/-- What the machine's function leaves. -/
def JMPost (n : Nat) (R : Option (Bool × List (UInt8 × UInt8) × List UInt8)) (w : World) (e : Ending) (w' : World) : Prop :=
  (R = none ∧ e = .returned (.tuple #[.bool false, .slice none 0 0, .int .i64 0, .bool false]) ∧ Below w.heap.size w w') ∨
  ∃ neg rs r v, R = some (neg, rs, r) ∧ e = .returned (.tuple #[.bool neg, v, .int .i64 ((n - r.length : Nat) : Int), .bool true]) ∧ OwnR w' w.heap.size v rs ∧ Below w.heap.size w w'

set_option maxHeartbeats 8000000 in
set_option maxRecDepth 4000 in
theorem jmodel_any (s : ByteArray) (start : Nat) (hs : s.size ≤ 1000000) (hst : start ≤ s.size + 1) (w : World) :
    Calls Ycbm.prog 15 #[.string s, .int .i64 start] w (JMPost s.size (jrun true false [] false 0 0 (s.data.toList.drop start)) w) := by
  obtain ⟨R, hR⟩ : ∃ R, R = jrun true false [] false 0 0 (s.data.toList.drop start) := ⟨_, rfl⟩
  rw [← hR]
  have HR : Hid (jrun true false [] false 0 0 (s.data.toList.drop start) = R) := hid hR.symm
  have finNone : Hid (∀ W, R = none → Below w.heap.size w W → JMPost s.size R w (.returned (.tuple #[.bool false, .slice none 0 0, .int .i64 0, .bool false])) W) := fun W h hb => .inl ⟨h, rfl, hb⟩
  have finSome : Hid (∀ W neg rs r v k, R = some (neg, rs, r) → (s.size - r.length : Nat) = k → OwnR W w.heap.size v rs → Below w.heap.size w W → JMPost s.size R w (.returned (.tuple #[.bool neg, v, .int .i64 (k : Int), .bool true])) W) := by
    intro W neg rs r v k h hk ho hb
    exact .inr ⟨neg, rs, r, v, h, by rw [hk], ho, hb⟩
  obtain ⟨P, hP⟩ : ∃ P, P = JMPost s.size R w := ⟨_, rfl⟩
  rw [← hP] at finNone finSome ⊢
  clear hR hP
  go_enter Ycbm.func15, Ycbm.ntmps15
  go_wp2_with fail
  go_loopg [8, 9, 10, 11, 12, 13] (s.size - start) (fun g x8 x9 x10 x11 x12 x13 wr => ∃ (k : Nat) (neg : Bool) (rs : List (UInt8 × UInt8)) (e : Bool) (st : Int) (lo : UInt8), g = s.size - k ∧ start ≤ k ∧ k ≤ s.size + 1 ∧ x13 = .int .i64 k ∧ x9 = .bool neg ∧ x10 = .bool e ∧ x11 = .int .i64 st ∧ x12 = .int .u8 lo.toNat ∧ OwnR wr w.heap.size x8 rs ∧ Below w.heap.size w wr ∧ (st = 0 ∨ st = 1 ∨ st = 2) ∧ rs.length ≤ k ∧ (k = start → st = 0 ∧ e = false ∧ rs = []) ∧ jrun (decide (k = start)) neg rs e st lo (s.data.toList.drop k) = R)
  case atStart => exact ⟨start, false, [], false, 0, 0, rfl, Nat.le_refl _, hst, rfl, rfl, rfl, rfl, rfl, OwnR.nil _ _, Below.refl _ _, .inl rfl, by simp, fun _ => ⟨rfl, rfl, rfl⟩, by simpa using HR.out⟩
  case round =>
    obtain ⟨k, neg, rs, e, st, lo, rfl, hsk, hk, rfl, rfl, rfl, rfl, rfl, hown, hb, hst3, hrk, hini, hr⟩ := hrel
    have HRR := hid hr
    clear hr HR
    obtain ⟨ao, cp, hv, hcp, hcp2, hba⟩ := hown.shape
    subst hv
    have HO := hid hown
    have HB := hid hb.size
    clear hown hba hcp hcp2
    by_cases hks : k < s.size
    · have hrd := HRR.out
      rw [dropAt s k hks] at hrd
      unfold jrun at hrd
      clear HRR
      by_cases hk0 : k = start
      · obtain ⟨rfl, rfl, rfl⟩ := hini hk0
        have g0 : ((k : Int) == (start : Int)) = true := beq_iff_eq.2 (by omega)
        have HK := hid hk0
        rw [decide_eq_true hk0] at hrd
        clear hini hk0 hst3
        by_cases c33 : s[k].toNat = 33
        · rw [if_pos ⟨rfl, c33⟩] at hrd
          have HX := hid hrd
          clear hrd
          go_wp2_with fail
          go_roundg (s.size - (k + 1))
          case rel => exact ⟨k + 1, true, [], false, 0, lo, rfl, by omega, by omega, by go_num, rfl, rfl, rfl, rfl, HO.out, hb, .inl rfl, by simp, fun h => by omega, by rw [decide_eq_false (by omega : ¬ k + 1 = start)]; exact HX.out⟩
          case measure => omega
        · rw [if_neg (by simp [c33])] at hrd
          have f33 : ((s[k].toNat : Int) == 33) = false := beq_eq_false_iff_ne.2 (by omega)
          by_cases c92 : s[k].toNat = 92
          · rw [if_pos ⟨rfl, c92⟩] at hrd
            have HX := hid hrd
            clear hrd
            go_wp2_with fail
            go_roundg (s.size - (k + 1))
            case rel => exact ⟨k + 1, neg, [], true, 0, lo, rfl, by omega, by omega, by go_num, rfl, rfl, rfl, rfl, HO.out, hb, .inl rfl, by simp, fun h => by omega, by rw [decide_eq_false (by omega : ¬ k + 1 = start)]; exact HX.out⟩
            case measure => omega
          · rw [if_neg (by simp [c92])] at hrd
            have f92 : ((s[k].toNat : Int) == 92) = false := beq_eq_false_iff_ne.2 (by omega)
            by_cases c93 : s[k].toNat = 93
            · rw [if_pos ⟨rfl, c93⟩] at hrd
              have HX : Hid (R = none) := hid (by rw [← hrd]; simp)
              clear hrd
              go_wp2_with fail
              exact bodyPost_ret (v := .tuple #[.bool false, .slice none 0 0, .int .i64 0, .bool false]) (by simp [results, Ycbm.results15, go_sem]) rfl (finNone.out _ HX.out hb)
            · rw [if_neg (by simp [c93])] at hrd
              have f93 : ((s[k].toNat : Int) == 93) = false := beq_eq_false_iff_ne.2 (by omega)
              by_cases c45 : s[k].toNat = 45
              · rw [if_pos ⟨rfl, c45⟩] at hrd
                have HX : Hid (R = none) := hid (by rw [← hrd]; simp)
                clear hrd
                go_wp2_with fail
                exact bodyPost_ret (v := .tuple #[.bool false, .slice none 0 0, .int .i64 0, .bool false]) (by simp [results, Ycbm.results15, go_sem]) rfl (finNone.out _ HX.out hb)
              · rw [if_neg (by simp [c45])] at hrd
                have f45 : ((s[k].toNat : Int) == 45) = false := beq_eq_false_iff_ne.2 (by omega)
                have HX : Hid (jrun false neg [] false 1 s[k] (s.data.toList.drop (k + 1)) = R) := hid (by rw [← hrd]; simp)
                clear hrd
                go_wp2_with fail
                go_roundg (s.size - (k + 1))
                case rel => exact ⟨k + 1, neg, [], false, 1, s[k], rfl, by omega, by omega, by go_num, rfl, rfl, rfl, rfl, HO.out, hb, .inr (.inl rfl), by simp, fun h => by omega, by rw [decide_eq_false (by omega : ¬ k + 1 = start)]; exact HX.out⟩
                case measure => omega
      · have g0 : ((k : Int) == (start : Int)) = false := beq_eq_false_iff_ne.2 (by omega)
        rw [decide_eq_false hk0, if_neg (by simp)] at hrd
        clear hini
        rcases hst3 with rfl | rfl | rfl
        · cases e
          · skip
            by_cases c92 : s[k].toNat = 92
            · rw [if_pos ⟨rfl, c92⟩] at hrd
              have HX := hid hrd
              clear hrd
              go_wp2_with fail
              go_roundg (s.size - (k + 1))
              case rel => exact ⟨k + 1, neg, rs, true, 0, lo, rfl, by omega, by omega, by go_num, rfl, rfl, rfl, rfl, HO.out, hb, .inl rfl, by omega, fun h => by omega, by rw [decide_eq_false (by omega : ¬ k + 1 = start)]; exact HX.out⟩
              case measure => omega
            · rw [if_neg (by simp [c92])] at hrd
              have f92 : ((s[k].toNat : Int) == 92) = false := beq_eq_false_iff_ne.2 (by omega)
              by_cases c93 : s[k].toNat = 93
              · rw [if_pos ⟨rfl, c93⟩] at hrd
                by_cases hrs : rs = []
                · subst hrs
                  have HX : Hid (R = none) := hid (by rw [← hrd]; simp)
                  clear hrd
                  go_wp2_with fail
                  exact bodyPost_ret (v := .tuple #[.bool false, .slice none 0 0, .int .i64 0, .bool false]) (by simp [results, Ycbm.results15, go_sem]) rfl (finNone.out _ HX.out hb)
                · have hnz : ((rs.length : Int) == 0) = false := beq_eq_false_iff_ne.2 (by have := List.length_pos_iff.2 hrs; omega)
                  have HX : Hid (R = some (neg, rs, s.data.toList.drop (k + 1))) := hid (by rw [← hrd]; simp [hrs])
                  clear hrd
                  go_wp2_with fail
                  exact bodyPost_ret (v := .tuple #[.bool neg, .slice ao rs.length cp, .int .i64 ((k + 1 : Nat) : Int), .bool true]) (by simp [results, Ycbm.results15, go_sem]) rfl (finSome.out _ neg rs _ _ (k + 1) HX.out (by rw [dropLen]; omega) HO.out hb)
              · rw [if_neg (by simp [c93])] at hrd
                have f93 : ((s[k].toNat : Int) == 93) = false := beq_eq_false_iff_ne.2 (by omega)
                by_cases c45 : s[k].toNat = 45
                · rw [if_pos ⟨rfl, c45⟩] at hrd
                  have HX : Hid (R = none) := hid (by rw [← hrd]; simp)
                  clear hrd
                  go_wp2_with fail
                  exact bodyPost_ret (v := .tuple #[.bool false, .slice none 0 0, .int .i64 0, .bool false]) (by simp [results, Ycbm.results15, go_sem]) rfl (finNone.out _ HX.out hb)
                · rw [if_neg (by simp [c45])] at hrd
                  have f45 : ((s[k].toNat : Int) == 45) = false := beq_eq_false_iff_ne.2 (by omega)
                  have HX : Hid (jrun false neg rs false 1 s[k] (s.data.toList.drop (k + 1)) = R) := hid (by rw [← hrd]; simp)
                  clear hrd
                  go_wp2_with fail
                  go_roundg (s.size - (k + 1))
                  case rel => exact ⟨k + 1, neg, rs, false, 1, s[k], rfl, by omega, by omega, by go_num, rfl, rfl, rfl, rfl, HO.out, hb, .inr (.inl rfl), by omega, fun h => by omega, by rw [decide_eq_false (by omega : ¬ k + 1 = start)]; exact HX.out⟩
                  case measure => omega
          · rw [if_neg (by simp), if_neg (by simp), if_neg (by simp)] at hrd
            have HX : Hid (jrun false neg rs false 1 s[k] (s.data.toList.drop (k + 1)) = R) := hid (by rw [← hrd]; simp)
            clear hrd
            go_wp2_with fail
            go_roundg (s.size - (k + 1))
            case rel => exact ⟨k + 1, neg, rs, false, 1, s[k], rfl, by omega, by omega, by go_num, rfl, rfl, rfl, rfl, HO.out, hb, .inr (.inl rfl), by omega, fun h => by omega, by rw [decide_eq_false (by omega : ¬ k + 1 = start)]; exact HX.out⟩
            case measure => omega
        · cases e
          · skip
            by_cases c92 : s[k].toNat = 92
            · rw [if_pos ⟨rfl, c92⟩] at hrd
              have HX := hid hrd
              clear hrd
              go_wp2_with fail
              go_roundg (s.size - (k + 1))
              case rel => exact ⟨k + 1, neg, rs, true, 1, lo, rfl, by omega, by omega, by go_num, rfl, rfl, rfl, rfl, HO.out, hb, .inr (.inl rfl), by omega, fun h => by omega, by rw [decide_eq_false (by omega : ¬ k + 1 = start)]; exact HX.out⟩
              case measure => omega
            · rw [if_neg (by simp [c92])] at hrd
              have f92 : ((s[k].toNat : Int) == 92) = false := beq_eq_false_iff_ne.2 (by omega)
              by_cases c93 : s[k].toNat = 93
              · rw [if_pos ⟨rfl, c93⟩] at hrd
                have HX : Hid (R = some (neg, rs ++ [(lo, lo)], s.data.toList.drop (k + 1))) := hid (by rw [← hrd]; simp)
                clear hrd
                go_wp2_with (at_builtin; go_must (refine wpList_appR wr rfl (.tmp 40) (.tmp 44) 36 rfl Ycbm.underlying36 Ycbm.infoRange' w.heap.size _ rs (by rfl) HO.out lo lo _ rfl rfl (by omega) HB.out ?_); intro ao1 cp1 w1 hown1 hb1 hg1; have HO1 := hid hown1; clear hown1 hg1)
                exact bodyPost_ret (v := .tuple #[.bool neg, .slice ao1 (rs.length + 1) cp1, .int .i64 ((k + 1 : Nat) : Int), .bool true]) (by simp [results, Ycbm.results15, go_sem]) rfl (finSome.out _ neg _ _ _ (k + 1) HX.out (by rw [dropLen]; omega) HO1.out (hb.trans hb1))
              · rw [if_neg (by simp [c93])] at hrd
                have f93 : ((s[k].toNat : Int) == 93) = false := beq_eq_false_iff_ne.2 (by omega)
                by_cases c45 : s[k].toNat = 45
                · rw [if_pos ⟨rfl, c45⟩] at hrd
                  have HX : Hid (jrun false neg rs false 2 lo (s.data.toList.drop (k + 1)) = R) := hid (by rw [← hrd]; simp)
                  clear hrd
                  go_wp2_with fail
                  go_roundg (s.size - (k + 1))
                  case rel => exact ⟨k + 1, neg, rs, false, 2, lo, rfl, by omega, by omega, by go_num, rfl, rfl, rfl, rfl, HO.out, hb, .inr (.inr rfl), by omega, fun h => by omega, by rw [decide_eq_false (by omega : ¬ k + 1 = start)]; exact HX.out⟩
                  case measure => omega
                · rw [if_neg (by simp [c45])] at hrd
                  have f45 : ((s[k].toNat : Int) == 45) = false := beq_eq_false_iff_ne.2 (by omega)
                  have HX : Hid (jrun false neg (rs ++ [(lo, lo)]) false 1 s[k] (s.data.toList.drop (k + 1)) = R) := hid (by rw [← hrd]; simp)
                  clear hrd
                  go_wp2_with (at_builtin; go_must (refine wpList_appR wr rfl (.tmp 74) (.tmp 78) 36 rfl Ycbm.underlying36 Ycbm.infoRange' w.heap.size _ rs (by rfl) HO.out lo lo _ rfl rfl (by omega) HB.out ?_); intro ao1 cp1 w1 hown1 hb1 hg1; have HO1 := hid hown1; clear hown1 hg1)
                  go_roundg (s.size - (k + 1))
                  case rel => exact ⟨k + 1, neg, _, false, 1, s[k], rfl, by omega, by omega, by go_num, rfl, rfl, rfl, rfl, HO1.out, hb.trans hb1, .inr (.inl rfl), by simp; omega, fun h => by omega, by rw [decide_eq_false (by omega : ¬ k + 1 = start)]; exact HX.out⟩
                  case measure => omega
          · rw [if_neg (by simp), if_neg (by simp), if_neg (by simp)] at hrd
            have HX : Hid (jrun false neg (rs ++ [(lo, lo)]) false 1 s[k] (s.data.toList.drop (k + 1)) = R) := hid (by rw [← hrd]; simp)
            clear hrd
            go_wp2_with (at_builtin; go_must (refine wpList_appR wr rfl (.tmp 74) (.tmp 78) 36 rfl Ycbm.underlying36 Ycbm.infoRange' w.heap.size _ rs (by rfl) HO.out lo lo _ rfl rfl (by omega) HB.out ?_); intro ao1 cp1 w1 hown1 hb1 hg1; have HO1 := hid hown1; clear hown1 hg1)
            go_roundg (s.size - (k + 1))
            case rel => exact ⟨k + 1, neg, _, false, 1, s[k], rfl, by omega, by omega, by go_num, rfl, rfl, rfl, rfl, HO1.out, hb.trans hb1, .inr (.inl rfl), by simp; omega, fun h => by omega, by rw [decide_eq_false (by omega : ¬ k + 1 = start)]; exact HX.out⟩
            case measure => omega
        · cases e
          · skip
            by_cases c92 : s[k].toNat = 92
            · rw [if_pos ⟨rfl, c92⟩] at hrd
              have HX := hid hrd
              clear hrd
              go_wp2_with fail
              go_roundg (s.size - (k + 1))
              case rel => exact ⟨k + 1, neg, rs, true, 2, lo, rfl, by omega, by omega, by go_num, rfl, rfl, rfl, rfl, HO.out, hb, .inr (.inr rfl), by omega, fun h => by omega, by rw [decide_eq_false (by omega : ¬ k + 1 = start)]; exact HX.out⟩
              case measure => omega
            · rw [if_neg (by simp [c92])] at hrd
              have f92 : ((s[k].toNat : Int) == 92) = false := beq_eq_false_iff_ne.2 (by omega)
              by_cases c93 : s[k].toNat = 93
              · rw [if_pos ⟨rfl, c93⟩] at hrd
                have HX : Hid (R = none) := hid (by rw [← hrd]; simp)
                clear hrd
                go_wp2_with fail
                exact bodyPost_ret (v := .tuple #[.bool false, .slice none 0 0, .int .i64 0, .bool false]) (by simp [results, Ycbm.results15, go_sem]) rfl (finNone.out _ HX.out hb)
              · rw [if_neg (by simp [c93])] at hrd
                have f93 : ((s[k].toNat : Int) == 93) = false := beq_eq_false_iff_ne.2 (by omega)
                by_cases c45 : s[k].toNat = 45
                · rw [if_pos ⟨rfl, c45⟩] at hrd
                  have HX : Hid (R = none) := hid (by rw [← hrd]; simp)
                  clear hrd
                  go_wp2_with fail
                  exact bodyPost_ret (v := .tuple #[.bool false, .slice none 0 0, .int .i64 0, .bool false]) (by simp [results, Ycbm.results15, go_sem]) rfl (finNone.out _ HX.out hb)
                · rw [if_neg (by simp [c45])] at hrd
                  have f45 : ((s[k].toNat : Int) == 45) = false := beq_eq_false_iff_ne.2 (by omega)
                  by_cases clt : s[k].toNat < lo.toNat
                  · have HX : Hid (R = none) := hid (by rw [← hrd]; simp [clt])
                    clear hrd
                    go_wp2_with fail
                    exact bodyPost_ret (v := .tuple #[.bool false, .slice none 0 0, .int .i64 0, .bool false]) (by simp [results, Ycbm.results15, go_sem]) rfl (finNone.out _ HX.out hb)
                  · have HX : Hid (jrun false neg (rs ++ [(lo, s[k])]) false 0 lo (s.data.toList.drop (k + 1)) = R) := hid (by rw [← hrd]; simp [clt])
                    clear hrd
                    go_wp2_with (at_builtin; go_must (refine wpList_appR wr rfl (.tmp 66) (.tmp 70) 36 rfl Ycbm.underlying36 Ycbm.infoRange' w.heap.size _ rs (by rfl) HO.out lo s[k] _ rfl rfl (by omega) HB.out ?_); intro ao1 cp1 w1 hown1 hb1 hg1; have HO1 := hid hown1; clear hown1 hg1)
                    go_roundg (s.size - (k + 1))
                    case rel => exact ⟨k + 1, neg, _, false, 0, lo, rfl, by omega, by omega, by go_num, rfl, rfl, rfl, rfl, HO1.out, hb.trans hb1, .inl rfl, by simp; omega, fun h => by omega, by rw [decide_eq_false (by omega : ¬ k + 1 = start)]; exact HX.out⟩
                    case measure => omega
          · rw [if_neg (by simp), if_neg (by simp), if_neg (by simp)] at hrd
            by_cases clt : s[k].toNat < lo.toNat
            · have HX : Hid (R = none) := hid (by rw [← hrd]; simp [clt])
              clear hrd
              go_wp2_with fail
              exact bodyPost_ret (v := .tuple #[.bool false, .slice none 0 0, .int .i64 0, .bool false]) (by simp [results, Ycbm.results15, go_sem]) rfl (finNone.out _ HX.out hb)
            · have HX : Hid (jrun false neg (rs ++ [(lo, s[k])]) false 0 lo (s.data.toList.drop (k + 1)) = R) := hid (by rw [← hrd]; simp [clt])
              clear hrd
              go_wp2_with (at_builtin; go_must (refine wpList_appR wr rfl (.tmp 66) (.tmp 70) 36 rfl Ycbm.underlying36 Ycbm.infoRange' w.heap.size _ rs (by rfl) HO.out lo s[k] _ rfl rfl (by omega) HB.out ?_); intro ao1 cp1 w1 hown1 hb1 hg1; have HO1 := hid hown1; clear hown1 hg1)
              go_roundg (s.size - (k + 1))
              case rel => exact ⟨k + 1, neg, _, false, 0, lo, rfl, by omega, by omega, by go_num, rfl, rfl, rfl, rfl, HO1.out, hb.trans hb1, .inl rfl, by simp; omega, fun h => by omega, by rw [decide_eq_false (by omega : ¬ k + 1 = start)]; exact HX.out⟩
              case measure => omega
    · have hrd := HRR.out
      rw [dropEnd s k (by omega)] at hrd
      have HX : Hid (R = none) := hid (by rw [← hrd]; rfl)
      clear hrd HRR hini
      go_wp2_with fail
      exact bodyPost_ret (v := .tuple #[.bool false, .slice none 0 0, .int .i64 0, .bool false]) (by simp [results, Ycbm.results15, go_sem]) rfl (finNone.out _ HX.out hb)
end Go.Proofs.Ymbrcb

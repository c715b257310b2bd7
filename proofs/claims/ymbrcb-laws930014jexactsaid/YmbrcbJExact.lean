import Derived.Test.YmbrcbJModel
import Derived.Test.YmbrcbReadClass
import Derived.Test.YmbrcbBytes1
import Derived.Test.YmbrcbAppendChar
import Derived.Lib.SliceRun
import Derived.Deep.QuietTactic
import Derived.BigQuiet
namespace Go.Proofs.Ymbrcb
open Go.RowKit

set_option maxHeartbeats 400000 in
theorem jzero_zero (w : World) : Calls Ycbm.prog 14 #[.agg #[.int .i64 0, .int .u8 0, .bool false, .slice none 0 0]] w fun e w' => e = .returned (.bool true) ∧ Below w.heap.size w w' := by
  have qT : ∀ (w : World) (a : Option Addr) (n c n' c' : Nat), (binOp .eql 36 (.slice a n c) (.slice none n' c')).run Ycbm.prog w = .ok (.bool a.isNone) w := fun w a n c n' c' => Lib.run_eql_slice_nil w 36 43 a n c n' c' Ycbm.underlying36
  go_enter Ycbm.func14, Ycbm.ntmps14
  go_wp2
  go_ret
  exact ⟨rfl, (Below.refl _ _).alloc (Nat.le_refl _) _⟩

theorem bne_u8_self (x : UInt8) : ((x.toNat : Int) != (x.toNat : Int)) = false := by simp

theorem RangesAt.openAt {w : World} {a : Option Addr} {rs : List (UInt8 × UInt8)} (hr : RangesAt w a rs) (h0 : rs ≠ []) :
    ∃ b off, a = some ⟨b, off, none⟩ ∧ ∀ k, k < rs.length → w.cell? ⟨b, off + k * 2, none⟩ = some (.int .u8 (rs.getD k (0, 0)).1.toNat) ∧ w.cell? ⟨b, off + k * 2 + 1, none⟩ = some (.int .u8 (rs.getD k (0, 0)).2.toNat) := by
  have hpos : 0 < rs.length := List.length_pos_iff.2 h0
  obtain ⟨b, off, ea, _, _⟩ := hr 0 hpos
  refine ⟨b, off, ea, fun k hk => ?_⟩
  obtain ⟨b', off', ea', g0, g1⟩ := hr k hk
  rw [ea] at ea'
  simp at ea'
  obtain ⟨rfl, rfl⟩ := ea'
  exact ⟨g0, g1⟩

set_option maxHeartbeats 4000000 in
set_option maxRecDepth 4000 in
theorem jexact (w : World) (raw : ByteArray) (hs : raw.size ≤ 9223372036854775807) (a : Option Addr) (n cap : Nat) (ps : List UInt8) (hl : ps.length = n) (hm : n ≤ cap ∧ cap ≤ 9223372036854775807) (hr : BytesAt w a ps) (closed : Bool) (z : Int) (hz : 0 ≤ z ∧ z ≤ 65535) :
    Calls Ycbm.prog 6 #[.string raw, .slice a n cap, .bool closed, .int .u16 z] w fun e w' => e = .returned (.bool true) ∧ Below w.heap.size w w' := by
  have hn : n ≤ 9223372036854775807 := Nat.le_trans hm.1 hm.2
  obtain ⟨hz0, hz1⟩ := hz
  clear hm
  by_cases hb1 : 1024 < raw.size
  · go_enter Ycbm.func6, Ycbm.ntmps6
    go_wp2_with fail
    go_ret
    exact ⟨rfl, Below.refl _ _⟩
  have q1 : decide ((1024 : Int) < (raw.size : Int)) = false := decide_eq_false (by omega)
  by_cases hb2 : 1024 < n
  · go_enter Ycbm.func6, Ycbm.ntmps6
    go_wp2_with fail
    go_ret
    exact ⟨rfl, Below.refl _ _⟩
  have q2 : decide ((1024 : Int) < (n : Int)) = false := decide_eq_false (by omega)
  have HR := hid hr
  have HL := hid hl
  clear hr hl
  go_enter Ycbm.func6, Ycbm.ntmps6
  go_wp2_with fail
  go_loopg [9, 10] (raw.size) (fun g v i wr => ∃ k : Nat, g = raw.size - k ∧ k ≤ raw.size ∧ i = .int .i64 k ∧ (∃ bl : List UInt8, bl.length = k ∧ OwnB wr w.heap.size v bl) ∧ Below w.heap.size w wr)
  case atStart => exact ⟨0, rfl, Nat.zero_le _, rfl, ⟨[], rfl, OwnB.nil _ _⟩, Below.refl _ _⟩
  case round =>
    obtain ⟨k, rfl, hk, rfl, ⟨bl, hbl, hown⟩, hb⟩ := hrel
    have HO := hid hown
    have HBL := hid hbl
    clear hown hbl
    by_cases hks : k < raw.size
    · go_wp2_with (at_builtin; go_must (refine wpList_appB1 wr rfl (.tmp 36) (.tmp 40) 22 rfl Ycbm.underlying22 Ycbm.info5 w.heap.size _ bl (by rfl) HO.out _ rfl (by rw [HBL.out]; omega) hb.size ?_); intro v1 w1 hown1 hb1; have HO1 := hid hown1; clear hown1)
      go_roundg (raw.size - (k + 1))
      case rel => exact ⟨k + 1, rfl, by omega, by go_num, ⟨_, by simp [HBL.out], HO1.out⟩, hb.trans hb1⟩
      case measure => omega
    · have hkk : k = raw.size := by omega
      have HK := hid hkk
      clear hkk
      go_wp2_with fail
      clear hks hk
      go_loopg [9, 11] n (fun g v i wr => ∃ k : Nat, g = n - k ∧ k ≤ n ∧ i = .int .i64 k ∧ (∃ bl : List UInt8, bl.length = raw.size + k ∧ OwnB wr w.heap.size v bl) ∧ Below w.heap.size w wr)
      case atStart => exact ⟨0, rfl, Nat.zero_le _, rfl, ⟨bl, by rw [HBL.out, HK.out]; omega, HO.out⟩, hb⟩
      case round =>
        clear HO HBL HK hb
        obtain ⟨k, rfl, hk, rfl, ⟨bl, hbl, hown⟩, hb⟩ := hrel
        have HO := hid hown
        have HBL := hid hbl
        clear hown hbl
        by_cases hkn : k < n
        · obtain ⟨b, off, rfl, g0⟩ := HR.out k (by rw [HL.out]; exact hkn)
          have c0 := (hb.cell (p := ⟨b, off + k, none⟩) (block_lt g0)).trans g0
          clear g0
          generalize ps.getD k 0 = c at c0
          have bc := c.toNat_lt
          have i0 : (0 : Int) ≤ (c.toNat : Int) % 10 := by omega
          have i1 : (c.toNat : Int) % 10 < 10 := by omega
          go_wp2_with (at_builtin; go_must (refine wpList_appB1 wr rfl (.tmp 48) (.tmp 56) 22 rfl Ycbm.underlying22 Ycbm.info5 w.heap.size _ bl (by rfl) HO.out _ rfl (by rw [HBL.out]; omega) hb.size ?_); intro v1 w1 hown1 hb1; have HO1 := hid hown1; clear hown1)
          go_roundg (n - (k + 1))
          case rel => exact ⟨k + 1, rfl, by omega, by go_num, ⟨_, by simp [HBL.out]; omega, HO1.out⟩, hb.trans hb1⟩
          case measure => omega
        · have hkk : k = n := by omega
          have HK := hid hkk
          clear hkk
          cases closed
          · have hconv := OwnB.conv (P := Ycbm.prog) HO.out 22 Ycbm.underlying22 Ycbm.underlying5 9 Ycbm.underlying9
            have hsz : (strOf bl).size ≤ 2100 := by rw [strOf_size]; rw [HBL.out, HK.out]; omega
            generalize strOf bl = s at hconv hsz
            obtain ⟨start, hst⟩ : ∃ k : Nat, z % ((s.size : Int) + 2) = k := ⟨(z % ((s.size : Int) + 2)).toNat, by have := Int.emod_nonneg z (show (s.size : Int) + 2 ≠ 0 by omega); omega⟩
            have hst1 : start ≤ s.size + 1 := by have := Int.emod_lt_of_pos z (show 0 < (s.size : Int) + 2 by omega); omega
            go_wp2_with fail
            have HST := hid hst
            clear hst
            refine (jmodel_any s start (by omega) hst1 _).mono ?_
            rintro e w2 hj
            rw [jrun_rdClass] at hj
            have hbW := hb
            rcases hj with ⟨hR, rfl, hbj⟩ | ⟨neg, rs, r, v2, hR, rfl, hoj, hbj⟩
            · have HRR := hid hR
              clear hR
              go_wp2_with fail
              refine (readClass_any s _ start HST.out (by omega) hst1 _).mono ?_
              rintro e w3 hc
              rcases hc with ⟨hR2, rfl, hbc⟩ | ⟨neg', rs', r', v', hR2, _⟩
              · have t1 := hbW.trans (hbj.mono hbW.size)
                have t2 := t1.trans (hbc.mono t1.size)
                go_wp2_with fail
                refine (jzero_zero _).mono ?_
                rintro e w4 ⟨rfl, hb4⟩
                go_wp2_with fail
                go_ret
                exact ⟨rfl, (t2.alloc t2.size _).trans (hb4.mono (t2.alloc t2.size _).size)⟩
              · rw [HRR.out] at hR2; cases hR2
            · have HRR := hid hR
              have hne : rs ≠ [] := (rdClass_drop hR).2.2
              clear hR
              obtain ⟨ao2, cp2, hv2, hcp2, hcp2', hba2⟩ := hoj.shape
              rw [hv2]
              have HBA2 := hid hba2
              clear hv2 hba2 hoj
              go_wp2_with fail
              refine (readClass_any s _ start HST.out (by omega) hst1 _).mono ?_
              rintro e w3 hc
              rcases hc with ⟨hR2, _⟩ | ⟨neg', rs', r', v', hR2, rfl, hoc, _, hbc⟩
              · rw [HRR.out] at hR2; cases hR2
              · rw [HRR.out] at hR2
                simp only [Option.some.injEq, Prod.mk.injEq] at hR2
                obtain ⟨e1, e2, e3⟩ := hR2
                subst e1 e2 e3
                have t1 := hbW.trans (hbj.mono hbW.size)
                have t2 := t1.trans (hbc.mono t1.size)
                obtain ⟨ao3, cp3, hv3, hcp3, hcp3', hba3⟩ := hoc.shape
                rw [hv3]
                have HBA3 := hid hba3
                obtain ⟨m, hmm⟩ : ∃ m, m = rs.length := ⟨_, rfl⟩
                have HM := hid hmm
                rw [← hmm] at hcp2 hcp3 ⊢
                obtain ⟨b3, off3, h3, hc3⟩ := (hba3).openAt hne
                obtain ⟨b2, off2, h2, hc2⟩ := (HBA2.out.below hbc).openAt hne
                rw [h2, h3]
                have HC2 := hid hc2
                have HC3 := hid hc3
                have nb := fun b : Bool => (show (b != b) = false by cases b <;> rfl)
                clear hv3 hba3 hoc hmm h2 h3 hc2 hc3 HBA2 HBA3
                have B3 := block_new w3 #[.int .i64 3, .int .u8 0, .bool neg, .slice (some ⟨b3, off3, none⟩) m cp3] 38
                have HB3 := hid B3
                clear B3
                go_wp2_with fail
                go_loopg [21] m (fun g i wr => ∃ k : Nat, g = m - k ∧ k ≤ m ∧ i = .int .i64 k ∧ Below (w3.heap.size + 1) (w3.alloc (.cells #[.int .i64 3, .int .u8 0, .bool neg, .slice (some ⟨b3, off3, none⟩) m cp3] 38)) wr)
                case atStart => exact ⟨0, rfl, Nat.zero_le _, rfl, Below.refl _ _⟩
                case round =>
                  obtain ⟨k, rfl, hk, rfl, hbr⟩ := hrel
                  have hsz3 : (w3.alloc (.cells #[.int .i64 3, .int .u8 0, .bool neg, .slice (some ⟨b3, off3, none⟩) m cp3] 38)).heap.size = w3.heap.size + 1 := by simp
                  by_cases hkm : k < m
                  · obtain ⟨g30, g31⟩ := HC3.out k (by rw [← HM.out]; exact hkm)
                    obtain ⟨g20, g21⟩ := HC2.out k (by rw [← HM.out]; exact hkm)
                    have hl3 : b3 < w3.heap.size := block_lt g30
                    have hl2 : b2 < w3.heap.size := block_lt g20
                    have up : ∀ (b o : Nat) (x : Value), b < w3.heap.size → w3.cell? ⟨b, o, none⟩ = some x → wr.cell? ⟨b, o, none⟩ = some x := by
                      intro b o x hb h
                      rw [hbr.cell (p := ⟨b, o, none⟩) (show b < w3.heap.size + 1 by omega), ((Below.refl w3.heap.size w3).alloc (Nat.le_refl _) _).cell (p := ⟨b, o, none⟩) hb]
                      exact h
                    have d30 := up _ _ _ hl3 g30
                    have d31 := up _ _ _ hl3 g31
                    have d20 := up _ _ _ hl2 g20
                    have d21 := up _ _ _ hl2 g21
                    have B4 := block_below hbr HB3.out (by omega)
                    have tz := cell_block B4 3
                    simp only [List.getElem?_toArray, List.getElem?_cons_zero, List.getElem?_cons_succ] at tz
                    generalize (rs.getD k (0, 0)).1 = x at d30 d20
                    generalize (rs.getD k (0, 0)).2 = y at d31 d21
                    have nx := bne_u8_self x
                    have ny := bne_u8_self y
                    have i1 : (k : Int) < (m : Int) := by omega
                    clear g30 g31 g20 g21 up B4 hsz3
                    go_wp2_with fail
                    go_quiet (fail)
                    go_wp2_with fail
                    go_roundg (m - (k + 1))
                    case rel => exact ⟨k + 1, rfl, by omega, by go_num, below_drewN hbr _⟩
                    case measure => omega
                  · go_wp2_with fail
                    go_ret
                    exact ⟨rfl, (t2.alloc t2.size _).trans (hbr.mono (by have := t2.size; omega))⟩
          · go_wp2_with (at_builtin; go_must (refine wpList_appB1 wr rfl (.tmp 59) (.tmp 60) 22 rfl Ycbm.underlying22 Ycbm.info5 w.heap.size _ bl (by rfl) HO.out 93 rfl (by rw [HBL.out]; omega) hb.size ?_); intro v1 w1 hown1 hb1; have HO1 := hid hown1; clear hown1; have hconv0 := hid (OwnB.conv (P := Ycbm.prog) HO1.out 22 Ycbm.underlying22 Ycbm.underlying5 9 Ycbm.underlying9); have hsz : (strOf (bl ++ [93])).size ≤ 2100 := (by rw [strOf_size]; simp [HBL.out, HK.out]; omega); generalize strOf (bl ++ [93]) = s at hconv0 hsz; have hconv := hconv0.out; obtain ⟨start, hst⟩ : ∃ k : Nat, z % ((s.size : Int) + 2) = k := ⟨(z % ((s.size : Int) + 2)).toNat, (by have := Int.emod_nonneg z (show (s.size : Int) + 2 ≠ 0 by omega); omega)⟩; have hst1 : start ≤ s.size + 1 := (by have := Int.emod_lt_of_pos z (show 0 < (s.size : Int) + 2 by omega); omega))
            have HST := hid hst
            clear hst
            refine (jmodel_any s start (by omega) hst1 _).mono ?_
            rintro e w2 hj
            rw [jrun_rdClass] at hj
            have hbW := hb.trans hb1
            rcases hj with ⟨hR, rfl, hbj⟩ | ⟨neg, rs, r, v2, hR, rfl, hoj, hbj⟩
            · have HRR := hid hR
              clear hR
              go_wp2_with fail
              refine (readClass_any s _ start HST.out (by omega) hst1 _).mono ?_
              rintro e w3 hc
              rcases hc with ⟨hR2, rfl, hbc⟩ | ⟨neg', rs', r', v', hR2, _⟩
              · have t1 := hbW.trans (hbj.mono hbW.size)
                have t2 := t1.trans (hbc.mono t1.size)
                go_wp2_with fail
                refine (jzero_zero _).mono ?_
                rintro e w4 ⟨rfl, hb4⟩
                go_wp2_with fail
                go_ret
                exact ⟨rfl, (t2.alloc t2.size _).trans (hb4.mono (t2.alloc t2.size _).size)⟩
              · rw [HRR.out] at hR2; cases hR2
            · have HRR := hid hR
              have hne : rs ≠ [] := (rdClass_drop hR).2.2
              clear hR
              obtain ⟨ao2, cp2, hv2, hcp2, hcp2', hba2⟩ := hoj.shape
              rw [hv2]
              have HBA2 := hid hba2
              clear hv2 hba2 hoj
              go_wp2_with fail
              refine (readClass_any s _ start HST.out (by omega) hst1 _).mono ?_
              rintro e w3 hc
              rcases hc with ⟨hR2, _⟩ | ⟨neg', rs', r', v', hR2, rfl, hoc, _, hbc⟩
              · rw [HRR.out] at hR2; cases hR2
              · rw [HRR.out] at hR2
                simp only [Option.some.injEq, Prod.mk.injEq] at hR2
                obtain ⟨e1, e2, e3⟩ := hR2
                subst e1 e2 e3
                have t1 := hbW.trans (hbj.mono hbW.size)
                have t2 := t1.trans (hbc.mono t1.size)
                obtain ⟨ao3, cp3, hv3, hcp3, hcp3', hba3⟩ := hoc.shape
                rw [hv3]
                have HBA3 := hid hba3
                obtain ⟨m, hmm⟩ : ∃ m, m = rs.length := ⟨_, rfl⟩
                have HM := hid hmm
                rw [← hmm] at hcp2 hcp3 ⊢
                obtain ⟨b3, off3, h3, hc3⟩ := (hba3).openAt hne
                obtain ⟨b2, off2, h2, hc2⟩ := (HBA2.out.below hbc).openAt hne
                rw [h2, h3]
                have HC2 := hid hc2
                have HC3 := hid hc3
                have nb := fun b : Bool => (show (b != b) = false by cases b <;> rfl)
                clear hv3 hba3 hoc hmm h2 h3 hc2 hc3 HBA2 HBA3
                have B3 := block_new w3 #[.int .i64 3, .int .u8 0, .bool neg, .slice (some ⟨b3, off3, none⟩) m cp3] 38
                have HB3 := hid B3
                clear B3
                go_wp2_with fail
                go_loopg [21] m (fun g i wr => ∃ k : Nat, g = m - k ∧ k ≤ m ∧ i = .int .i64 k ∧ Below (w3.heap.size + 1) (w3.alloc (.cells #[.int .i64 3, .int .u8 0, .bool neg, .slice (some ⟨b3, off3, none⟩) m cp3] 38)) wr)
                case atStart => exact ⟨0, rfl, Nat.zero_le _, rfl, Below.refl _ _⟩
                case round =>
                  obtain ⟨k, rfl, hk, rfl, hbr⟩ := hrel
                  have hsz3 : (w3.alloc (.cells #[.int .i64 3, .int .u8 0, .bool neg, .slice (some ⟨b3, off3, none⟩) m cp3] 38)).heap.size = w3.heap.size + 1 := by simp
                  by_cases hkm : k < m
                  · obtain ⟨g30, g31⟩ := HC3.out k (by rw [← HM.out]; exact hkm)
                    obtain ⟨g20, g21⟩ := HC2.out k (by rw [← HM.out]; exact hkm)
                    have hl3 : b3 < w3.heap.size := block_lt g30
                    have hl2 : b2 < w3.heap.size := block_lt g20
                    have up : ∀ (b o : Nat) (x : Value), b < w3.heap.size → w3.cell? ⟨b, o, none⟩ = some x → wr.cell? ⟨b, o, none⟩ = some x := by
                      intro b o x hb h
                      rw [hbr.cell (p := ⟨b, o, none⟩) (show b < w3.heap.size + 1 by omega), ((Below.refl w3.heap.size w3).alloc (Nat.le_refl _) _).cell (p := ⟨b, o, none⟩) hb]
                      exact h
                    have d30 := up _ _ _ hl3 g30
                    have d31 := up _ _ _ hl3 g31
                    have d20 := up _ _ _ hl2 g20
                    have d21 := up _ _ _ hl2 g21
                    have B4 := block_below hbr HB3.out (by omega)
                    have tz := cell_block B4 3
                    simp only [List.getElem?_toArray, List.getElem?_cons_zero, List.getElem?_cons_succ] at tz
                    generalize (rs.getD k (0, 0)).1 = x at d30 d20
                    generalize (rs.getD k (0, 0)).2 = y at d31 d21
                    have nx := bne_u8_self x
                    have ny := bne_u8_self y
                    have i1 : (k : Int) < (m : Int) := by omega
                    clear g30 g31 g20 g21 up B4 hsz3
                    go_wp2_with fail
                    go_quiet (fail)
                    go_wp2_with fail
                    go_roundg (m - (k + 1))
                    case rel => exact ⟨k + 1, rfl, by omega, by go_num, below_drewN hbr _⟩
                    case measure => omega
                  · go_wp2_with fail
                    go_ret
                    exact ⟨rfl, (t2.alloc t2.size _).trans (hbr.mono (by have := t2.size; omega))⟩
end Go.Proofs.Ymbrcb

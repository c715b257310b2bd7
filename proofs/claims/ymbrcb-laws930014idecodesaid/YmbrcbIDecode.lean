import Derived.Test.YmbrcbQuoteL
import Derived.Test.YmbrcbISpecial
import Derived.Test.YmbrcbBytes2
import Derived.Test.YmbrcbAid
import Derived.RegionTactic
import Derived.Deep.QuietTactic
import Derived.BigQuiet
namespace Go.Proofs.Ymbrcb
open Go.RowKit

theorem ispecial_val (c : UInt8) (b : Bool) (h : isSp c = b) (w : World) : Calls Ycbm.prog 8 #[.int .u8 c.toNat] w fun e w' => e = .returned (.bool b) ∧ w' = w := by
  subst h; exact ispecial_any c w

set_option maxHeartbeats 2000000 in
theorem idecode (w : World) (a : Option Addr) (n cap : Nat) (ps : List UInt8) (hl : ps.length = n) (hm : n ≤ cap ∧ cap ≤ 9223372036854775807) (hr : BytesAt w a ps) :
    Calls Ycbm.prog 3 #[.slice a n cap] w fun e w' => e = .returned (.bool true) ∧ Below w.heap.size w w' := by
  have hn : n ≤ 9223372036854775807 := Nat.le_trans hm.1 hm.2
  clear hm
  by_cases hbig : 1024 < n
  · go_enter Ycbm.func3, Ycbm.ntmps3
    go_wp2_with fail
    go_ret
    exact ⟨rfl, Below.refl _ _⟩
  have HR := hid hr
  have HL := hid hl
  clear hr hl
  go_enter Ycbm.func3, Ycbm.ntmps3
  go_wp2_with (at_make; go_must (refine wpList_makeB w rfl (.tmp 14) (.tmp 14) 22 rfl Ycbm.underlying22 Ycbm.info5 w.heap.size _ _ n rfl rfl rfl rfl (by omega) (Nat.le_refl _) ?_); intro w1 hown1 hb1)
  have HO1 := hid hown1
  clear hown1
  go_wp2_with fail
  go_loopw [4] (fun j wr => ∃ k : Nat, k ≤ n ∧ j = .int .i64 k ∧ (∃ sl : List UInt8, sl.length = n ∧ OwnB wr w.heap.size (.slice (some ⟨w.heap.size, 0, none⟩) n n) sl) ∧ Below w.heap.size w wr) (fun j _ => n - (intOf j).toNat)
  case atStart => exact ⟨0, Nat.zero_le _, rfl, ⟨_, by simp, HO1.out⟩, hb1⟩
  case round =>
    obtain ⟨k, hk, rfl, ⟨sl, hsl, hown⟩, hb⟩ := hrel
    have HO := hid hown
    have HSL := hid hsl
    clear hown hsl HO1 hb1
    by_cases hkn : k < n
    · obtain ⟨b, off, rfl, g0⟩ := HR.out k (by rw [HL.out]; exact hkn)
      have hbl : b < w.heap.size := block_lt g0
      have hne : ¬ b = w.heap.size := by omega
      have c0 := (hb.cell (p := ⟨b, off + k, none⟩) (block_lt g0)).trans g0
      clear g0
      have cB := OwnB.cellAt HO.out HSL.out k hkn
      have fB := OwnB.frozenAt HO.out HSL.out k
      generalize ps.getD k 0 = c at c0
      have hO2 := hid (OwnB.set HO.out HSL.out k c)
      have bc := c.toNat_lt
      by_cases h11 : c.toNat < 11
      · have i0 : (0 : Int) ≤ (c.toNat : Int) := by omega
        have i1 : (c.toNat : Int) < 11 := by omega
        go_wp2_with fail
        go_roundw
        case rel => exact ⟨k + 1, by omega, by go_num, ⟨_, by simp [HSL.out], OwnB.set hO2.out (by simp [HSL.out]) k _⟩, (hb.setCell (Nat.le_refl _) _).setCell (Nat.le_refl _) _⟩
        case measure => simp [intOf]; omega
      · go_wp2_with fail
        go_roundw
        case rel => exact ⟨k + 1, by omega, by go_num, ⟨_, by simp [HSL.out], hO2.out⟩, hb.setCell (Nat.le_refl _) _⟩
        case measure => simp [intOf]; omega
    · have hsrc : Hid (∀ j, j < n → wr.cell? ⟨w.heap.size, j, none⟩ = some (.int .u8 (sl.getD j 0).toNat)) := fun j hj => OwnB.cellAt HO.out HSL.out j hj
      clear HO
      go_wp2_with fail
      clear hkn hk
      rename World => wA
      go_loopw [5, 6] (fun v j wr => ∃ k : Nat, k ≤ n ∧ j = .int .i64 k ∧ OwnB wr wA.heap.size v (quote (sl.take k)) ∧ Below wA.heap.size wA wr) (fun _ j _ => n - (intOf j).toNat)
      case atStart => exact ⟨0, Nat.zero_le _, rfl, OwnB.nil _ _, Below.refl _ _⟩
      case round =>
        obtain ⟨k, hk, rfl, hown, hb2⟩ := hrel
        have HO := hid hown
        clear hown
        by_cases hkn : k < n
        · have g0 := hsrc.out k hkn
          have c0 := (hb2.cell (p := ⟨w.heap.size, k, none⟩) (block_lt g0)).trans g0
          clear g0
          have hlen : (quote (sl.take k)).length ≤ 2048 := by
            have := quote_length (sl.take k)
            have h2 : (sl.take k).length ≤ k := List.length_take_le _ _
            omega
          have HS := hid (quote_take_succ sl k (by rw [HSL.out]; exact hkn))
          have hg : sl[k]'(by rw [HSL.out]; exact hkn) = sl.getD k 0 := by
            rw [List.getD_eq_getElem?_getD, List.getElem?_eq_getElem (by rw [HSL.out]; exact hkn)]; rfl
          rw [hg] at HS
          generalize sl.getD k 0 = c at c0 HS
          clear hg
          go_wp2_with fail
          refine (appendChar_any wA.heap.size _ _ c _ HO.out hb2.size (by omega)).mono ?_
          rintro e w3 ⟨v3, rfl, hown3, hb3⟩
          rw [← HS.out] at hown3
          have HO3 := hid hown3
          clear hown3
          go_wp2_with fail
          go_roundw
          case rel => exact ⟨k + 1, by omega, by go_num, HO3.out, hb2.trans hb3⟩
          case measure => simp [intOf]; omega
        · have hkk : sl.take k = sl := List.take_of_length_le (by rw [HSL.out]; omega)
          have hown := HO.out
          rw [hkk] at hown
          obtain ⟨ao, cp, hv, hcp, hcp2, hba⟩ := hown.shape
          rw [hv]
          have HBA := hid hba
          clear HO hown hv hba hkk
          have hq := quote_length sl
          rw [HSL.out] at hq
          obtain ⟨m, hmq⟩ : ∃ m, m = (quote sl).length := ⟨_, rfl⟩
          rw [← hmq] at hcp hq ⊢
          have HM := hid hmq
          clear hmq
          have hbt := hb.trans (hb2.mono hb.size)
          go_wp2_with fail
          clear hkn hk
          rename World => wB
          go_loopw [7, 8] (fun p j wr => ∃ k q : Nat, k ≤ n ∧ j = .int .i64 k ∧ p = .int .i64 q ∧ q = (quote (sl.take k)).length ∧ Below wB.heap.size wB wr) (fun _ j _ => n - (intOf j).toNat)
          case atStart => exact ⟨0, 0, Nat.zero_le _, rfl, rfl, rfl, Below.refl _ _⟩
          case round =>
            obtain ⟨k, q, hk, rfl, rfl, hq0, hb3⟩ := hrel
            have HQ := hid hq0
            clear hq0
            by_cases hkn : k < n
            · have g0 := hsrc.out k hkn
              have g1 := (hb2.cell (p := ⟨w.heap.size, k, none⟩) (block_lt g0)).trans g0
              have cS := (hb3.cell (p := ⟨w.heap.size, k, none⟩) (block_lt g1)).trans g1
              clear g0 g1
              rcases quote_atL sl k q (by rw [HSL.out]; exact hkn) HQ.out with ⟨hsp, hlt, q0, q1, hl⟩ | ⟨hsp, hlt, q0, hl⟩
              · rw [← HM.out] at hlt
                obtain ⟨b2, off2, rfl, f0⟩ := HBA.out q (by rw [← HM.out]; omega)
                obtain ⟨b2', off2', ea, f1⟩ := HBA.out (q + 1) (by rw [← HM.out]; omega)
                simp at ea
                obtain ⟨rfl, rfl⟩ := ea
                rw [q0] at f0
                rw [q1] at f1
                have d0 := (hb3.cell (p := ⟨b2, off2 + q, none⟩) (block_lt f0)).trans f0
                have d1 := (hb3.cell (p := ⟨b2, off2 + (q + 1), none⟩) (block_lt f1)).trans f1
                rw [show ((92 : UInt8).toNat : Int) = 92 from rfl] at d0
                have HL2 := hid hl
                generalize sl.getD k 0 = c at cS d1 hsp
                have HSp := hid hsp
                clear f0 f1 q0 q1 hl hsp
                have i0 : (0 : Int) ≤ (q : Int) + 1 := by omega
                have i1 : (q : Int) + 1 < (m : Int) := by omega
                have i2 : (k : Int) < (n : Int) := by omega
                go_wp2_with fail
                go_quiet ((go_at_call 8; exact Calls.quiet_of_same (ispecial_val c true HSp.out _)))
                go_wp2_with fail
                go_roundw
                case rel => exact ⟨k + 1, q + 2, by omega, by go_num, by go_num, HL2.out.symm, below_drewN hb3 _⟩
                case measure => simp [intOf]; omega
              · rw [← HM.out] at hlt
                obtain ⟨b2, off2, rfl, f0⟩ := HBA.out q (by rw [← HM.out]; omega)
                rw [q0] at f0
                have d0 := (hb3.cell (p := ⟨b2, off2 + q, none⟩) (block_lt f0)).trans f0
                have HL2 := hid hl
                generalize sl.getD k 0 = c at cS d0 hsp
                have HSp := hid hsp
                have g92 : ((c.toNat : Int) == 92) = false := by
                  refine beq_eq_false_iff_ne.2 fun e => ?_
                  have : c = 92 := UInt8.toNat_inj.1 (by simpa using (by omega : c.toNat = 92))
                  rw [this] at hsp
                  simp [isSp] at hsp
                clear f0 q0 hl hsp
                have i1 : (q : Int) < (m : Int) := by omega
                have i2 : (k : Int) < (n : Int) := by omega
                go_wp2_with fail
                go_quiet ((go_at_call 8; exact Calls.quiet_of_same (ispecial_val c false HSp.out _)))
                go_wp2_with fail
                go_roundw
                case rel => exact ⟨k + 1, q + 1, by omega, by go_num, by go_num, HL2.out.symm, below_drewN hb3 _⟩
                case measure => simp [intOf]; omega
            · have hkk : sl.take k = sl := List.take_of_length_le (by rw [HSL.out]; omega)
              have hqm : q = m := by rw [HQ.out, hkk, HM.out]
              subst hqm
              clear hkk
              go_wp2_with fail
              go_ret
              exact ⟨ret_bool (by simp), hbt.trans (hb3.mono hbt.size)⟩
end Go.Proofs.Ymbrcb

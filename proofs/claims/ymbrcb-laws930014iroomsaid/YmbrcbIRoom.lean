import Derived.Test.YmbrcbRoom
import Derived.RegionTactic
import Derived.Deep.QuietTactic
import Derived.BigQuiet
namespace Go.Proofs.Ymbrcb
open Go.RowKit

theorem BytesAt.openAt {w : World} {a : Option Addr} {bs : List UInt8} (h : BytesAt w a bs) (h0 : 0 < bs.length) : ∃ b off, a = some ⟨b, off, none⟩ ∧ ∀ k, k < bs.length → w.cell? ⟨b, off + k, none⟩ = some (.int .u8 (bs.getD k 0).toNat) := by
  obtain ⟨b, off, e, _⟩ := h 0 h0
  refine ⟨b, off, e, fun k hk => ?_⟩
  obtain ⟨b', off', e', g⟩ := h k hk
  rw [e] at e'
  simp at e'
  obtain ⟨rfl, rfl⟩ := e'
  exact g

theorem esc_sp (d : UInt8) (h : isSp d = true) : esc d = [92, d] := by simp [esc, h]
theorem esc_no (d : UInt8) (h : isSp d = false) : esc d = [d] := by simp [esc, h]

theorem bne_u8_self (x : UInt8) : ((x.toNat : Int) != (x.toNat : Int)) = false := by simp

set_option maxHeartbeats 2000000 in
theorem iroom (w : World) (a : Option Addr) (n cap : Nat) (ps : List UInt8) (hl : ps.length = n) (hm : n ≤ cap ∧ cap ≤ 9223372036854775807) (hr : BytesAt w a ps) (z : Int) (hz : 0 ≤ z ∧ z ≤ 65535) (sel c : UInt8) :
    Calls Ycbm.prog 4 #[.slice a n cap, .int .u16 z, .int .u8 sel.toNat, .int .u8 c.toNat] w fun e w' => e = .returned (.bool true) ∧ Below w.heap.size w w' := by
  have hn : n ≤ 9223372036854775807 := Nat.le_trans hm.1 hm.2
  obtain ⟨hz0, hz1⟩ := hz
  clear hm
  by_cases hbig : 1024 < n
  · go_enter Ycbm.func4, Ycbm.ntmps4
    go_wp2_with fail
    go_ret
    exact ⟨rfl, Below.refl _ _⟩
  obtain ⟨k, hk⟩ : ∃ k : Nat, z % ((n : Int) + 1) = k := ⟨(z % ((n : Int) + 1)).toNat, by have := Int.emod_nonneg z (show (n : Int) + 1 ≠ 0 by omega); omega⟩
  have hkn : k ≤ n := by have := Int.emod_lt_of_pos z (show 0 < (n : Int) + 1 by omega); omega
  have HR := hid hr
  have HL := hid hl
  clear hr hl
  go_enter Ycbm.func4, Ycbm.ntmps4
  go_wp2_with fail
  refine (ichoose_any sel c _).mono ?_
  rintro e w1 ⟨⟨d, rfl⟩, rfl⟩
  go_wp2_with fail
  refine (icopy_any a n cap ps (by omega) HL.out _ HR.out).mono ?_
  rintro e w2 ⟨v, rfl, hv, hown, hb⟩
  rcases hv with rfl | rfl
  · have hp0 : ps = [] := by
      obtain ⟨_, h | ⟨g, cp, cur, h, _⟩⟩ := hown
      · exact List.length_eq_zero_iff.1 h.2
      · simp at h
    have hn0 : n = 0 := by rw [← HL.out, hp0]; rfl
    subst hn0
    have hk0 : k = 0 := by omega
    subst hk0
    have HO := hid hown
    clear hown
    go_wp2_with fail
    refine (appendChar_any w1.heap.size _ _ d _ (OwnB.nil _ _) hb.size (by simp)).mono ?_
    rintro e w3 ⟨v3, rfl, hown3, hb3⟩
    have hbt := hb.trans hb3
    obtain ⟨ao, cp, hv3, hcp, hcp2, hba⟩ := hown3.shape
    rw [hv3]
    simp only [List.nil_append] at hba hcp ⊢
    obtain ⟨b2, off2, hao, hcells⟩ := hba.openAt (by unfold esc; split <;> simp)
    rw [hao]
    have HC := hid hcells
    clear hown3 hb3 hb HO hba hao hcells hv3
    cases hsp : isSp d with
    | true =>
      have HSp := hid hsp
      rw [esc_sp d hsp] at HC hcp ⊢
      have cl : w3.cell? ⟨b2, off2 + 1, none⟩ = some (.int .u8 d.toNat) := HC.out 1 (by simp)
      simp only [List.length_cons, List.length_nil, Nat.zero_add] at hcp ⊢
      clear hsp
      go_wp2_with fail
      refine (ispecial_any d _).mono ?_
      rintro e w4 ⟨rfl, rfl⟩
      rw [HSp.out]
      go_wp2_with fail
      refine wp_loop_rounds 1 ?_
      rw [rounds_succ]
      go_wp2_with fail
      go_ret
      exact ⟨rfl, hbt⟩
    | false =>
      have HSp := hid hsp
      rw [esc_no d hsp] at HC hcp ⊢
      have cl : w3.cell? ⟨b2, off2, none⟩ = some (.int .u8 d.toNat) := HC.out 0 (by simp)
      simp only [List.length_cons, List.length_nil, Nat.zero_add] at hcp ⊢
      clear hsp
      go_wp2_with fail
      refine (ispecial_any d _).mono ?_
      rintro e w4 ⟨rfl, rfl⟩
      rw [HSp.out]
      go_wp2_with fail
      refine wp_loop_rounds 1 ?_
      rw [rounds_succ]
      go_wp2_with fail
      go_ret
      exact ⟨rfl, hbt⟩
  · have HO := hid hown
    clear hown
    go_wp2_with fail
    refine (appendChar_room w1.heap.size w1.heap.size k n ps d _ HO.out HL.out hkn (by omega) hb.size).mono ?_
    rintro e w3 ⟨ao, cp, F, rfl, hba, hov, hown3, hb3⟩
    have hbt := hb.trans hb3
    have HOv := hid hov
    have HF : Hid (∀ i, i < n → w3.cell? ⟨w1.heap.size, i, none⟩ = some (.int .u8 (F.getD i 0).toNat)) := fun i hi => OwnB.cellAt hown3 hov.1 i hi
    obtain ⟨b2, off2, hao, hcells⟩ := hba.openAt (by unfold esc; split <;> simp)
    rw [hao]
    have HC := hid hcells
    clear hov hown3 hb3 hb HO hba hao hcells
    cases hsp : isSp d with
    | true =>
      have HSp := hid hsp
      have he := esc_sp d hsp
      rw [he] at HC HOv ⊢
      have hgl : (ps.take k ++ [92, d]).length = k + 2 := by simp [HL.out]; omega
      rw [hgl] at HC
      have cl : w3.cell? ⟨b2, off2 + (k + 1), none⟩ = some (.int .u8 d.toNat) := by
        rw [HC.out (k + 1) (by omega), getD_app, if_neg (by simp [HL.out]; omega)]
        have : k + 1 - (ps.take k).length = 1 := by simp [HL.out]; omega
        rw [this]
        rfl
      simp only [List.length_cons, List.length_nil, Nat.zero_add] at HOv ⊢
      clear hsp he hgl
      go_wp2_with fail
      refine (ispecial_any d _).mono ?_
      rintro e w4 ⟨rfl, rfl⟩
      rw [HSp.out]
      go_wp2_with fail
      go_loopw [13] (fun j wr => ∃ i : Nat, i ≤ n ∧ j = .int .i64 i ∧ Below w4.heap.size w4 wr) (fun j _ => n - (intOf j).toNat)
      case atStart => exact ⟨0, Nat.zero_le _, rfl, Below.refl _ _⟩
      case round =>
        obtain ⟨i, hi, rfl, hbr⟩ := hrel
        have hbw := hbt.trans (hbr.mono hbt.size)
        by_cases hin : i < n
        · obtain ⟨b, off, rfl, g0⟩ := HR.out i (by rw [HL.out]; exact hin)
          have cP := (hbw.cell (p := ⟨b, off + i, none⟩) (block_lt g0)).trans g0
          have g1 := HF.out i hin
          have cF := (hbr.cell (p := ⟨w1.heap.size, i, none⟩) (block_lt g1)).trans g1
          clear g0 g1
          have i1 : (i : Int) < (n : Int) := by omega
          by_cases hie : i < k + 2
          · have g2 := HC.out i (by omega)
            have cG := (hbr.cell (p := ⟨b2, off2 + i, none⟩) (block_lt g2)).trans g2
            rw [← HOv.out.2.2 i hin (by omega)] at cG
            clear g2
            have i2 : (i : Int) < ((k : Int) + 2) := by omega
            by_cases hik : i < k
            · rw [← HOv.out.2.1 i hin (.inl hik)] at cP
              generalize F.getD i 0 = x at cP cF cG
              have d1 : decide (i < k) = true := decide_eq_true hik
              have nb := bne_u8_self x
              go_wp2_with fail
              go_quiet (fail)
              go_wp2_with fail
              go_quiet (fail)
              go_wp2_with fail
              go_roundw
              case rel => exact ⟨i + 1, by omega, by go_num, below_drewN hbr _⟩
              case measure => simp [intOf]; omega
            · generalize F.getD i 0 = x at cF cG
              have d1 : decide (i < k) = false := decide_eq_false hik
              have d2 : decide ((k : Int) + 2 ≤ (i : Int)) = false := decide_eq_false (by omega)
              have nb := bne_u8_self x
              go_wp2_with fail
              go_quiet (fail)
              go_wp2_with fail
              go_roundw
              case rel => exact ⟨i + 1, by omega, by go_num, below_drewN hbr _⟩
              case measure => simp [intOf]; omega
          · rw [← HOv.out.2.1 i hin (.inr (by omega))] at cP
            generalize F.getD i 0 = x at cP cF
            have d1 : decide (i < k) = false := decide_eq_false (by omega)
            have d2 : decide ((k : Int) + 2 ≤ (i : Int)) = true := decide_eq_true (by omega)
            have d3 : decide ((i : Int) < (k : Int) + 2) = false := decide_eq_false (by omega)
            have nb := bne_u8_self x
            go_wp2_with fail
            go_quiet (fail)
            go_wp2_with fail
            go_quiet (fail)
            go_wp2_with fail
            go_roundw
            case rel => exact ⟨i + 1, by omega, by go_num, below_drewN hbr _⟩
            case measure => simp [intOf]; omega
        · go_wp2_with fail
          go_ret
          exact ⟨rfl, hbw⟩
    | false =>
      have HSp := hid hsp
      have he := esc_no d hsp
      rw [he] at HC HOv ⊢
      have hgl : (ps.take k ++ [d]).length = k + 1 := by simp [HL.out]; omega
      rw [hgl] at HC
      have cl : w3.cell? ⟨b2, off2 + k, none⟩ = some (.int .u8 d.toNat) := by
        rw [HC.out k (by omega), getD_app, if_neg (by simp [HL.out]; omega)]
        have : k - (ps.take k).length = 0 := by simp [HL.out]; omega
        rw [this]
        rfl
      simp only [List.length_cons, List.length_nil, Nat.zero_add] at HOv ⊢
      clear hsp he hgl
      go_wp2_with fail
      refine (ispecial_any d _).mono ?_
      rintro e w4 ⟨rfl, rfl⟩
      rw [HSp.out]
      go_wp2_with fail
      go_loopw [13] (fun j wr => ∃ i : Nat, i ≤ n ∧ j = .int .i64 i ∧ Below w4.heap.size w4 wr) (fun j _ => n - (intOf j).toNat)
      case atStart => exact ⟨0, Nat.zero_le _, rfl, Below.refl _ _⟩
      case round =>
        obtain ⟨i, hi, rfl, hbr⟩ := hrel
        have hbw := hbt.trans (hbr.mono hbt.size)
        by_cases hin : i < n
        · obtain ⟨b, off, rfl, g0⟩ := HR.out i (by rw [HL.out]; exact hin)
          have cP := (hbw.cell (p := ⟨b, off + i, none⟩) (block_lt g0)).trans g0
          have g1 := HF.out i hin
          have cF := (hbr.cell (p := ⟨w1.heap.size, i, none⟩) (block_lt g1)).trans g1
          clear g0 g1
          have i1 : (i : Int) < (n : Int) := by omega
          by_cases hie : i < k + 1
          · have g2 := HC.out i (by omega)
            have cG := (hbr.cell (p := ⟨b2, off2 + i, none⟩) (block_lt g2)).trans g2
            rw [← HOv.out.2.2 i hin (by omega)] at cG
            clear g2
            have i2 : (i : Int) < ((k : Int) + 1) := by omega
            by_cases hik : i < k
            · rw [← HOv.out.2.1 i hin (.inl hik)] at cP
              generalize F.getD i 0 = x at cP cF cG
              have d1 : decide (i < k) = true := decide_eq_true hik
              have nb := bne_u8_self x
              go_wp2_with fail
              go_quiet (fail)
              go_wp2_with fail
              go_quiet (fail)
              go_wp2_with fail
              go_roundw
              case rel => exact ⟨i + 1, by omega, by go_num, below_drewN hbr _⟩
              case measure => simp [intOf]; omega
            · generalize F.getD i 0 = x at cF cG
              have d1 : decide (i < k) = false := decide_eq_false hik
              have d2 : decide ((k : Int) + 1 ≤ (i : Int)) = false := decide_eq_false (by omega)
              have nb := bne_u8_self x
              go_wp2_with fail
              go_quiet (fail)
              go_wp2_with fail
              go_roundw
              case rel => exact ⟨i + 1, by omega, by go_num, below_drewN hbr _⟩
              case measure => simp [intOf]; omega
          · rw [← HOv.out.2.1 i hin (.inr (by omega))] at cP
            generalize F.getD i 0 = x at cP cF
            have d1 : decide (i < k) = false := decide_eq_false (by omega)
            have d2 : decide ((k : Int) + 1 ≤ (i : Int)) = true := decide_eq_true (by omega)
            have d3 : decide ((i : Int) < (k : Int) + 1) = false := decide_eq_false (by omega)
            have nb := bne_u8_self x
            go_wp2_with fail
            go_quiet (fail)
            go_wp2_with fail
            go_quiet (fail)
            go_wp2_with fail
            go_roundw
            case rel => exact ⟨i + 1, by omega, by go_num, below_drewN hbr _⟩
            case measure => simp [intOf]; omega
        · go_wp2_with fail
          go_ret
          exact ⟨rfl, hbw⟩
end Go.Proofs.Ymbrcb

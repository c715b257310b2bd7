import Derived.Test.YmbrcaISmall
import Derived.Test.YmbrcaISpecial
import Derived.RegionTactic
namespace Go.Proofs.Ymbrca
open Go.RowKit

theorem getD_append_left (l m : List UInt8) (k : Nat) (h : k < l.length) : (l ++ m).getD k 0 = l.getD k 0 := by
  simp only [List.getD_eq_getElem?_getD]
  rw [List.getElem?_append_left h]
theorem getD_append_at (l m : List UInt8) (j : Nat) : (l ++ m).getD (l.length + j) 0 = m.getD j 0 := by
  simp only [List.getD_eq_getElem?_getD]
  rw [List.getElem?_append_right (by omega)]
  simp

theorem BytesAt.openAt {w : World} {a : Option Addr} {bs : List UInt8} (h : BytesAt w a bs) (h0 : 0 < bs.length) : ∃ b off, a = some ⟨b, off, none⟩ ∧ ∀ k, k < bs.length → w.cell? ⟨b, off + k, none⟩ = some (.int .u8 (bs.getD k 0).toNat) := by
  obtain ⟨b, off, e, _⟩ := h 0 h0
  refine ⟨b, off, e, fun k hk => ?_⟩
  obtain ⟨b', off', e', g⟩ := h k hk
  rw [e] at e'
  simp at e'
  obtain ⟨rfl, rfl⟩ := e'
  exact g

set_option maxHeartbeats 1000000 in
theorem iexact (w : World) (a : Option Addr) (n cap : Nat) (ps : List UInt8) (hl : ps.length = n) (hm : n ≤ cap ∧ cap ≤ 9223372036854775807) (hr : BytesAt w a ps) (sel c : UInt8) :
    Calls Ycam.prog 14 #[.slice a n cap, .int .u8 sel.toNat, .int .u8 c.toNat] w fun e w' => e = .returned (.bool true) ∧ Below w.heap.size w w' := by
  have hn : n ≤ 9223372036854775807 := Nat.le_trans hm.1 hm.2
  clear hm
  by_cases hbig : 1024 < n
  · go_enter Ycam.func14, Ycam.ntmps14
    go_wp2_with fail
    go_ret
    exact ⟨rfl, Below.refl _ _⟩
  have HR := hid hr
  have HL := hid hl
  clear hr hl
  go_enter Ycam.func14, Ycam.ntmps14
  go_wp2_with fail
  refine (ichoose_any sel c _).mono ?_
  rintro e w1 ⟨⟨d, rfl⟩, rfl⟩
  go_wp2_with fail
  refine (icopy_any a n cap ps (by omega) HL.out _ HR.out).mono ?_
  rintro e w2 ⟨v, rfl, _, hown, hb⟩
  have HO := hid hown
  clear hown
  go_wp2_with fail
  refine (appendChar_any w1.heap.size _ _ d _ HO.out hb.size (by rw [HL.out]; omega)).mono ?_
  rintro e w3 ⟨v2, rfl, hown2, hb2⟩
  have hbt := hb.trans hb2
  clear hb hb2 HO
  obtain ⟨ao, cp, hv, hcp, hcp2, hba⟩ := hown2.shape
  rw [hv]
  obtain ⟨b2, off2, hao, hcells⟩ := hba.openAt (by unfold esc; split <;> simp)
  rw [hao]
  have HC := hid hcells
  clear hown2 hv hba hao hcells
  cases hsp : isSp d with
  | true =>
    have HSp := hid hsp
    have hes : Hid (ps ++ esc d = ps ++ [92, d]) := hid (by simp [esc, hsp])
    have hlen : Hid ((ps ++ esc d).length = n + 2) := hid (by rw [hes.out]; simp [HL.out])
    rw [hlen.out] at hcp ⊢
    have c92 : w3.cell? ⟨b2, off2 + n, none⟩ = some (.int .u8 92) := by
      have := HC.out n (by rw [hlen.out]; omega)
      rw [this, hes.out, ← HL.out]
      have e := getD_append_at ps [92, d] 0
      simp only [Nat.add_zero] at e
      rw [e]
      rfl
    have cd : w3.cell? ⟨b2, off2 + (n + 1), none⟩ = some (.int .u8 d.toNat) := by
      have := HC.out (n + 1) (by rw [hlen.out]; omega)
      rw [this, hes.out, ← HL.out, getD_append_at ps [92, d] 1]
      rfl
    have hcell : Hid (∀ k, k < n → w3.cell? ⟨b2, off2 + k, none⟩ = some (.int .u8 (ps.getD k 0).toNat)) := by
      intro k hk
      rw [HC.out k (by rw [hlen.out]; omega), getD_append_left _ _ _ (by rw [HL.out]; exact hk)]
    clear hsp HC hes hlen
    go_wp2_with fail
    refine (ispecial_any d _).mono ?_
    rintro e w4 ⟨rfl, rfl⟩
    rw [HSp.out]
    go_wp2_with fail
    go_loopw [9] (fun j wr => ∃ k : Nat, k ≤ n ∧ j = .int .i64 k ∧ Below w4.heap.size w4 wr) (fun j _ => n - (intOf j).toNat)
    case atStart => exact ⟨0, Nat.zero_le _, rfl, Below.refl _ _⟩
    case round =>
      obtain ⟨k, hk, rfl, hbr⟩ := hrel
      have hbw := hbt.trans (hbr.mono hbt.size)
      by_cases hkn : k < n
      · obtain ⟨b, off, rfl, g0⟩ := HR.out k (by rw [HL.out]; exact hkn)
        have cP := (hbw.cell (p := ⟨b, off + k, none⟩) (block_lt g0)).trans g0
        have g1 := hcell.out k hkn
        have cG := (hbr.cell (p := ⟨b2, off2 + k, none⟩) (block_lt g1)).trans g1
        generalize ps.getD k 0 = x at cP cG
        clear g0 g1
        have i1 : (k : Int) < (n : Int) + 2 := by omega
        have i2 : (k : Int) < (n : Int) := by omega
        go_wp2_with fail
        go_region
        all_goals
          go_wp2_with fail
          go_roundw
          case rel => exact ⟨k + 1, by omega, by go_num, hbr.drew⟩
          case measure => simp [intOf]; omega
      · go_wp2_with fail
        go_ret
        exact ⟨rfl, hbw⟩
  | false =>
    have HSp := hid hsp
    have hes : Hid (ps ++ esc d = ps ++ [d]) := hid (by simp [esc, hsp])
    have hlen : Hid ((ps ++ esc d).length = n + 1) := hid (by rw [hes.out]; simp [HL.out])
    rw [hlen.out] at hcp ⊢
    have cd : w3.cell? ⟨b2, off2 + n, none⟩ = some (.int .u8 d.toNat) := by
      have := HC.out n (by rw [hlen.out]; omega)
      rw [this, hes.out, ← HL.out]
      have e := getD_append_at ps [d] 0
      simp only [Nat.add_zero] at e
      rw [e]
      rfl
    have hcell : Hid (∀ k, k < n → w3.cell? ⟨b2, off2 + k, none⟩ = some (.int .u8 (ps.getD k 0).toNat)) := by
      intro k hk
      rw [HC.out k (by rw [hlen.out]; omega), getD_append_left _ _ _ (by rw [HL.out]; exact hk)]
    clear hsp HC hes hlen
    go_wp2_with fail
    refine (ispecial_any d _).mono ?_
    rintro e w4 ⟨rfl, rfl⟩
    rw [HSp.out]
    go_wp2_with fail
    go_loopw [9] (fun j wr => ∃ k : Nat, k ≤ n ∧ j = .int .i64 k ∧ Below w4.heap.size w4 wr) (fun j _ => n - (intOf j).toNat)
    case atStart => exact ⟨0, Nat.zero_le _, rfl, Below.refl _ _⟩
    case round =>
      obtain ⟨k, hk, rfl, hbr⟩ := hrel
      have hbw := hbt.trans (hbr.mono hbt.size)
      by_cases hkn : k < n
      · obtain ⟨b, off, rfl, g0⟩ := HR.out k (by rw [HL.out]; exact hkn)
        have cP := (hbw.cell (p := ⟨b, off + k, none⟩) (block_lt g0)).trans g0
        have g1 := hcell.out k hkn
        have cG := (hbr.cell (p := ⟨b2, off2 + k, none⟩) (block_lt g1)).trans g1
        generalize ps.getD k 0 = x at cP cG
        clear g0 g1
        have i1 : (k : Int) < (n : Int) + 1 := by omega
        have i2 : (k : Int) < (n : Int) := by omega
        go_wp2_with fail
        go_region
        all_goals
          go_wp2_with fail
          go_roundw
          case rel => exact ⟨k + 1, by omega, by go_num, hbr.drew⟩
          case measure => simp [intOf]; omega
      · go_wp2_with fail
        go_ret
        exact ⟨rfl, hbw⟩
end Go.Proofs.Ymbrca

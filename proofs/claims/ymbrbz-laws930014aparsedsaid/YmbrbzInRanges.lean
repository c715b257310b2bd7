import Derived.Test.YmbrbzProg
import Derived.Test.YmbrbzCommon
import Derived.WalkKit
import Derived.WalkSpells
import Derived.WalkLawsBesides
namespace Go.Proofs.Ymbrbz
open Go.RowKit

set_option maxHeartbeats 400000 in
theorem inRanges_any (a : Option Addr) (n cap : Nat) (rs : List (UInt8 × UInt8)) (hn : n ≤ 9223372036854775807) (hl : rs.length = n) (c : UInt8) (w : World) (hr : RangesAt w a rs) :
    Calls Ybzm.prog 33 #[.slice a n cap, .int .u8 c.toNat] w fun e w' => e = .returned (.bool (inR rs c)) ∧ Below w.heap.size w w' := by
  by_cases h0 : rs = []
  · subst h0
    simp at hl
    subst hl
    go_enter Ybzm.func33, Ybzm.ntmps33
    go_wp2
    refine wp_loop_rounds 1 ?_
    rw [rounds_succ]
    go_wp2
    go_ret
    exact ⟨rfl, Below.refl _ _⟩
  · have hpos : 0 < rs.length := List.length_pos_iff.2 h0
    obtain ⟨b, off, ea, _, _⟩ := hr 0 hpos
    have hb' : ∀ k, k < rs.length → w.cell? ⟨b, off + k * 2, none⟩ = some (.int .u8 (rs.getD k (0, 0)).1.toNat) ∧ w.cell? ⟨b, off + k * 2 + 1, none⟩ = some (.int .u8 (rs.getD k (0, 0)).2.toNat) := by
      intro k hk
      obtain ⟨b', off', ea', g0, g1⟩ := hr k hk
      rw [ea] at ea'
      simp at ea'
      obtain ⟨rfl, rfl⟩ := ea'
      exact ⟨g0, g1⟩
    subst ea
    have HB : Hid (∀ k, k < rs.length → w.cell? ⟨b, off + k * 2, none⟩ = some (.int .u8 (rs.getD k (0, 0)).1.toNat) ∧ w.cell? ⟨b, off + k * 2 + 1, none⟩ = some (.int .u8 (rs.getD k (0, 0)).2.toNat)) := hb'
    have HL : Hid (rs.length = n) := hl
    clear hb' hl hr h0 hpos
    go_enter Ybzm.func33, Ybzm.ntmps33
    go_wp2
    go_loopw [9] (fun i wr => ∃ k : Nat, k ≤ n ∧ i = .int .i64 k ∧ Below w.heap.size w wr ∧ inR (rs.take k) c = false) (fun i _ => n - (intOf i).toNat)
    case atStart => exact ⟨0, Nat.zero_le _, rfl, Below.refl _ _, rfl⟩
    case round =>
      obtain ⟨k, hk, rfl, hb, hno⟩ := hrel
      have HN : Hid (inR (rs.take k) c = false) := hno
      clear hno
      by_cases hkn : k < n
      · obtain ⟨g0, g1⟩ := HB.out k (by rw [HL.out]; exact hkn)
        have c0 := (hb.cell (p := ⟨b, off + k * 2, none⟩) (block_lt g0)).trans g0
        have c1 := (hb.cell (p := ⟨b, off + k * 2 + 1, none⟩) (block_lt g1)).trans g1
        have hsz := hb.size
        clear g0 g1
        obtain ⟨lo, hlo⟩ : ∃ lo, lo = (rs.getD k (0, 0)).1 := ⟨_, rfl⟩
        obtain ⟨hi, hhi⟩ : ∃ hi, hi = (rs.getD k (0, 0)).2 := ⟨_, rfl⟩
        rw [← hlo] at c0
        rw [← hhi] at c1
        have Hlo : Hid (lo = (rs.getD k (0, 0)).1) := hlo
        have Hhi : Hid (hi = (rs.getD k (0, 0)).2) := hhi
        clear hlo hhi
        have hkl : k < rs.length := by rw [HL.out]; exact hkn
        have HS := inR_take_succ rs c k hkl
        rw [← Hlo.out, ← Hhi.out] at HS
        have HT : Hid (inR (rs.take (k + 1)) c = (inR (rs.take k) c || (decide (lo.toNat ≤ c.toNat) && decide (c.toNat ≤ hi.toNat)))) := HS
        clear HS hkl
        have hb2 : ∀ o, Below w.heap.size w (wr.alloc o) := fun o => hb.alloc hsz o
        go_wp2
        · have q0 : lo.toNat ≤ c.toNat := by assumption
          have q1 : c.toNat ≤ hi.toNat := by assumption
          go_ret
          exact ⟨ret_bool (inR_of_hit rs c k (by rw [HL.out]; exact hkn) (by rw [← Hlo.out]; exact q0) (by rw [← Hhi.out]; exact q1)).symm, hb2 _⟩
        · have q0 : lo.toNat ≤ c.toNat := by assumption
          have q1 : ¬ c.toNat ≤ hi.toNat := by assumption
          go_roundw
          case rel => exact ⟨k + 1, by omega, by go_num, hb2 _, by rw [HT.out, HN.out]; simp [q1]⟩
          case measure => simp [intOf]; omega
        · have q0 : ¬ lo.toNat ≤ c.toNat := by assumption
          go_roundw
          case rel => exact ⟨k + 1, by omega, by go_num, hb2 _, by rw [HT.out, HN.out]; simp [q0]⟩
          case measure => simp [intOf]; omega
      · go_wp2
        go_ret
        have hkk : rs.take k = rs := List.take_of_length_le (by rw [HL.out]; omega)
        exact ⟨ret_bool (by have := HN.out; rw [hkk] at this; exact this.symm), hb⟩

theorem inRanges_at (a : Option Addr) (n cap : Nat) (rs : List (UInt8 × UInt8)) (hn : n ≤ 9223372036854775807) (hl : rs.length = n) (z : Int) (c : UInt8) (hz : z = c.toNat) (w : World) (hr : RangesAt w a rs) :
    Calls Ybzm.prog 33 #[.slice a n cap, .int .u8 z] w fun e w' => e = .returned (.bool (inR rs c)) ∧ Below w.heap.size w w' := by
  subst hz; exact inRanges_any a n cap rs hn hl c w hr
end Go.Proofs.Ymbrbz

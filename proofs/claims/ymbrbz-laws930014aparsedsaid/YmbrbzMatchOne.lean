import Derived.Test.YmbrbzInRanges
import Derived.RegionTactic
import Derived.Deep.RegionWith
namespace Go.Proofs.Ymbrbz
open Go.RowKit

/-- MatchOne's answer: kind, char, neg, ranges, byte. -/
def mOne (kind : Int) (ch : UInt8) (neg : Bool) (rs : List (UInt8 × UInt8)) (c : UInt8) : Bool :=
  if kind = 0 then decide (ch = c) else if kind = 1 then true else if kind = 3 then (inR rs c != neg) else false

set_option maxHeartbeats 400000 in
theorem matchOne_any (kind : Int) (ch : UInt8) (neg : Bool) (a : Option Addr) (n cap : Nat) (rs : List (UInt8 × UInt8)) (hn : n ≤ 9223372036854775807) (hl : rs.length = n) (c : UInt8) (w : World) (hr : RangesAt w a rs) :
    Calls Ybzm.prog 16 #[.agg #[.int .i64 kind, .int .u8 ch.toNat, .bool neg, .slice a n cap], .int .u8 c.toNat] w fun e w' => e = .returned (.bool (mOne kind ch neg rs c)) ∧ Below w.heap.size w w' := by
  by_cases h3 : kind = 3
  · subst h3
    have HV : Hid (mOne 3 ch neg rs c = (inR rs c != neg)) := by simp [Hid, mOne]
    rw [HV.out]
    go_enter Ybzm.func16, Ybzm.ntmps16
    go_wp2_with fail
    go_region_with (go_at_call 33; refine (inRanges_any a n cap rs hn hl c _ (by exact hr.below (((Below.refl _ _).alloc (Nat.le_refl _) _).drew))).mono ?_; rintro e w1 ⟨rfl, hb⟩; have hcN : w1.cell? ⟨w.heap.size, 2, none⟩ = some (.bool neg) := (hb.cell (p := ⟨w.heap.size, 2, none⟩) (by simp)).trans (by simp))
    all_goals go_wp2_with fail
    all_goals
      go_ret
      exact ⟨rfl, (((Below.refl _ _).alloc (Nat.le_refl _) _).drew).trans (hb.mono (by simp))⟩
  · have g3 : (kind == 3) = false := beq_eq_false_iff_ne.2 h3
    by_cases h0 : kind = 0
    · subst h0
      have HV : Hid (mOne 0 ch neg rs c = decide (ch = c)) := by simp [Hid, mOne]
      rw [HV.out]
      by_cases hc : ch = c
      · subst hc
        go_enter Ybzm.func16, Ybzm.ntmps16
        go_wp2_with fail
        go_ret
        exact ⟨ret_bool (by simp), (Below.refl _ _).alloc (Nat.le_refl _) _⟩
      · have hne : ¬ ch.toNat = c.toNat := fun h => hc (UInt8.toNat_inj.1 h)
        have g : ((ch.toNat : Int) == (c.toNat : Int)) = false := beq_eq_false_iff_ne.2 (by omega)
        go_enter Ybzm.func16, Ybzm.ntmps16
        go_wp2_with fail
        go_ret
        exact ⟨ret_bool (by simp [hc]), (Below.refl _ _).alloc (Nat.le_refl _) _⟩
    · have g0 : (kind == 0) = false := beq_eq_false_iff_ne.2 h0
      by_cases h1 : kind = 1
      · subst h1
        have HV : Hid (mOne 1 ch neg rs c = true) := by simp [Hid, mOne]
        rw [HV.out]
        go_enter Ybzm.func16, Ybzm.ntmps16
        go_wp2_with fail
        go_ret
        exact ⟨rfl, (Below.refl _ _).alloc (Nat.le_refl _) _⟩
      · have g1 : (kind == 1) = false := beq_eq_false_iff_ne.2 h1
        have HV : Hid (mOne kind ch neg rs c = false) := by simp [Hid, mOne, h0, h1, h3]
        rw [HV.out]
        clear h0 h1 h3
        go_enter Ybzm.func16, Ybzm.ntmps16
        go_wp2_with fail
        go_ret
        exact ⟨rfl, (Below.refl _ _).alloc (Nat.le_refl _) _⟩
end Go.Proofs.Ymbrbz

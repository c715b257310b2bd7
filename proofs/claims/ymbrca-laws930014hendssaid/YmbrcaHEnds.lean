import Derived.Test.YmbrcaInRanges
namespace Go.Proofs.Ymbrca
open Go.RowKit

theorem ranges_one (w : World) (lo hi : UInt8) (e : TypeId) :
    RangesAt (w.alloc (.cells #[.int .u8 lo.toNat, .int .u8 hi.toNat] e)) (some ⟨w.heap.size, 0, none⟩) [(lo, hi)] := by
  intro k hk
  match k, hk with
  | 0, _ => exact ⟨w.heap.size, 0, rfl, by simp, by simp⟩

theorem inR_one (lo hi c : UInt8) : inR [(lo, hi)] c = (decide (lo.toNat ≤ c.toNat) && decide (c.toNat ≤ hi.toNat)) := by simp [inR]

set_option maxHeartbeats 400000 in
set_option maxRecDepth 100000 in
theorem hends (w : World) (lo hi : UInt8) :
    Calls Ycam.prog 13 #[.int .u8 lo.toNat, .int .u8 hi.toNat] w fun e w' => e = .returned (.bool true) ∧ Below w.heap.size w w' := by
  obtain ⟨W, hW⟩ : ∃ W, W = w.alloc (.cells #[.int .u8 lo.toNat, .int .u8 hi.toNat] 45) := ⟨_, rfl⟩
  have hr : RangesAt W (some ⟨w.heap.size, 0, none⟩) [(lo, hi)] := by rw [hW]; exact ranges_one _ _ _ _
  have hbW : Below w.heap.size w W := by rw [hW]; exact (Below.refl _ _).alloc (Nat.le_refl _) _
  have HW : Hid (W = w.alloc (.cells #[.int .u8 lo.toNat, .int .u8 hi.toNat] 45)) := hW
  clear hW
  have H1 : Hid (inR [(lo, hi)] lo = decide (lo.toNat ≤ hi.toNat)) := by simp [Hid, inR_one]
  have H2 : Hid (inR [(lo, hi)] hi = decide (lo.toNat ≤ hi.toNat)) := by simp [Hid, inR_one]
  have hlo := lo.toNat_lt
  have hhi := hi.toNat_lt
  have H3 : Hid (0 < lo.toNat → ∃ c : UInt8, (lo.toNat : Int) - 1 = c.toNat ∧ inR [(lo, hi)] c = false) := by
    intro h
    obtain ⟨c, hc⟩ := nat_of_u8 (z := (lo.toNat : Int) - 1) (by omega)
    exact ⟨c, hc, by rw [inR_one]; simp; omega⟩
  have H4 : Hid (hi.toNat < 255 → ∃ c : UInt8, (hi.toNat : Int) + 1 = c.toNat ∧ inR [(lo, hi)] c = false) := by
    intro h
    obtain ⟨c, hc⟩ := nat_of_u8 (z := (hi.toNat : Int) + 1) (by omega)
    exact ⟨c, hc, by rw [inR_one]; simp; omega⟩
  by_cases h1 : 0 < lo.toNat <;> by_cases h2 : hi.toNat < 255
  · obtain ⟨c1, e1, f1⟩ := H3.out h1
    have E1 : Hid (_) := e1
    have F1 : Hid (_) := f1
    clear e1 f1
    obtain ⟨c2, e2, f2⟩ := H4.out h2
    have E2 : Hid (_) := e2
    have F2 : Hid (_) := f2
    clear e2 f2
    go_enter Ycam.func13, Ycam.ntmps13
    go_wp2_with fail
    rw [← HW.out]
    refine (inRanges_at _ _ _ [(lo, hi)] (by simp) rfl _ lo rfl _ hr).mono ?_
    rintro e w1 ⟨rfl, hb1⟩
    rw [H1.out]
    go_wp2_with fail
    refine (inRanges_at _ _ _ [(lo, hi)] (by simp) rfl _ hi rfl _ (hr.below hb1)).mono ?_
    rintro e w2 ⟨rfl, hb2⟩
    rw [H2.out]
    go_wp2_with fail
    refine (inRanges_at _ _ _ [(lo, hi)] (by simp) rfl _ c1 E1.out _ ((hr.below hb1).below hb2)).mono ?_
    rintro e w3 ⟨rfl, hb3⟩
    rw [F1.out]
    go_wp2_with fail
    refine (inRanges_at _ _ _ [(lo, hi)] (by simp) rfl _ c2 E2.out _ (((hr.below hb1).below hb2).below hb3)).mono ?_
    rintro e w4 ⟨rfl, hb4⟩
    rw [F2.out]
    go_wp2_with fail
    go_ret
    have t1 := hbW.trans (hb1.mono hbW.size)
    have t2 := t1.trans (hb2.mono t1.size)
    have t3 := t2.trans (hb3.mono t2.size)
    have t4 := t3.trans (hb4.mono t3.size)
    exact ⟨rfl, t4⟩
  · obtain ⟨c1, e1, f1⟩ := H3.out h1
    have E1 : Hid (_) := e1
    have F1 : Hid (_) := f1
    clear e1 f1
    go_enter Ycam.func13, Ycam.ntmps13
    go_wp2_with fail
    rw [← HW.out]
    refine (inRanges_at _ _ _ [(lo, hi)] (by simp) rfl _ lo rfl _ hr).mono ?_
    rintro e w1 ⟨rfl, hb1⟩
    rw [H1.out]
    go_wp2_with fail
    refine (inRanges_at _ _ _ [(lo, hi)] (by simp) rfl _ hi rfl _ (hr.below hb1)).mono ?_
    rintro e w2 ⟨rfl, hb2⟩
    rw [H2.out]
    go_wp2_with fail
    refine (inRanges_at _ _ _ [(lo, hi)] (by simp) rfl _ c1 E1.out _ ((hr.below hb1).below hb2)).mono ?_
    rintro e w3 ⟨rfl, hb3⟩
    rw [F1.out]
    go_wp2_with fail
    go_ret
    have t1 := hbW.trans (hb1.mono hbW.size)
    have t2 := t1.trans (hb2.mono t1.size)
    have t3 := t2.trans (hb3.mono t2.size)
    exact ⟨rfl, t3⟩
  · obtain ⟨c2, e2, f2⟩ := H4.out h2
    have E2 : Hid (_) := e2
    have F2 : Hid (_) := f2
    clear e2 f2
    go_enter Ycam.func13, Ycam.ntmps13
    go_wp2_with fail
    rw [← HW.out]
    refine (inRanges_at _ _ _ [(lo, hi)] (by simp) rfl _ lo rfl _ hr).mono ?_
    rintro e w1 ⟨rfl, hb1⟩
    rw [H1.out]
    go_wp2_with fail
    refine (inRanges_at _ _ _ [(lo, hi)] (by simp) rfl _ hi rfl _ (hr.below hb1)).mono ?_
    rintro e w2 ⟨rfl, hb2⟩
    rw [H2.out]
    go_wp2_with fail
    refine (inRanges_at _ _ _ [(lo, hi)] (by simp) rfl _ c2 E2.out _ ((hr.below hb1).below hb2)).mono ?_
    rintro e w3 ⟨rfl, hb3⟩
    rw [F2.out]
    go_wp2_with fail
    go_ret
    have t1 := hbW.trans (hb1.mono hbW.size)
    have t2 := t1.trans (hb2.mono t1.size)
    have t3 := t2.trans (hb3.mono t2.size)
    exact ⟨rfl, t3⟩
  · go_enter Ycam.func13, Ycam.ntmps13
    go_wp2_with fail
    rw [← HW.out]
    refine (inRanges_at _ _ _ [(lo, hi)] (by simp) rfl _ lo rfl _ hr).mono ?_
    rintro e w1 ⟨rfl, hb1⟩
    rw [H1.out]
    go_wp2_with fail
    refine (inRanges_at _ _ _ [(lo, hi)] (by simp) rfl _ hi rfl _ (hr.below hb1)).mono ?_
    rintro e w2 ⟨rfl, hb2⟩
    rw [H2.out]
    go_wp2_with fail
    go_ret
    have t1 := hbW.trans (hb1.mono hbW.size)
    have t2 := t1.trans (hb2.mono t1.size)
    exact ⟨rfl, t2⟩
end Go.Proofs.Ymbrca

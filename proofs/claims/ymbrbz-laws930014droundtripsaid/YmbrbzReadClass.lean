import Derived.Test.YmbrbzRcvIn
import Derived.Test.YmbrbzRanges
import Derived.Test.YmbrbzBlocks
import Derived.Test.YmbrbzAid
import Derived.Deep.LoopGhost
import Derived.WalkKit
import Derived.WalkSpells
import Derived.WalkLawsBesides
namespace Go.Proofs.Ymbrbz
open Go.RowKit

theorem Ybzm.infoRange : (Ybzm.prog.info? 29).map (fun i => (i.zero, i.size, i.bytes)) = some (some (.agg #[.int .u8 0, .int .u8 0]), 2, 2) := by kernel_rfl

/-- What readClass leaves: a zero token and false; or the class's token, its ranges in memory of the call's own, the index behind ']'. -/
def RCPost (n : Nat) (R : Option (Bool × List (UInt8 × UInt8) × List UInt8)) (w : World) (e : Ending) (w' : World) : Prop :=
  (R = none ∧ e = .returned (.tuple #[.agg #[.int .i64 0, .int .u8 0, .bool false, .slice none 0 0], .int .i64 0, .bool false]) ∧ Below w.heap.size w w') ∨
  ∃ neg rs r v, R = some (neg, rs, r) ∧ e = .returned (.tuple #[.agg #[.int .i64 3, .int .u8 0, .bool neg, v], .int .i64 ((n - r.length : Nat) : Int), .bool true]) ∧ OwnR w' w.heap.size v rs ∧ v ≠ .slice none 0 0 ∧ Below w.heap.size w w'

theorem own_nonnil {w : World} {base : Nat} {v : Value} {rs : List (UInt8 × UInt8)} (h : OwnR w base v rs) (hr : rs ≠ []) : v ≠ .slice none 0 0 := by
  rintro rfl
  obtain ⟨_, ⟨_, h0⟩ | ⟨g, cap, cur, h, _⟩⟩ := h
  · exact hr (List.length_eq_zero_iff.1 h0)
  · simp at h

theorem ownR_mono {w : World} {base base' : Nat} {v : Value} {rs : List (UInt8 × UInt8)} (h : OwnR w base v rs) (hb : base' ≤ base) : OwnR w base' v rs := by
  obtain ⟨h1, h2⟩ := h
  refine ⟨h1, ?_⟩
  rcases h2 with h2 | ⟨g, cap, cur, e, hg, r⟩
  · exact .inl h2
  · exact .inr ⟨g, cap, cur, e, by omega, r⟩

/-- The world as the loop has it: the result's block, the token's block, the ranges, nothing old turned. -/
structure RCWorld (B : Nat) (w wr : World) (neg : Bool) (v : Value) (rs : List (UInt8 × UInt8)) : Prop where
  zero : wr.heap[B]? = some (.cells #[.int .i64 0, .int .u8 0, .bool false, .slice none 0 0] 26 (0, 0))
  tok : wr.heap[B + 1]? = some (.cells #[.int .i64 3, .int .u8 0, .bool neg, v] 26 (0, 0))
  own : OwnR wr (B + 2) v rs
  below : Below B w wr

theorem RCWorld.step {B : Nat} {w wr w1 : World} {neg : Bool} {v v1 : Value} {rs rs1 : List (UInt8 × UInt8)} {o : Obj} (h : RCWorld B w wr neg v rs) (hg : (wr.alloc o).grownBy w1 v.ownBlock) (hb1 : Below (B + 2) wr w1) (ho : OwnR w1 (B + 2) v1 rs1) :
    RCWorld B w (w1.setCell ⟨B + 1, 3, none⟩ v1) neg v1 rs1 := by
  have k0 := keepBlock h.own hg h.zero (by decide)
  have k1 := keepBlock h.own hg h.tok (by decide)
  refine ⟨?_, ?_, ?_, ?_⟩
  · rw [setCell_other (by omega)]; exact k0
  · rw [setCell_block k1]; rfl
  · exact ownsRow_setCell_below ho (by simp) _
  · exact (h.below.trans (hb1.mono (by omega))).setCell (by simp) _

set_option maxHeartbeats 8000000 in
set_option maxRecDepth 4000 in
theorem readClass_any (s : ByteArray) (z : Int) (i0 : Nat) (hz : z = i0) (hs : s.size ≤ 1000000000) (hi0 : i0 ≤ s.size + 1) (w : World) :
    Calls Ybzm.prog 34 #[.string s, .int .i64 z] w (RCPost s.size (rdClass (s.data.toList.drop i0)) w) := by
  subst hz
  have hbang : ∃ i1 neg, i1 ≤ s.size + 1 ∧ isBang (s.data.toList.drop i0) = neg ∧ offBang (s.data.toList.drop i0) = s.data.toList.drop i1 ∧ ((∃ h : i0 < s.size, s[i0].toNat = 33 ∧ i1 = i0 + 1 ∧ neg = true) ∨ (∃ h : i0 < s.size, s[i0].toNat ≠ 33 ∧ i1 = i0 ∧ neg = false) ∨ (s.size ≤ i0 ∧ i1 = i0 ∧ neg = false)) := by
    by_cases h : i0 < s.size
    · rw [dropAt s i0 h]
      by_cases h33 : s[i0].toNat = 33
      · exact ⟨i0 + 1, true, by omega, by simp [isBang, h33], by simp [offBang, h33], .inl ⟨h, h33, rfl, rfl⟩⟩
      · exact ⟨i0, false, by omega, by simp [isBang, h33], by simp only [offBang]; rw [if_neg h33, ← dropAt s i0 h], .inr (.inl ⟨h, h33, rfl, rfl⟩)⟩
    · rw [dropEnd s i0 (by omega)]
      exact ⟨i0, false, by omega, rfl, by rw [dropEnd s i0 (by omega)]; rfl, .inr (.inr ⟨by omega, rfl, rfl⟩)⟩
  obtain ⟨i1, neg, hi1, hneg, hmb, hcase⟩ := hbang
  obtain ⟨R, hR⟩ : ∃ R, R = rcl ((s.data.toList.drop i0).length + 1) [] (s.data.toList.drop i1) := ⟨_, rfl⟩
  have hRC : rdClass (s.data.toList.drop i0) = R.map fun p => (neg, p.1, p.2) := by unfold rdClass; rw [hneg, hmb, ← hR]
  have hf : s.size - i1 < (s.data.toList.drop i0).length + 1 := by
    have := (offBang_drop (s.data.toList.drop i0)).1
    rw [hmb, dropLen] at this
    omega
  have HR : Hid (rcl ((s.data.toList.drop i0).length + 1) [] (s.data.toList.drop i1) = R) := hid hR.symm
  have HF := hid hf
  have HRC := hid hRC
  -- the ends
  have finNone : Hid (∀ W, R = none → Below w.heap.size w W → RCPost s.size (rdClass (s.data.toList.drop i0)) w (.returned (.tuple #[.agg #[.int .i64 0, .int .u8 0, .bool false, .slice none 0 0], .int .i64 0, .bool false])) W) := by
    intro W h hb
    refine .inl ⟨by rw [HRC.out, h]; rfl, rfl, hb⟩
  have finSome : Hid (∀ W rs r v k, R = some (rs, r) → (s.size - r.length : Nat) = k → OwnR W (w.heap.size + 2) v rs → rs ≠ [] → Below w.heap.size w W → RCPost s.size (rdClass (s.data.toList.drop i0)) w (.returned (.tuple #[.agg #[.int .i64 3, .int .u8 0, .bool neg, v], .int .i64 (k : Int), .bool true])) W) := by
    intro W rs r v k h hk ho hne hb
    refine .inr ⟨neg, rs, r, v, by rw [HRC.out, h]; rfl, by rw [hk], ownR_mono ho (by omega), own_nonnil ho hne, hb⟩
  obtain ⟨P, hP⟩ : ∃ P, P = RCPost s.size (rdClass (s.data.toList.drop i0)) w := ⟨_, rfl⟩
  rw [← hP] at finNone finSome ⊢
  clear hR hf hmb hneg hRC HRC hP
  rcases hcase with ⟨h, h33, rfl, rfl⟩ | ⟨h, h33, rfl, rfl⟩ | ⟨h, rfl, rfl⟩
  · go_enter Ybzm.func34, Ybzm.ntmps34
    go_wp2_with fail
    clear h33
    go_loopg [1] (s.size - (i0 + 1)) (fun g a wr => ∃ (k f : Nat) (rs : List (UInt8 × UInt8)) (v : Value), g = s.size - k ∧ k ≤ s.size + 1 ∧ a = .int .i64 k ∧ RCWorld w.heap.size w wr true v rs ∧ s.size - k < f ∧ rs.length ≤ k ∧ rcl f rs (s.data.toList.drop k) = R)
    case atStart =>
      refine ⟨_, _, [], .slice none 0 0, rfl, by omega, by go_num, ?_, HF.out, by simp, HR.out⟩
      refine ⟨?_, ?_, OwnR.nil _ _, ?_⟩
      · rw [block_alloc (block_new w _ 26)]
      · have := block_new (w.alloc (.cells #[.int .i64 0, .int .u8 0, .bool false, .slice none 0 0] 26)) #[.int .i64 3, .int .u8 0, .bool true, .slice none 0 0] 26
        simpa using this
      · exact ((Below.refl _ _).alloc (Nat.le_refl _) _).alloc (by simp) _
    case round =>
      obtain ⟨k, f, rs, v, rfl, hk, rfl, hW, hf, hrk, hr⟩ := hrel
      clear HF HR
      have HFF := hid hf
      have HRR := hid hr
      obtain ⟨ao, cp, hv, hcp, hcp2, hba⟩ := hW.own.shape
      subst hv
      have HW := hid hW
      have HO := hid hW.own
      have z0 := cell_block hW.zero 0
      have z1 := cell_block hW.zero 1
      have z2 := cell_block hW.zero 2
      have z3 := cell_block hW.zero 3
      have y0 := frozen_block hW.zero 0
      have y1 := frozen_block hW.zero 1
      have y2 := frozen_block hW.zero 2
      have y3 := frozen_block hW.zero 3
      have t0 := cell_block hW.tok 0
      have t1 := cell_block hW.tok 1
      have t2 := cell_block hW.tok 2
      have t3 := cell_block hW.tok 3
      have hsz : w.heap.size + 2 ≤ wr.heap.size := by have := (Array.getElem?_eq_some_iff.1 hW.tok).1; omega
      have HSZ := hid hsz
      simp only [List.getElem?_toArray, List.getElem?_cons_zero, List.getElem?_cons_succ] at z0 z1 z2 z3 t0 t1 t2 t3
      clear hf hr hW hba hcp hcp2
      by_cases hks : k < s.size
      · obtain ⟨f, rfl⟩ : ∃ g, f = g + 1 := ⟨f - 1, by have := HFF.out; omega⟩
        have hrd := HRR.out
        rw [dropAt s k hks] at hrd
        unfold rcl at hrd
        by_cases c93 : s[k].toNat = 93
        · rw [if_pos c93] at hrd
          by_cases hrs : rs = []
          · subst hrs
            have HX : Hid (R = none) := hid (by rw [← hrd]; rfl)
            clear hrd HRR HFF
            simp only [List.length_nil] at t3
            go_wp2_with fail
            exact bodyPost_ret (v := .tuple #[.agg #[.int .i64 0, .int .u8 0, .bool false, .slice none 0 0], .int .i64 0, .bool false]) (by simp [results, Ybzm.results34, go_sem, z0, z1, z2, z3]) rfl (finNone.out _ HX.out (((((HW.out.below).setCell (Nat.le_refl _) _).setCell (Nat.le_refl _) _).setCell (Nat.le_refl _) _).setCell (Nat.le_refl _) _))
          · have hpos : 0 < rs.length := List.length_pos_iff.2 hrs
            rw [if_neg hrs] at hrd
            have HX : Hid (R = some (rs, s.data.toList.drop (k + 1))) := hid hrd.symm
            have hnz : ((rs.length : Int) == 0) = false := beq_eq_false_iff_ne.2 (by omega)
            clear hrd HRR HFF
            go_wp2_with fail
            exact bodyPost_ret (v := .tuple #[.agg #[.int .i64 3, .int .u8 0, .bool true, .slice ao rs.length cp], .int .i64 ((k + 1 : Nat) : Int), .bool true]) (by simp [results, Ybzm.results34, go_sem, z0, z1, z2, z3]) rfl (finSome.out _ rs _ _ (k + 1) HX.out (by rw [dropLen]; omega) (ownsRow_setCell_below (ownsRow_setCell_below (ownsRow_setCell_below (ownsRow_setCell_below HO.out (by simp) _) (by simp) _) (by simp) _) (by simp) _) hrs (((((HW.out.below).setCell (Nat.le_refl _) _).setCell (Nat.le_refl _) _).setCell (Nat.le_refl _) _).setCell (Nat.le_refl _) _))
        · rw [if_neg c93, ← dropAt s k hks] at hrd
          have f93 : ((s[k].toNat : Int) != 93) = true := by rw [bne_iff_ne]; omega
          rcases rcv_rdIn s k with ⟨hmc, hrc⟩ | ⟨lo, j, hkj, hj, hmc, hrc⟩
          · rw [hmc] at hrd
            have HX : Hid (R = none) := hid hrd.symm
            have HRC := hid hrc
            clear hrd HRR HFF hmc hrc
            go_wp2_with fail
            refine (readChar_any s k true (by omega) (by omega) _).mono ?_
            rintro e w1 ⟨rfl, rfl⟩
            rw [HRC.out]
            go_wp2_with fail
            exact bodyPost_ret (v := .tuple #[.agg #[.int .i64 0, .int .u8 0, .bool false, .slice none 0 0], .int .i64 0, .bool false]) (by simp [results, Ybzm.results34, go_sem, z0, z1, z2, z3]) rfl (finNone.out _ HX.out (((((HW.out.below).setCell (Nat.le_refl _) _).setCell (Nat.le_refl _) _).setCell (Nat.le_refl _) _).setCell (Nat.le_refl _) _))
          · rw [hmc] at hrd
            simp only [Option.bind_some] at hrd
            have HRC := hid hrc
            have hfj : s.size - j < f := by have := HFF.out; omega
            clear hmc hrc HRR HFF
            by_cases hjs : j < s.size
            · by_cases d45 : s[j].toNat = 45
              · have hd : rrng lo (s.data.toList.drop j) = (rdIn (s.data.toList.drop (j + 1))).bind fun p => if p.1.toNat < lo.toNat then none else some p := by rw [dropAt s j hjs]; simp [rrng, d45]
                rw [hd] at hrd
                clear hd
                rcases rcv_rdIn s (j + 1) with ⟨hmc2, hrc2⟩ | ⟨hi, j2, hkj2, hj2, hmc2, hrc2⟩
                · rw [hmc2] at hrd
                  have HX : Hid (R = none) := hid hrd.symm
                  have HRC2 := hid hrc2
                  clear hrd hmc2 hrc2
                  go_wp2_with fail
                  refine (readChar_any s k true (by omega) (by omega) _).mono ?_
                  rintro e w1 ⟨rfl, rfl⟩
                  rw [HRC.out]
                  go_wp2_with fail
                  refine (readChar_any s (j + 1) true (by omega) (by omega) _).mono ?_
                  rintro e w2 ⟨rfl, rfl⟩
                  rw [HRC2.out]
                  go_wp2_with fail
                  exact bodyPost_ret (v := .tuple #[.agg #[.int .i64 0, .int .u8 0, .bool false, .slice none 0 0], .int .i64 0, .bool false]) (by simp [results, Ybzm.results34, go_sem, z0, z1, z2, z3]) rfl (finNone.out _ HX.out (((((HW.out.below).setCell (Nat.le_refl _) _).setCell (Nat.le_refl _) _).setCell (Nat.le_refl _) _).setCell (Nat.le_refl _) _))
                · rw [hmc2] at hrd
                  simp only [Option.bind_some] at hrd
                  have HRC2 := hid hrc2
                  clear hmc2 hrc2
                  by_cases hlt : hi.toNat < lo.toNat
                  · rw [if_pos hlt] at hrd
                    have HX : Hid (R = none) := hid hrd.symm
                    clear hrd
                    go_wp2_with fail
                    refine (readChar_any s k true (by omega) (by omega) _).mono ?_
                    rintro e w1 ⟨rfl, rfl⟩
                    rw [HRC.out]
                    go_wp2_with fail
                    refine (readChar_any s (j + 1) true (by omega) (by omega) _).mono ?_
                    rintro e w2 ⟨rfl, rfl⟩
                    rw [HRC2.out]
                    go_wp2_with fail
                    exact bodyPost_ret (v := .tuple #[.agg #[.int .i64 0, .int .u8 0, .bool false, .slice none 0 0], .int .i64 0, .bool false]) (by simp [results, Ybzm.results34, go_sem, z0, z1, z2, z3]) rfl (finNone.out _ HX.out (((((HW.out.below).setCell (Nat.le_refl _) _).setCell (Nat.le_refl _) _).setCell (Nat.le_refl _) _).setCell (Nat.le_refl _) _))
                  · rw [if_neg hlt] at hrd
                    simp only [Option.bind_some] at hrd
                    have HX := hid hrd
                    have hfj2 : s.size - j2 < f := by omega
                    have HFJ := hid hfj2
                    clear hrd hfj hfj2
                    go_wp2_with fail
                    refine (readChar_any s k true (by omega) (by omega) _).mono ?_
                    rintro e wx ⟨rfl, rfl⟩
                    rw [HRC.out]
                    go_wp2_with fail
                    refine (readChar_any s (j + 1) true (by omega) (by omega) _).mono ?_
                    rintro e wy ⟨rfl, rfl⟩
                    rw [HRC2.out]
                    rename World => wr
                    go_wp2_with (at_builtin; go_must (refine wpList_appR wr rfl (.tmp 74) (.tmp 78) 22 rfl Ybzm.underlying22 Ybzm.infoRange (w.heap.size + 2) _ rs (by rfl) HO.out lo hi _ rfl rfl (by omega) HSZ.out ?_); intro ao1 cp1 w1 hown1 hb1 hg1; have k1 := keepBlock HO.out hg1 HW.out.tok (by decide); have cz := cell_block k1 3; have fz := frozen_block k1 3; have HS1 := hid (RCWorld.step HW.out hg1 hb1 hown1); clear hown1 hb1 hg1 k1)
                    go_roundg (s.size - j2)
                    case rel => exact ⟨j2, f, _, _, rfl, by omega, rfl, HS1.out, HFJ.out, by simp; omega, HX.out⟩
                    case measure => omega
              · have hd : rrng lo (s.data.toList.drop j) = some (lo, s.data.toList.drop j) := by rw [dropAt s j hjs]; simp [rrng, d45]
                rw [hd] at hrd
                simp only [Option.bind_some] at hrd
                have HX := hid hrd
                have HFJ := hid hfj
                have g45 : ((s[j].toNat : Int) == 45) = false := beq_eq_false_iff_ne.2 (by omega)
                clear hrd hfj hd
                go_wp2_with fail
                refine (readChar_any s k true (by omega) (by omega) _).mono ?_
                rintro e wx ⟨rfl, rfl⟩
                rw [HRC.out]
                rename World => wr
                go_wp2_with (at_builtin; go_must (refine wpList_appR wr rfl (.tmp 74) (.tmp 78) 22 rfl Ybzm.underlying22 Ybzm.infoRange (w.heap.size + 2) _ rs (by rfl) HO.out lo lo _ rfl rfl (by omega) HSZ.out ?_); intro ao1 cp1 w1 hown1 hb1 hg1; have k1 := keepBlock HO.out hg1 HW.out.tok (by decide); have cz := cell_block k1 3; have fz := frozen_block k1 3; have HS1 := hid (RCWorld.step HW.out hg1 hb1 hown1); clear hown1 hb1 hg1 k1)
                go_roundg (s.size - j)
                case rel => exact ⟨j, f, _, _, rfl, by omega, rfl, HS1.out, HFJ.out, by simp; omega, HX.out⟩
                case measure => omega
            · have hd : rrng lo (s.data.toList.drop j) = some (lo, s.data.toList.drop j) := by rw [dropEnd s j (by omega)]; rfl
              rw [hd] at hrd
              simp only [Option.bind_some] at hrd
              have HX := hid hrd
              have HFJ := hid hfj
              clear hrd hfj hd
              go_wp2_with fail
              refine (readChar_any s k true (by omega) (by omega) _).mono ?_
              rintro e wx ⟨rfl, rfl⟩
              rw [HRC.out]
              rename World => wr
              go_wp2_with (at_builtin; go_must (refine wpList_appR wr rfl (.tmp 74) (.tmp 78) 22 rfl Ybzm.underlying22 Ybzm.infoRange (w.heap.size + 2) _ rs (by rfl) HO.out lo lo _ rfl rfl (by omega) HSZ.out ?_); intro ao1 cp1 w1 hown1 hb1 hg1; have k1 := keepBlock HO.out hg1 HW.out.tok (by decide); have cz := cell_block k1 3; have fz := frozen_block k1 3; have HS1 := hid (RCWorld.step HW.out hg1 hb1 hown1); clear hown1 hb1 hg1 k1)
              go_roundg (s.size - j)
              case rel => exact ⟨j, f, _, _, rfl, by omega, rfl, HS1.out, HFJ.out, by simp; omega, HX.out⟩
              case measure => omega
      · have hrd := HRR.out
        rw [dropEnd s k (by omega)] at hrd
        have HX : Hid (R = none) := hid (by cases f <;> exact hrd.symm)
        clear hrd HRR HFF
        go_wp2_with fail
        exact bodyPost_ret (v := .tuple #[.agg #[.int .i64 0, .int .u8 0, .bool false, .slice none 0 0], .int .i64 0, .bool false]) (by simp [results, Ybzm.results34, go_sem, z0, z1, z2, z3]) rfl (finNone.out _ HX.out (((((HW.out.below).setCell (Nat.le_refl _) _).setCell (Nat.le_refl _) _).setCell (Nat.le_refl _) _).setCell (Nat.le_refl _) _))
  · have f33 : ((s[i1].toNat : Int) == 33) = false := beq_eq_false_iff_ne.2 (by omega)
    go_enter Ybzm.func34, Ybzm.ntmps34
    go_wp2_with fail
    clear h33
    go_loopg [1] (s.size - i1) (fun g a wr => ∃ (k f : Nat) (rs : List (UInt8 × UInt8)) (v : Value), g = s.size - k ∧ k ≤ s.size + 1 ∧ a = .int .i64 k ∧ RCWorld w.heap.size w wr false v rs ∧ s.size - k < f ∧ rs.length ≤ k ∧ rcl f rs (s.data.toList.drop k) = R)
    case atStart =>
      refine ⟨_, _, [], .slice none 0 0, rfl, by omega, by go_num, ?_, HF.out, by simp, HR.out⟩
      refine ⟨?_, ?_, OwnR.nil _ _, ?_⟩
      · rw [block_alloc (block_new w _ 26)]
      · have := block_new (w.alloc (.cells #[.int .i64 0, .int .u8 0, .bool false, .slice none 0 0] 26)) #[.int .i64 3, .int .u8 0, .bool false, .slice none 0 0] 26
        simpa using this
      · exact ((Below.refl _ _).alloc (Nat.le_refl _) _).alloc (by simp) _
    case round =>
      obtain ⟨k, f, rs, v, rfl, hk, rfl, hW, hf, hrk, hr⟩ := hrel
      clear HF HR
      have HFF := hid hf
      have HRR := hid hr
      obtain ⟨ao, cp, hv, hcp, hcp2, hba⟩ := hW.own.shape
      subst hv
      have HW := hid hW
      have HO := hid hW.own
      have z0 := cell_block hW.zero 0
      have z1 := cell_block hW.zero 1
      have z2 := cell_block hW.zero 2
      have z3 := cell_block hW.zero 3
      have y0 := frozen_block hW.zero 0
      have y1 := frozen_block hW.zero 1
      have y2 := frozen_block hW.zero 2
      have y3 := frozen_block hW.zero 3
      have t0 := cell_block hW.tok 0
      have t1 := cell_block hW.tok 1
      have t2 := cell_block hW.tok 2
      have t3 := cell_block hW.tok 3
      have hsz : w.heap.size + 2 ≤ wr.heap.size := by have := (Array.getElem?_eq_some_iff.1 hW.tok).1; omega
      have HSZ := hid hsz
      simp only [List.getElem?_toArray, List.getElem?_cons_zero, List.getElem?_cons_succ] at z0 z1 z2 z3 t0 t1 t2 t3
      clear hf hr hW hba hcp hcp2
      by_cases hks : k < s.size
      · obtain ⟨f, rfl⟩ : ∃ g, f = g + 1 := ⟨f - 1, by have := HFF.out; omega⟩
        have hrd := HRR.out
        rw [dropAt s k hks] at hrd
        unfold rcl at hrd
        by_cases c93 : s[k].toNat = 93
        · rw [if_pos c93] at hrd
          by_cases hrs : rs = []
          · subst hrs
            have HX : Hid (R = none) := hid (by rw [← hrd]; rfl)
            clear hrd HRR HFF
            simp only [List.length_nil] at t3
            go_wp2_with fail
            exact bodyPost_ret (v := .tuple #[.agg #[.int .i64 0, .int .u8 0, .bool false, .slice none 0 0], .int .i64 0, .bool false]) (by simp [results, Ybzm.results34, go_sem, z0, z1, z2, z3]) rfl (finNone.out _ HX.out (((((HW.out.below).setCell (Nat.le_refl _) _).setCell (Nat.le_refl _) _).setCell (Nat.le_refl _) _).setCell (Nat.le_refl _) _))
          · have hpos : 0 < rs.length := List.length_pos_iff.2 hrs
            rw [if_neg hrs] at hrd
            have HX : Hid (R = some (rs, s.data.toList.drop (k + 1))) := hid hrd.symm
            have hnz : ((rs.length : Int) == 0) = false := beq_eq_false_iff_ne.2 (by omega)
            clear hrd HRR HFF
            go_wp2_with fail
            exact bodyPost_ret (v := .tuple #[.agg #[.int .i64 3, .int .u8 0, .bool false, .slice ao rs.length cp], .int .i64 ((k + 1 : Nat) : Int), .bool true]) (by simp [results, Ybzm.results34, go_sem, z0, z1, z2, z3]) rfl (finSome.out _ rs _ _ (k + 1) HX.out (by rw [dropLen]; omega) (ownsRow_setCell_below (ownsRow_setCell_below (ownsRow_setCell_below (ownsRow_setCell_below HO.out (by simp) _) (by simp) _) (by simp) _) (by simp) _) hrs (((((HW.out.below).setCell (Nat.le_refl _) _).setCell (Nat.le_refl _) _).setCell (Nat.le_refl _) _).setCell (Nat.le_refl _) _))
        · rw [if_neg c93, ← dropAt s k hks] at hrd
          have f93 : ((s[k].toNat : Int) != 93) = true := by rw [bne_iff_ne]; omega
          rcases rcv_rdIn s k with ⟨hmc, hrc⟩ | ⟨lo, j, hkj, hj, hmc, hrc⟩
          · rw [hmc] at hrd
            have HX : Hid (R = none) := hid hrd.symm
            have HRC := hid hrc
            clear hrd HRR HFF hmc hrc
            go_wp2_with fail
            refine (readChar_any s k true (by omega) (by omega) _).mono ?_
            rintro e w1 ⟨rfl, rfl⟩
            rw [HRC.out]
            go_wp2_with fail
            exact bodyPost_ret (v := .tuple #[.agg #[.int .i64 0, .int .u8 0, .bool false, .slice none 0 0], .int .i64 0, .bool false]) (by simp [results, Ybzm.results34, go_sem, z0, z1, z2, z3]) rfl (finNone.out _ HX.out (((((HW.out.below).setCell (Nat.le_refl _) _).setCell (Nat.le_refl _) _).setCell (Nat.le_refl _) _).setCell (Nat.le_refl _) _))
          · rw [hmc] at hrd
            simp only [Option.bind_some] at hrd
            have HRC := hid hrc
            have hfj : s.size - j < f := by have := HFF.out; omega
            clear hmc hrc HRR HFF
            by_cases hjs : j < s.size
            · by_cases d45 : s[j].toNat = 45
              · have hd : rrng lo (s.data.toList.drop j) = (rdIn (s.data.toList.drop (j + 1))).bind fun p => if p.1.toNat < lo.toNat then none else some p := by rw [dropAt s j hjs]; simp [rrng, d45]
                rw [hd] at hrd
                clear hd
                rcases rcv_rdIn s (j + 1) with ⟨hmc2, hrc2⟩ | ⟨hi, j2, hkj2, hj2, hmc2, hrc2⟩
                · rw [hmc2] at hrd
                  have HX : Hid (R = none) := hid hrd.symm
                  have HRC2 := hid hrc2
                  clear hrd hmc2 hrc2
                  go_wp2_with fail
                  refine (readChar_any s k true (by omega) (by omega) _).mono ?_
                  rintro e w1 ⟨rfl, rfl⟩
                  rw [HRC.out]
                  go_wp2_with fail
                  refine (readChar_any s (j + 1) true (by omega) (by omega) _).mono ?_
                  rintro e w2 ⟨rfl, rfl⟩
                  rw [HRC2.out]
                  go_wp2_with fail
                  exact bodyPost_ret (v := .tuple #[.agg #[.int .i64 0, .int .u8 0, .bool false, .slice none 0 0], .int .i64 0, .bool false]) (by simp [results, Ybzm.results34, go_sem, z0, z1, z2, z3]) rfl (finNone.out _ HX.out (((((HW.out.below).setCell (Nat.le_refl _) _).setCell (Nat.le_refl _) _).setCell (Nat.le_refl _) _).setCell (Nat.le_refl _) _))
                · rw [hmc2] at hrd
                  simp only [Option.bind_some] at hrd
                  have HRC2 := hid hrc2
                  clear hmc2 hrc2
                  by_cases hlt : hi.toNat < lo.toNat
                  · rw [if_pos hlt] at hrd
                    have HX : Hid (R = none) := hid hrd.symm
                    clear hrd
                    go_wp2_with fail
                    refine (readChar_any s k true (by omega) (by omega) _).mono ?_
                    rintro e w1 ⟨rfl, rfl⟩
                    rw [HRC.out]
                    go_wp2_with fail
                    refine (readChar_any s (j + 1) true (by omega) (by omega) _).mono ?_
                    rintro e w2 ⟨rfl, rfl⟩
                    rw [HRC2.out]
                    go_wp2_with fail
                    exact bodyPost_ret (v := .tuple #[.agg #[.int .i64 0, .int .u8 0, .bool false, .slice none 0 0], .int .i64 0, .bool false]) (by simp [results, Ybzm.results34, go_sem, z0, z1, z2, z3]) rfl (finNone.out _ HX.out (((((HW.out.below).setCell (Nat.le_refl _) _).setCell (Nat.le_refl _) _).setCell (Nat.le_refl _) _).setCell (Nat.le_refl _) _))
                  · rw [if_neg hlt] at hrd
                    simp only [Option.bind_some] at hrd
                    have HX := hid hrd
                    have hfj2 : s.size - j2 < f := by omega
                    have HFJ := hid hfj2
                    clear hrd hfj hfj2
                    go_wp2_with fail
                    refine (readChar_any s k true (by omega) (by omega) _).mono ?_
                    rintro e wx ⟨rfl, rfl⟩
                    rw [HRC.out]
                    go_wp2_with fail
                    refine (readChar_any s (j + 1) true (by omega) (by omega) _).mono ?_
                    rintro e wy ⟨rfl, rfl⟩
                    rw [HRC2.out]
                    rename World => wr
                    go_wp2_with (at_builtin; go_must (refine wpList_appR wr rfl (.tmp 74) (.tmp 78) 22 rfl Ybzm.underlying22 Ybzm.infoRange (w.heap.size + 2) _ rs (by rfl) HO.out lo hi _ rfl rfl (by omega) HSZ.out ?_); intro ao1 cp1 w1 hown1 hb1 hg1; have k1 := keepBlock HO.out hg1 HW.out.tok (by decide); have cz := cell_block k1 3; have fz := frozen_block k1 3; have HS1 := hid (RCWorld.step HW.out hg1 hb1 hown1); clear hown1 hb1 hg1 k1)
                    go_roundg (s.size - j2)
                    case rel => exact ⟨j2, f, _, _, rfl, by omega, rfl, HS1.out, HFJ.out, by simp; omega, HX.out⟩
                    case measure => omega
              · have hd : rrng lo (s.data.toList.drop j) = some (lo, s.data.toList.drop j) := by rw [dropAt s j hjs]; simp [rrng, d45]
                rw [hd] at hrd
                simp only [Option.bind_some] at hrd
                have HX := hid hrd
                have HFJ := hid hfj
                have g45 : ((s[j].toNat : Int) == 45) = false := beq_eq_false_iff_ne.2 (by omega)
                clear hrd hfj hd
                go_wp2_with fail
                refine (readChar_any s k true (by omega) (by omega) _).mono ?_
                rintro e wx ⟨rfl, rfl⟩
                rw [HRC.out]
                rename World => wr
                go_wp2_with (at_builtin; go_must (refine wpList_appR wr rfl (.tmp 74) (.tmp 78) 22 rfl Ybzm.underlying22 Ybzm.infoRange (w.heap.size + 2) _ rs (by rfl) HO.out lo lo _ rfl rfl (by omega) HSZ.out ?_); intro ao1 cp1 w1 hown1 hb1 hg1; have k1 := keepBlock HO.out hg1 HW.out.tok (by decide); have cz := cell_block k1 3; have fz := frozen_block k1 3; have HS1 := hid (RCWorld.step HW.out hg1 hb1 hown1); clear hown1 hb1 hg1 k1)
                go_roundg (s.size - j)
                case rel => exact ⟨j, f, _, _, rfl, by omega, rfl, HS1.out, HFJ.out, by simp; omega, HX.out⟩
                case measure => omega
            · have hd : rrng lo (s.data.toList.drop j) = some (lo, s.data.toList.drop j) := by rw [dropEnd s j (by omega)]; rfl
              rw [hd] at hrd
              simp only [Option.bind_some] at hrd
              have HX := hid hrd
              have HFJ := hid hfj
              clear hrd hfj hd
              go_wp2_with fail
              refine (readChar_any s k true (by omega) (by omega) _).mono ?_
              rintro e wx ⟨rfl, rfl⟩
              rw [HRC.out]
              rename World => wr
              go_wp2_with (at_builtin; go_must (refine wpList_appR wr rfl (.tmp 74) (.tmp 78) 22 rfl Ybzm.underlying22 Ybzm.infoRange (w.heap.size + 2) _ rs (by rfl) HO.out lo lo _ rfl rfl (by omega) HSZ.out ?_); intro ao1 cp1 w1 hown1 hb1 hg1; have k1 := keepBlock HO.out hg1 HW.out.tok (by decide); have cz := cell_block k1 3; have fz := frozen_block k1 3; have HS1 := hid (RCWorld.step HW.out hg1 hb1 hown1); clear hown1 hb1 hg1 k1)
              go_roundg (s.size - j)
              case rel => exact ⟨j, f, _, _, rfl, by omega, rfl, HS1.out, HFJ.out, by simp; omega, HX.out⟩
              case measure => omega
      · have hrd := HRR.out
        rw [dropEnd s k (by omega)] at hrd
        have HX : Hid (R = none) := hid (by cases f <;> exact hrd.symm)
        clear hrd HRR HFF
        go_wp2_with fail
        exact bodyPost_ret (v := .tuple #[.agg #[.int .i64 0, .int .u8 0, .bool false, .slice none 0 0], .int .i64 0, .bool false]) (by simp [results, Ybzm.results34, go_sem, z0, z1, z2, z3]) rfl (finNone.out _ HX.out (((((HW.out.below).setCell (Nat.le_refl _) _).setCell (Nat.le_refl _) _).setCell (Nat.le_refl _) _).setCell (Nat.le_refl _) _))
  · go_enter Ybzm.func34, Ybzm.ntmps34
    go_wp2_with fail
    go_loopg [1] (s.size - i1) (fun g a wr => ∃ (k f : Nat) (rs : List (UInt8 × UInt8)) (v : Value), g = s.size - k ∧ k ≤ s.size + 1 ∧ a = .int .i64 k ∧ RCWorld w.heap.size w wr false v rs ∧ s.size - k < f ∧ rs.length ≤ k ∧ rcl f rs (s.data.toList.drop k) = R)
    case atStart =>
      refine ⟨_, _, [], .slice none 0 0, rfl, by omega, by go_num, ?_, HF.out, by simp, HR.out⟩
      refine ⟨?_, ?_, OwnR.nil _ _, ?_⟩
      · rw [block_alloc (block_new w _ 26)]
      · have := block_new (w.alloc (.cells #[.int .i64 0, .int .u8 0, .bool false, .slice none 0 0] 26)) #[.int .i64 3, .int .u8 0, .bool false, .slice none 0 0] 26
        simpa using this
      · exact ((Below.refl _ _).alloc (Nat.le_refl _) _).alloc (by simp) _
    case round =>
      obtain ⟨k, f, rs, v, rfl, hk, rfl, hW, hf, hrk, hr⟩ := hrel
      clear HF HR
      have HFF := hid hf
      have HRR := hid hr
      obtain ⟨ao, cp, hv, hcp, hcp2, hba⟩ := hW.own.shape
      subst hv
      have HW := hid hW
      have HO := hid hW.own
      have z0 := cell_block hW.zero 0
      have z1 := cell_block hW.zero 1
      have z2 := cell_block hW.zero 2
      have z3 := cell_block hW.zero 3
      have y0 := frozen_block hW.zero 0
      have y1 := frozen_block hW.zero 1
      have y2 := frozen_block hW.zero 2
      have y3 := frozen_block hW.zero 3
      have t0 := cell_block hW.tok 0
      have t1 := cell_block hW.tok 1
      have t2 := cell_block hW.tok 2
      have t3 := cell_block hW.tok 3
      have hsz : w.heap.size + 2 ≤ wr.heap.size := by have := (Array.getElem?_eq_some_iff.1 hW.tok).1; omega
      have HSZ := hid hsz
      simp only [List.getElem?_toArray, List.getElem?_cons_zero, List.getElem?_cons_succ] at z0 z1 z2 z3 t0 t1 t2 t3
      clear hf hr hW hba hcp hcp2
      by_cases hks : k < s.size
      · obtain ⟨f, rfl⟩ : ∃ g, f = g + 1 := ⟨f - 1, by have := HFF.out; omega⟩
        have hrd := HRR.out
        rw [dropAt s k hks] at hrd
        unfold rcl at hrd
        by_cases c93 : s[k].toNat = 93
        · rw [if_pos c93] at hrd
          by_cases hrs : rs = []
          · subst hrs
            have HX : Hid (R = none) := hid (by rw [← hrd]; rfl)
            clear hrd HRR HFF
            simp only [List.length_nil] at t3
            go_wp2_with fail
            exact bodyPost_ret (v := .tuple #[.agg #[.int .i64 0, .int .u8 0, .bool false, .slice none 0 0], .int .i64 0, .bool false]) (by simp [results, Ybzm.results34, go_sem, z0, z1, z2, z3]) rfl (finNone.out _ HX.out (((((HW.out.below).setCell (Nat.le_refl _) _).setCell (Nat.le_refl _) _).setCell (Nat.le_refl _) _).setCell (Nat.le_refl _) _))
          · have hpos : 0 < rs.length := List.length_pos_iff.2 hrs
            rw [if_neg hrs] at hrd
            have HX : Hid (R = some (rs, s.data.toList.drop (k + 1))) := hid hrd.symm
            have hnz : ((rs.length : Int) == 0) = false := beq_eq_false_iff_ne.2 (by omega)
            clear hrd HRR HFF
            go_wp2_with fail
            exact bodyPost_ret (v := .tuple #[.agg #[.int .i64 3, .int .u8 0, .bool false, .slice ao rs.length cp], .int .i64 ((k + 1 : Nat) : Int), .bool true]) (by simp [results, Ybzm.results34, go_sem, z0, z1, z2, z3]) rfl (finSome.out _ rs _ _ (k + 1) HX.out (by rw [dropLen]; omega) (ownsRow_setCell_below (ownsRow_setCell_below (ownsRow_setCell_below (ownsRow_setCell_below HO.out (by simp) _) (by simp) _) (by simp) _) (by simp) _) hrs (((((HW.out.below).setCell (Nat.le_refl _) _).setCell (Nat.le_refl _) _).setCell (Nat.le_refl _) _).setCell (Nat.le_refl _) _))
        · rw [if_neg c93, ← dropAt s k hks] at hrd
          have f93 : ((s[k].toNat : Int) != 93) = true := by rw [bne_iff_ne]; omega
          rcases rcv_rdIn s k with ⟨hmc, hrc⟩ | ⟨lo, j, hkj, hj, hmc, hrc⟩
          · rw [hmc] at hrd
            have HX : Hid (R = none) := hid hrd.symm
            have HRC := hid hrc
            clear hrd HRR HFF hmc hrc
            go_wp2_with fail
            refine (readChar_any s k true (by omega) (by omega) _).mono ?_
            rintro e w1 ⟨rfl, rfl⟩
            rw [HRC.out]
            go_wp2_with fail
            exact bodyPost_ret (v := .tuple #[.agg #[.int .i64 0, .int .u8 0, .bool false, .slice none 0 0], .int .i64 0, .bool false]) (by simp [results, Ybzm.results34, go_sem, z0, z1, z2, z3]) rfl (finNone.out _ HX.out (((((HW.out.below).setCell (Nat.le_refl _) _).setCell (Nat.le_refl _) _).setCell (Nat.le_refl _) _).setCell (Nat.le_refl _) _))
          · rw [hmc] at hrd
            simp only [Option.bind_some] at hrd
            have HRC := hid hrc
            have hfj : s.size - j < f := by have := HFF.out; omega
            clear hmc hrc HRR HFF
            by_cases hjs : j < s.size
            · by_cases d45 : s[j].toNat = 45
              · have hd : rrng lo (s.data.toList.drop j) = (rdIn (s.data.toList.drop (j + 1))).bind fun p => if p.1.toNat < lo.toNat then none else some p := by rw [dropAt s j hjs]; simp [rrng, d45]
                rw [hd] at hrd
                clear hd
                rcases rcv_rdIn s (j + 1) with ⟨hmc2, hrc2⟩ | ⟨hi, j2, hkj2, hj2, hmc2, hrc2⟩
                · rw [hmc2] at hrd
                  have HX : Hid (R = none) := hid hrd.symm
                  have HRC2 := hid hrc2
                  clear hrd hmc2 hrc2
                  go_wp2_with fail
                  refine (readChar_any s k true (by omega) (by omega) _).mono ?_
                  rintro e w1 ⟨rfl, rfl⟩
                  rw [HRC.out]
                  go_wp2_with fail
                  refine (readChar_any s (j + 1) true (by omega) (by omega) _).mono ?_
                  rintro e w2 ⟨rfl, rfl⟩
                  rw [HRC2.out]
                  go_wp2_with fail
                  exact bodyPost_ret (v := .tuple #[.agg #[.int .i64 0, .int .u8 0, .bool false, .slice none 0 0], .int .i64 0, .bool false]) (by simp [results, Ybzm.results34, go_sem, z0, z1, z2, z3]) rfl (finNone.out _ HX.out (((((HW.out.below).setCell (Nat.le_refl _) _).setCell (Nat.le_refl _) _).setCell (Nat.le_refl _) _).setCell (Nat.le_refl _) _))
                · rw [hmc2] at hrd
                  simp only [Option.bind_some] at hrd
                  have HRC2 := hid hrc2
                  clear hmc2 hrc2
                  by_cases hlt : hi.toNat < lo.toNat
                  · rw [if_pos hlt] at hrd
                    have HX : Hid (R = none) := hid hrd.symm
                    clear hrd
                    go_wp2_with fail
                    refine (readChar_any s k true (by omega) (by omega) _).mono ?_
                    rintro e w1 ⟨rfl, rfl⟩
                    rw [HRC.out]
                    go_wp2_with fail
                    refine (readChar_any s (j + 1) true (by omega) (by omega) _).mono ?_
                    rintro e w2 ⟨rfl, rfl⟩
                    rw [HRC2.out]
                    go_wp2_with fail
                    exact bodyPost_ret (v := .tuple #[.agg #[.int .i64 0, .int .u8 0, .bool false, .slice none 0 0], .int .i64 0, .bool false]) (by simp [results, Ybzm.results34, go_sem, z0, z1, z2, z3]) rfl (finNone.out _ HX.out (((((HW.out.below).setCell (Nat.le_refl _) _).setCell (Nat.le_refl _) _).setCell (Nat.le_refl _) _).setCell (Nat.le_refl _) _))
                  · rw [if_neg hlt] at hrd
                    simp only [Option.bind_some] at hrd
                    have HX := hid hrd
                    have hfj2 : s.size - j2 < f := by omega
                    have HFJ := hid hfj2
                    clear hrd hfj hfj2
                    go_wp2_with fail
                    refine (readChar_any s k true (by omega) (by omega) _).mono ?_
                    rintro e wx ⟨rfl, rfl⟩
                    rw [HRC.out]
                    go_wp2_with fail
                    refine (readChar_any s (j + 1) true (by omega) (by omega) _).mono ?_
                    rintro e wy ⟨rfl, rfl⟩
                    rw [HRC2.out]
                    rename World => wr
                    go_wp2_with (at_builtin; go_must (refine wpList_appR wr rfl (.tmp 74) (.tmp 78) 22 rfl Ybzm.underlying22 Ybzm.infoRange (w.heap.size + 2) _ rs (by rfl) HO.out lo hi _ rfl rfl (by omega) HSZ.out ?_); intro ao1 cp1 w1 hown1 hb1 hg1; have k1 := keepBlock HO.out hg1 HW.out.tok (by decide); have cz := cell_block k1 3; have fz := frozen_block k1 3; have HS1 := hid (RCWorld.step HW.out hg1 hb1 hown1); clear hown1 hb1 hg1 k1)
                    go_roundg (s.size - j2)
                    case rel => exact ⟨j2, f, _, _, rfl, by omega, rfl, HS1.out, HFJ.out, by simp; omega, HX.out⟩
                    case measure => omega
              · have hd : rrng lo (s.data.toList.drop j) = some (lo, s.data.toList.drop j) := by rw [dropAt s j hjs]; simp [rrng, d45]
                rw [hd] at hrd
                simp only [Option.bind_some] at hrd
                have HX := hid hrd
                have HFJ := hid hfj
                have g45 : ((s[j].toNat : Int) == 45) = false := beq_eq_false_iff_ne.2 (by omega)
                clear hrd hfj hd
                go_wp2_with fail
                refine (readChar_any s k true (by omega) (by omega) _).mono ?_
                rintro e wx ⟨rfl, rfl⟩
                rw [HRC.out]
                rename World => wr
                go_wp2_with (at_builtin; go_must (refine wpList_appR wr rfl (.tmp 74) (.tmp 78) 22 rfl Ybzm.underlying22 Ybzm.infoRange (w.heap.size + 2) _ rs (by rfl) HO.out lo lo _ rfl rfl (by omega) HSZ.out ?_); intro ao1 cp1 w1 hown1 hb1 hg1; have k1 := keepBlock HO.out hg1 HW.out.tok (by decide); have cz := cell_block k1 3; have fz := frozen_block k1 3; have HS1 := hid (RCWorld.step HW.out hg1 hb1 hown1); clear hown1 hb1 hg1 k1)
                go_roundg (s.size - j)
                case rel => exact ⟨j, f, _, _, rfl, by omega, rfl, HS1.out, HFJ.out, by simp; omega, HX.out⟩
                case measure => omega
            · have hd : rrng lo (s.data.toList.drop j) = some (lo, s.data.toList.drop j) := by rw [dropEnd s j (by omega)]; rfl
              rw [hd] at hrd
              simp only [Option.bind_some] at hrd
              have HX := hid hrd
              have HFJ := hid hfj
              clear hrd hfj hd
              go_wp2_with fail
              refine (readChar_any s k true (by omega) (by omega) _).mono ?_
              rintro e wx ⟨rfl, rfl⟩
              rw [HRC.out]
              rename World => wr
              go_wp2_with (at_builtin; go_must (refine wpList_appR wr rfl (.tmp 74) (.tmp 78) 22 rfl Ybzm.underlying22 Ybzm.infoRange (w.heap.size + 2) _ rs (by rfl) HO.out lo lo _ rfl rfl (by omega) HSZ.out ?_); intro ao1 cp1 w1 hown1 hb1 hg1; have k1 := keepBlock HO.out hg1 HW.out.tok (by decide); have cz := cell_block k1 3; have fz := frozen_block k1 3; have HS1 := hid (RCWorld.step HW.out hg1 hb1 hown1); clear hown1 hb1 hg1 k1)
              go_roundg (s.size - j)
              case rel => exact ⟨j, f, _, _, rfl, by omega, rfl, HS1.out, HFJ.out, by simp; omega, HX.out⟩
              case measure => omega
      · have hrd := HRR.out
        rw [dropEnd s k (by omega)] at hrd
        have HX : Hid (R = none) := hid (by cases f <;> exact hrd.symm)
        clear hrd HRR HFF
        go_wp2_with fail
        exact bodyPost_ret (v := .tuple #[.agg #[.int .i64 0, .int .u8 0, .bool false, .slice none 0 0], .int .i64 0, .bool false]) (by simp [results, Ybzm.results34, go_sem, z0, z1, z2, z3]) rfl (finNone.out _ HX.out (((((HW.out.below).setCell (Nat.le_refl _) _).setCell (Nat.le_refl _) _).setCell (Nat.le_refl _) _).setCell (Nat.le_refl _) _))
end Go.Proofs.Ymbrbz

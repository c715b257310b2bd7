import Derived.Test.YmbrbzCmap
import Derived.Test.YmbrbzVlaws
import Derived.Test.YmbrbzValid
import Derived.Test.YmbrbzCItems
import Derived.Test.YmbrbzKeep
import Derived.Test.YmbrbzBytes4
namespace Go.Proofs.Ymbrbz
open Go.RowKit

theorem escs_take_succ (l : List UInt8) (k : Nat) (hk : k < l.length) : escs (l.take (k + 1)) = escs (l.take k) ++ [92, l.getD k 0] := by
  unfold escs
  rw [List.take_succ_eq_append_getElem hk, List.flatMap_append]
  simp [List.getD_eq_getElem?_getD, List.getElem?_eq_getElem hk]
theorem escs_length (l : List UInt8) : (escs l).length = 2 * l.length := by
  induction l with
  | nil => rfl
  | cons c t ih => simp only [escs, List.flatMap_cons, List.length_append, List.length_cons, List.length_nil] at *; omega
theorem itemsTxt_take_succ (l : List (UInt8 × UInt8 × Bool)) (k : Nat) (hk : k < l.length) : itemsTxt (l.take (k + 1)) = itemsTxt (l.take k) ++ itemTxt (l.getD k (0, 0, false)) := by
  unfold itemsTxt
  rw [List.take_succ_eq_append_getElem hk, List.flatMap_append]
  simp [List.getD_eq_getElem?_getD, List.getElem?_eq_getElem hk]
theorem itemsTxt_length (l : List (UInt8 × UInt8 × Bool)) : (itemsTxt l).length ≤ 5 * l.length := by
  induction l with
  | nil => simp [itemsTxt]
  | cons c t ih =>
    have : (itemTxt c).length ≤ 5 := by unfold itemTxt; split <;> simp
    simp only [itemsTxt, List.flatMap_cons, List.length_append, List.length_cons] at *
    omega
theorem openTxt_length (pre : List UInt8) (neg : Bool) (l : List (UInt8 × UInt8 × Bool)) : (openTxt pre neg l).length ≤ 2 * pre.length + 2 + 5 * l.length := by
  unfold openTxt
  have h1 := escs_length pre
  have h2 := itemsTxt_length l
  cases neg <;> simp [h1] <;> omega
theorem all_take_succ (l : List (UInt8 × UInt8 × Bool)) (k : Nat) (hk : k < l.length) : (l.take (k + 1)).all itemOk = ((l.take k).all itemOk && itemOk (l.getD k (0, 0, false))) := by
  rw [List.take_succ_eq_append_getElem hk, List.all_append]
  simp [List.getD_eq_getElem?_getD, List.getElem?_eq_getElem hk]
theorem openTxt_succ (pre : List UInt8) (neg : Bool) (l : List (UInt8 × UInt8 × Bool)) (k : Nat) (hk : k < l.length) : openTxt pre neg (l.take (k + 1)) = openTxt pre neg (l.take k) ++ itemTxt (l.getD k (0, 0, false)) := by
  unfold openTxt
  rw [itemsTxt_take_succ l k hk]
  simp only [List.append_assoc]

theorem val_bool {a b : Bool} (h : a = b) : Value.bool a = .bool b := by rw [h]
theorem str_app (s t : ByteArray) : (s ++ t).data.toList = s.data.toList ++ t.data.toList := by simp

set_option maxHeartbeats 4000000 in
theorem cbuilt (w : World) (a : Option Addr) (n cap : Nat) (ps : List UInt8) (hl : ps.length = n) (hm : n ≤ cap ∧ cap ≤ 9223372036854775807) (hr : BytesAt w a ps) (neg : Bool)
    (a2 : Option Addr) (n2 cap2 : Nat) (its : List (UInt8 × UInt8 × Bool)) (hl2 : its.length = n2) (hm2 : n2 ≤ cap2 ∧ cap2 ≤ 9223372036854775807) (hr2 : CItemsAt w a2 its)
    (a3 : Option Addr) (n3 cap3 : Nat) (tl : List UInt8) (hl3 : tl.length = n3) (hm3 : n3 ≤ cap3 ∧ cap3 ≤ 9223372036854775807) (hr3 : BytesAt w a3 tl) :
    Calls Ybzm.prog 10 #[.slice a n cap, .bool neg, .slice a2 n2 cap2, .slice a3 n3 cap3] w fun e w' => e = .returned (.bool true) ∧ Below w.heap.size w w' := by
  have hn : n ≤ 9223372036854775807 := Nat.le_trans hm.1 hm.2
  have hn2 : n2 ≤ 9223372036854775807 := Nat.le_trans hm2.1 hm2.2
  have hn3 : n3 ≤ 9223372036854775807 := Nat.le_trans hm3.1 hm3.2
  clear hm hm2 hm3
  by_cases hb1 : 512 < n
  · go_enter Ybzm.func10, Ybzm.ntmps10
    go_wp2_with fail
    go_ret
    exact ⟨rfl, Below.refl _ _⟩
  have q1 : decide ((512 : Int) < (n : Int)) = false := decide_eq_false (by omega)
  by_cases hb2 : 512 < n2
  · go_enter Ybzm.func10, Ybzm.ntmps10
    go_wp2_with fail
    go_ret
    exact ⟨rfl, Below.refl _ _⟩
  have q2 : decide ((512 : Int) < (n2 : Int)) = false := decide_eq_false (by omega)
  by_cases hb3 : 512 < n3
  · go_enter Ybzm.func10, Ybzm.ntmps10
    go_wp2_with fail
    go_ret
    exact ⟨rfl, Below.refl _ _⟩
  have q3 : decide ((512 : Int) < (n3 : Int)) = false := decide_eq_false (by omega)
  have HR := hid hr
  have HL := hid hl
  have HR2 := hid hr2
  have HL2 := hid hl2
  have HR3 := hid hr3
  have HL3 := hid hl3
  clear hr hl hr2 hl2 hr3 hl3
  go_enter Ybzm.func10, Ybzm.ntmps10
  go_wp2_with (at_make; go_must (refine wpList_makeB0 w rfl _ _ 30 rfl Ybzm.underlying30 Ybzm.info5 w.heap.size _ 16 rfl rfl rfl (by omega) (Nat.le_refl _) ?_); intro v1 w1 hown1 hbw1)
  have HO1 := hid hown1
  clear hown1
  go_wp2_with fail
  go_loopw [9, 33] (fun v j wr => ∃ k : Nat, k ≤ n ∧ j = .int .i64 k ∧ OwnB wr w.heap.size v (escs (ps.take k)) ∧ Below w.heap.size w wr) (fun _ j _ => n - (intOf j).toNat)
  case atStart => exact ⟨0, Nat.zero_le _, rfl, HO1.out, hbw1⟩
  case round =>
    obtain ⟨k, hk, rfl, hown, hb⟩ := hrel
    have HO := hid hown
    clear hown HO1 hbw1
    by_cases hkn : k < n
    · obtain ⟨b, off, rfl, g0⟩ := HR.out k (by rw [HL.out]; exact hkn)
      have c0 := (hb.cell (p := ⟨b, off + k, none⟩) (block_lt g0)).trans g0
      clear g0
      have HS := hid (escs_take_succ ps k (by rw [HL.out]; exact hkn))
      have hlen : (escs (ps.take k)).length ≤ 1024 := by rw [escs_length]; have := List.length_take_le k ps; omega
      generalize ps.getD k 0 = c at c0 HS
      go_wp2_with (at_builtin; go_must (refine wpList_appB wr rfl (.tmp 37) (.tmp 39) 30 rfl Ybzm.underlying30 Ybzm.info5 w.heap.size _ _ (by rfl) HO.out _ 2 2 [92, c] rfl rfl rfl (by simp; omega) hb.size ?_); intro v2 w2 hown2 hb2 _)
      rw [← HS.out] at hown2
      have HO2 := hid hown2
      clear hown2
      go_wp2_with fail
      go_roundw
      case rel => exact ⟨k + 1, by omega, by go_num, HO2.out, hb.trans hb2⟩
      case measure => simp [intOf]; omega
    · have hkk : ps.take k = ps := List.take_of_length_le (by rw [HL.out]; omega)
      have hown := HO.out
      rw [hkk] at hown
      have HOx := hid hown
      have hlen : (escs ps).length ≤ 1024 := by rw [escs_length, HL.out]; omega
      clear hown HO hkk
      cases neg
      · go_wp2_with (first
          | (at_builtin; refine wpList_appB1 wr rfl (.tmp 42) (.tmp 43) 30 rfl Ybzm.underlying30 Ybzm.info5 w.heap.size _ _ (by rfl) HOx.out 91 rfl (by omega) hb.size ?_; intro v2 w2 hown2 hb2)
          | (at_builtin; refine wpList_appB1 w2 rfl (.tmp 46) (.tmp 47) 30 rfl Ybzm.underlying30 Ybzm.info5 w.heap.size _ _ (by rfl) hown2 33 rfl (by simp; omega) (Nat.le_trans hb.size hb2.size) ?_; intro v3 w3 hown3 hb3))
        have HOy : Hid (OwnB w2 w.heap.size v2 (openTxt ps false [])) := hid (by unfold openTxt; simpa [itemsTxt] using hown2)
        have hbx := hb.trans hb2
        clear hown2 HOx hkn hk
        go_loopw [9, 12, 54] (fun v g j wr => ∃ k : Nat, k ≤ n2 ∧ j = .int .i64 k ∧ OwnB wr w.heap.size v (openTxt ps false (its.take k)) ∧ g = .bool (decide (0 < n2) && (its.take k).all itemOk) ∧ Below w.heap.size w wr) (fun _ _ j _ => n2 - (intOf j).toNat)
        case atStart => exact ⟨0, Nat.zero_le _, rfl, HOy.out, val_bool (by simp), hbx⟩
        case round =>
          clear hbx HOy
          obtain ⟨k, hk, rfl, hown, rfl, hb⟩ := hrel
          have HO := hid hown
          clear hown
          by_cases hkn : k < n2
          · obtain ⟨b, off, rfl, g0, g1, g2⟩ := HR2.out k (by rw [HL2.out]; exact hkn)
            have c0 := (hb.cell (p := ⟨b, off + k * 3, none⟩) (block_lt g0)).trans g0
            have c1 := (hb.cell (p := ⟨b, off + k * 3 + 1, none⟩) (block_lt g1)).trans g1
            have c2 := (hb.cell (p := ⟨b, off + k * 3 + 2, none⟩) (block_lt g2)).trans g2
            clear g0 g1 g2
            have HS := hid (openTxt_succ ps false its k (by rw [HL2.out]; exact hkn))
            have HA := hid (all_take_succ its k (by rw [HL2.out]; exact hkn))
            have hlen : (openTxt ps false (its.take k)).length ≤ 4000 := by
              have := openTxt_length ps false (its.take k)
              have h2 := List.length_take_le k its
              rw [HL.out] at this
              omega
            generalize its.getD k (0, 0, false) = it at c0 c1 c2 HS HA
            obtain ⟨lo, hi, r⟩ := it
            obtain ⟨gd, hgd⟩ : ∃ gd, gd = (decide (0 < n2) && (its.take k).all itemOk) := ⟨_, rfl⟩
            rw [← hgd]
            have HGD := hid hgd
            clear hgd
            have hbA := fun o => hb.alloc hb.size o
            have HBA := hid hbA
            have B1 := block_new wr #[.int .u8 lo.toNat, .int .u8 hi.toNat, .bool r] 50
            have HOA := hid (HO.out.alloc (.cells #[.int .u8 lo.toNat, .int .u8 hi.toNat, .bool r] 50))
            have hszA : w.heap.size ≤ (wr.alloc (.cells #[.int .u8 lo.toNat, .int .u8 hi.toNat, .bool r] 50)).heap.size := (hbA _).size
            have HB1 := hid B1
            have HSZ := hid hszA
            clear B1 hszA HO hbA
            cases r
            · have HS2 : Hid (openTxt ps false (its.take (k + 1)) = openTxt ps false (its.take k) ++ [92, lo]) := HS
              have HA2 : Hid (gd = (decide (0 < n2) && (its.take (k + 1)).all itemOk)) := hid (by rw [HA.out, HGD.out]; simp [itemOk])
              clear HS HA HGD
              go_wp2_with (at_builtin; go_must (refine wpList_appBx (wr.alloc _) rfl (.tmp 58) (.tmp 61) 30 rfl Ybzm.underlying30 Ybzm.info5 w.heap.size _ _ (by rfl) HOA.out _ _ 2 2 [92, lo] rfl rfl rfl (by simp) (by simp; omega) HSZ.out ?_); intro v2 w2 hown2 hb2 hg2; have B2 := keepBlock HOA.out hg2 HB1.out (by decide); have d2 := cell_block B2 2; have HB2 := hid B2; clear B2)
              go_roundw
              case rel => exact ⟨k + 1, by omega, by go_num, by rw [HS2.out]; exact hown2, val_bool HA2.out, (HBA.out _).trans hb2⟩
              case measure => simp [intOf]; omega
            · have HS2 : Hid (openTxt ps false (its.take (k + 1)) = openTxt ps false (its.take k) ++ [92, lo] ++ [45, 92, hi]) := hid (by rw [HS.out]; simp [itemTxt])
              by_cases hlt : hi.toNat < lo.toNat
              · have HA2 : Hid (false = (decide (0 < n2) && (its.take (k + 1)).all itemOk)) := hid (by rw [HA.out]; simp [itemOk, hlt])
                clear HS HA HGD
                go_wp2_with (first
                | (at_builtin; refine wpList_appBx (wr.alloc _) rfl (.tmp 58) (.tmp 61) 30 rfl Ybzm.underlying30 Ybzm.info5 w.heap.size _ _ (by rfl) HOA.out _ _ 2 2 [92, lo] rfl rfl rfl (by simp) (by simp; omega) HSZ.out ?_; intro v2 w2 hown2 hb2 hg2; have B2 := keepBlock HOA.out hg2 HB1.out (by decide); have d20 := cell_block B2 0; have d21 := cell_block B2 1; have d22 := cell_block B2 2; have HB2 := hid B2; clear B2)
                | (at_builtin; refine wpList_appBx w2 rfl (.tmp 65) (.tmp 68) 30 rfl Ybzm.underlying30 Ybzm.info5 w.heap.size _ _ (by rfl) hown2 _ _ 3 3 [45, 92, hi] rfl rfl rfl rfl (by simp; omega) (Nat.le_trans HSZ.out hb2.size) ?_; intro v3 w3 hown3 hb3 hg3; have B3 := keepBlock hown2 hg3 HB2.out (by decide); have d30 := cell_block B3 0; have d31 := cell_block B3 1; have d32 := cell_block B3 2; have HB3 := hid B3; clear B3))
                go_roundw
                case rel => exact ⟨k + 1, by omega, by go_num, by rw [HS2.out]; exact hown3, val_bool HA2.out, ((HBA.out _).trans hb2).trans hb3⟩
                case measure => simp [intOf]; omega
              · have HA2 : Hid (gd = (decide (0 < n2) && (its.take (k + 1)).all itemOk)) := hid (by rw [HA.out, HGD.out]; simp [itemOk, hlt])
                clear HS HA HGD
                go_wp2_with (first
                | (at_builtin; refine wpList_appBx (wr.alloc _) rfl (.tmp 58) (.tmp 61) 30 rfl Ybzm.underlying30 Ybzm.info5 w.heap.size _ _ (by rfl) HOA.out _ _ 2 2 [92, lo] rfl rfl rfl (by simp) (by simp; omega) HSZ.out ?_; intro v2 w2 hown2 hb2 hg2; have B2 := keepBlock HOA.out hg2 HB1.out (by decide); have d20 := cell_block B2 0; have d21 := cell_block B2 1; have d22 := cell_block B2 2; have HB2 := hid B2; clear B2)
                | (at_builtin; refine wpList_appBx w2 rfl (.tmp 65) (.tmp 68) 30 rfl Ybzm.underlying30 Ybzm.info5 w.heap.size _ _ (by rfl) hown2 _ _ 3 3 [45, 92, hi] rfl rfl rfl rfl (by simp; omega) (Nat.le_trans HSZ.out hb2.size) ?_; intro v3 w3 hown3 hb3 hg3; have B3 := keepBlock hown2 hg3 HB2.out (by decide); have d30 := cell_block B3 0; have d31 := cell_block B3 1; have d32 := cell_block B3 2; have HB3 := hid B3; clear B3))
                go_roundw
                case rel => exact ⟨k + 1, by omega, by go_num, by rw [HS2.out]; exact hown3, val_bool HA2.out, ((HBA.out _).trans hb2).trans hb3⟩
                case measure => simp [intOf]; omega
          · have hkk : its.take k = its := List.take_of_length_le (by rw [HL2.out]; omega)
            have hown := HO.out
            rw [hkk] at hown ⊢
            have hconv := OwnB.conv (P := Ybzm.prog) hown 30 Ybzm.underlying30 Ybzm.underlying5 9 Ybzm.underlying9
            have hgc : (decide (0 < n2) && its.all itemOk) = goodC its := by rw [← HL2.out]; rfl
            rw [hgc]
            obtain ⟨s, hs⟩ : ∃ s, s = strOf (openTxt ps false its) := ⟨_, rfl⟩
            rw [← hs] at hconv
            have hsd : s.data.toList = openTxt ps false its := by rw [hs, strOf_data]
            have hsz : s.size ≤ 4000 := by
              rw [hs, strOf_size]
              have := openTxt_length ps false its
              rw [HL.out, HL2.out] at this
              omega
            have V1 : Hid (valid s.data.toList = false) := hid (by rw [hsd]; exact valid_open _ _ _)
            have V2 : Hid (valid (s ++ { data := #[93] }).data.toList = goodC its) := hid (by rw [str_app, hsd]; exact valid_closed _ _ _)
            have V3 : Hid (∀ el : List UInt8, valid (s ++ { data := #[93] } ++ strOf el).data.toList = (goodC its && valid el)) := hid (fun el => by rw [str_app, str_app, hsd, strOf_data]; exact valid_tail _ _ _ _)
            obtain ⟨gd, hgd⟩ : ∃ gd, gd = goodC its := ⟨_, rfl⟩
            rw [← hgd] at V2 V3 ⊢
            clear hown HO hkk hgc hs hsd hgd
            go_wp2_with fail
            refine (valid_any s _ (by omega)).mono ?_
            rintro e w4 ⟨rfl, rfl⟩
            rw [V1.out]
            go_wp2_with fail
            refine (cmap_any a3 n3 cap3 tl (by omega) HL3.out _ (HR3.out.below hb)).mono ?_
            rintro e w5 ⟨⟨el, hel, rfl⟩, hb5⟩
            have hels : (strOf el).size ≤ 512 := by rw [strOf_size, hel]; omega
            have V3e := hid (V3.out el)
            have V4 : Hid (valid (strOf el).data.toList = valid el) := hid (by rw [strOf_data])
            generalize strOf el = es at hels V3e V4 ⊢
            generalize valid el = ve at V3e V4
            clear hconv V3 hel
            have s1 : (s ++ { data := #[93] }).size ≤ 4001 := by rw [ByteArray.size_append]; exact Nat.add_le_add hsz (Nat.le_refl 1)
            go_wp2_with fail
            refine (valid_any _ _ (by omega)).mono ?_
            rintro e w6 ⟨rfl, rfl⟩
            rw [V2.out]
            have s2 : (s ++ { data := #[93] } ++ es).size ≤ 5000 := by rw [ByteArray.size_append]; omega
            cases gd
            · go_wp2_with fail
              refine (valid_any _ _ (by omega)).mono ?_
              rintro e w7 ⟨rfl, rfl⟩
              rw [V3e.out]
              go_wp2_with fail
              go_ret
              exact ⟨ret_boolV (by simp), hb.trans (hb5.mono hb.size)⟩
            · go_wp2_with fail
              refine (valid_any _ _ (by omega)).mono ?_
              rintro e w7 ⟨rfl, rfl⟩
              rw [V3e.out]
              go_wp2_with fail
              refine (valid_any _ _ (by omega)).mono ?_
              rintro e w8 ⟨rfl, rfl⟩
              rw [V4.out]
              go_wp2_with fail
              go_ret
              exact ⟨ret_boolV (by simp), hb.trans (hb5.mono hb.size)⟩
      · go_wp2_with (first
          | (at_builtin; refine wpList_appB1 wr rfl (.tmp 42) (.tmp 43) 30 rfl Ybzm.underlying30 Ybzm.info5 w.heap.size _ _ (by rfl) HOx.out 91 rfl (by omega) hb.size ?_; intro v2 w2 hown2 hb2)
          | (at_builtin; refine wpList_appB1 w2 rfl (.tmp 46) (.tmp 47) 30 rfl Ybzm.underlying30 Ybzm.info5 w.heap.size _ _ (by rfl) hown2 33 rfl (by simp; omega) (Nat.le_trans hb.size hb2.size) ?_; intro v3 w3 hown3 hb3))
        have HOy : Hid (OwnB w3 w.heap.size v3 (openTxt ps true [])) := hid (by unfold openTxt; simpa [itemsTxt] using hown3)
        have hbx := (hb.trans hb2).trans hb3
        clear hown2 hown3 HOx hkn hk
        go_loopw [9, 12, 54] (fun v g j wr => ∃ k : Nat, k ≤ n2 ∧ j = .int .i64 k ∧ OwnB wr w.heap.size v (openTxt ps true (its.take k)) ∧ g = .bool (decide (0 < n2) && (its.take k).all itemOk) ∧ Below w.heap.size w wr) (fun _ _ j _ => n2 - (intOf j).toNat)
        case atStart => exact ⟨0, Nat.zero_le _, rfl, HOy.out, val_bool (by simp), hbx⟩
        case round =>
          clear hbx HOy
          obtain ⟨k, hk, rfl, hown, rfl, hb⟩ := hrel
          have HO := hid hown
          clear hown
          by_cases hkn : k < n2
          · obtain ⟨b, off, rfl, g0, g1, g2⟩ := HR2.out k (by rw [HL2.out]; exact hkn)
            have c0 := (hb.cell (p := ⟨b, off + k * 3, none⟩) (block_lt g0)).trans g0
            have c1 := (hb.cell (p := ⟨b, off + k * 3 + 1, none⟩) (block_lt g1)).trans g1
            have c2 := (hb.cell (p := ⟨b, off + k * 3 + 2, none⟩) (block_lt g2)).trans g2
            clear g0 g1 g2
            have HS := hid (openTxt_succ ps true its k (by rw [HL2.out]; exact hkn))
            have HA := hid (all_take_succ its k (by rw [HL2.out]; exact hkn))
            have hlen : (openTxt ps true (its.take k)).length ≤ 4000 := by
              have := openTxt_length ps true (its.take k)
              have h2 := List.length_take_le k its
              rw [HL.out] at this
              omega
            generalize its.getD k (0, 0, false) = it at c0 c1 c2 HS HA
            obtain ⟨lo, hi, r⟩ := it
            obtain ⟨gd, hgd⟩ : ∃ gd, gd = (decide (0 < n2) && (its.take k).all itemOk) := ⟨_, rfl⟩
            rw [← hgd]
            have HGD := hid hgd
            clear hgd
            have hbA := fun o => hb.alloc hb.size o
            have HBA := hid hbA
            have B1 := block_new wr #[.int .u8 lo.toNat, .int .u8 hi.toNat, .bool r] 50
            have HOA := hid (HO.out.alloc (.cells #[.int .u8 lo.toNat, .int .u8 hi.toNat, .bool r] 50))
            have hszA : w.heap.size ≤ (wr.alloc (.cells #[.int .u8 lo.toNat, .int .u8 hi.toNat, .bool r] 50)).heap.size := (hbA _).size
            have HB1 := hid B1
            have HSZ := hid hszA
            clear B1 hszA HO hbA
            cases r
            · have HS2 : Hid (openTxt ps true (its.take (k + 1)) = openTxt ps true (its.take k) ++ [92, lo]) := HS
              have HA2 : Hid (gd = (decide (0 < n2) && (its.take (k + 1)).all itemOk)) := hid (by rw [HA.out, HGD.out]; simp [itemOk])
              clear HS HA HGD
              go_wp2_with (at_builtin; go_must (refine wpList_appBx (wr.alloc _) rfl (.tmp 58) (.tmp 61) 30 rfl Ybzm.underlying30 Ybzm.info5 w.heap.size _ _ (by rfl) HOA.out _ _ 2 2 [92, lo] rfl rfl rfl (by simp) (by simp; omega) HSZ.out ?_); intro v2 w2 hown2 hb2 hg2; have B2 := keepBlock HOA.out hg2 HB1.out (by decide); have d2 := cell_block B2 2; have HB2 := hid B2; clear B2)
              go_roundw
              case rel => exact ⟨k + 1, by omega, by go_num, by rw [HS2.out]; exact hown2, val_bool HA2.out, (HBA.out _).trans hb2⟩
              case measure => simp [intOf]; omega
            · have HS2 : Hid (openTxt ps true (its.take (k + 1)) = openTxt ps true (its.take k) ++ [92, lo] ++ [45, 92, hi]) := hid (by rw [HS.out]; simp [itemTxt])
              by_cases hlt : hi.toNat < lo.toNat
              · have HA2 : Hid (false = (decide (0 < n2) && (its.take (k + 1)).all itemOk)) := hid (by rw [HA.out]; simp [itemOk, hlt])
                clear HS HA HGD
                go_wp2_with (first
                | (at_builtin; refine wpList_appBx (wr.alloc _) rfl (.tmp 58) (.tmp 61) 30 rfl Ybzm.underlying30 Ybzm.info5 w.heap.size _ _ (by rfl) HOA.out _ _ 2 2 [92, lo] rfl rfl rfl (by simp) (by simp; omega) HSZ.out ?_; intro v2 w2 hown2 hb2 hg2; have B2 := keepBlock HOA.out hg2 HB1.out (by decide); have d20 := cell_block B2 0; have d21 := cell_block B2 1; have d22 := cell_block B2 2; have HB2 := hid B2; clear B2)
                | (at_builtin; refine wpList_appBx w2 rfl (.tmp 65) (.tmp 68) 30 rfl Ybzm.underlying30 Ybzm.info5 w.heap.size _ _ (by rfl) hown2 _ _ 3 3 [45, 92, hi] rfl rfl rfl rfl (by simp; omega) (Nat.le_trans HSZ.out hb2.size) ?_; intro v3 w3 hown3 hb3 hg3; have B3 := keepBlock hown2 hg3 HB2.out (by decide); have d30 := cell_block B3 0; have d31 := cell_block B3 1; have d32 := cell_block B3 2; have HB3 := hid B3; clear B3))
                go_roundw
                case rel => exact ⟨k + 1, by omega, by go_num, by rw [HS2.out]; exact hown3, val_bool HA2.out, ((HBA.out _).trans hb2).trans hb3⟩
                case measure => simp [intOf]; omega
              · have HA2 : Hid (gd = (decide (0 < n2) && (its.take (k + 1)).all itemOk)) := hid (by rw [HA.out, HGD.out]; simp [itemOk, hlt])
                clear HS HA HGD
                go_wp2_with (first
                | (at_builtin; refine wpList_appBx (wr.alloc _) rfl (.tmp 58) (.tmp 61) 30 rfl Ybzm.underlying30 Ybzm.info5 w.heap.size _ _ (by rfl) HOA.out _ _ 2 2 [92, lo] rfl rfl rfl (by simp) (by simp; omega) HSZ.out ?_; intro v2 w2 hown2 hb2 hg2; have B2 := keepBlock HOA.out hg2 HB1.out (by decide); have d20 := cell_block B2 0; have d21 := cell_block B2 1; have d22 := cell_block B2 2; have HB2 := hid B2; clear B2)
                | (at_builtin; refine wpList_appBx w2 rfl (.tmp 65) (.tmp 68) 30 rfl Ybzm.underlying30 Ybzm.info5 w.heap.size _ _ (by rfl) hown2 _ _ 3 3 [45, 92, hi] rfl rfl rfl rfl (by simp; omega) (Nat.le_trans HSZ.out hb2.size) ?_; intro v3 w3 hown3 hb3 hg3; have B3 := keepBlock hown2 hg3 HB2.out (by decide); have d30 := cell_block B3 0; have d31 := cell_block B3 1; have d32 := cell_block B3 2; have HB3 := hid B3; clear B3))
                go_roundw
                case rel => exact ⟨k + 1, by omega, by go_num, by rw [HS2.out]; exact hown3, val_bool HA2.out, ((HBA.out _).trans hb2).trans hb3⟩
                case measure => simp [intOf]; omega
          · have hkk : its.take k = its := List.take_of_length_le (by rw [HL2.out]; omega)
            have hown := HO.out
            rw [hkk] at hown ⊢
            have hconv := OwnB.conv (P := Ybzm.prog) hown 30 Ybzm.underlying30 Ybzm.underlying5 9 Ybzm.underlying9
            have hgc : (decide (0 < n2) && its.all itemOk) = goodC its := by rw [← HL2.out]; rfl
            rw [hgc]
            obtain ⟨s, hs⟩ : ∃ s, s = strOf (openTxt ps true its) := ⟨_, rfl⟩
            rw [← hs] at hconv
            have hsd : s.data.toList = openTxt ps true its := by rw [hs, strOf_data]
            have hsz : s.size ≤ 4000 := by
              rw [hs, strOf_size]
              have := openTxt_length ps true its
              rw [HL.out, HL2.out] at this
              omega
            have V1 : Hid (valid s.data.toList = false) := hid (by rw [hsd]; exact valid_open _ _ _)
            have V2 : Hid (valid (s ++ { data := #[93] }).data.toList = goodC its) := hid (by rw [str_app, hsd]; exact valid_closed _ _ _)
            have V3 : Hid (∀ el : List UInt8, valid (s ++ { data := #[93] } ++ strOf el).data.toList = (goodC its && valid el)) := hid (fun el => by rw [str_app, str_app, hsd, strOf_data]; exact valid_tail _ _ _ _)
            obtain ⟨gd, hgd⟩ : ∃ gd, gd = goodC its := ⟨_, rfl⟩
            rw [← hgd] at V2 V3 ⊢
            clear hown HO hkk hgc hs hsd hgd
            go_wp2_with fail
            refine (valid_any s _ (by omega)).mono ?_
            rintro e w4 ⟨rfl, rfl⟩
            rw [V1.out]
            go_wp2_with fail
            refine (cmap_any a3 n3 cap3 tl (by omega) HL3.out _ (HR3.out.below hb)).mono ?_
            rintro e w5 ⟨⟨el, hel, rfl⟩, hb5⟩
            have hels : (strOf el).size ≤ 512 := by rw [strOf_size, hel]; omega
            have V3e := hid (V3.out el)
            have V4 : Hid (valid (strOf el).data.toList = valid el) := hid (by rw [strOf_data])
            generalize strOf el = es at hels V3e V4 ⊢
            generalize valid el = ve at V3e V4
            clear hconv V3 hel
            have s1 : (s ++ { data := #[93] }).size ≤ 4001 := by rw [ByteArray.size_append]; exact Nat.add_le_add hsz (Nat.le_refl 1)
            go_wp2_with fail
            refine (valid_any _ _ (by omega)).mono ?_
            rintro e w6 ⟨rfl, rfl⟩
            rw [V2.out]
            have s2 : (s ++ { data := #[93] } ++ es).size ≤ 5000 := by rw [ByteArray.size_append]; omega
            cases gd
            · go_wp2_with fail
              refine (valid_any _ _ (by omega)).mono ?_
              rintro e w7 ⟨rfl, rfl⟩
              rw [V3e.out]
              go_wp2_with fail
              go_ret
              exact ⟨ret_boolV (by simp), hb.trans (hb5.mono hb.size)⟩
            · go_wp2_with fail
              refine (valid_any _ _ (by omega)).mono ?_
              rintro e w7 ⟨rfl, rfl⟩
              rw [V3e.out]
              go_wp2_with fail
              refine (valid_any _ _ (by omega)).mono ?_
              rintro e w8 ⟨rfl, rfl⟩
              rw [V4.out]
              go_wp2_with fail
              go_ret
              exact ⟨ret_boolV (by simp), hb.trans (hb5.mono hb.size)⟩
end Go.Proofs.Ymbrbz

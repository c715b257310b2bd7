import Derived.Test.YmbrbzBytes1
import Derived.Test.YmbrbzBytes3
import Derived.Test.YmbrbzAppendChar
import Derived.Test.YmbrbzAid
namespace Go.Proofs.Ymbrbz
open Go.RowKit

set_option maxHeartbeats 1000000 in
theorem cmap_any (a : Option Addr) (n cap : Nat) (ps : List UInt8) (hn : n ≤ 1000000) (hl : ps.length = n) (w : World) (hr : BytesAt w a ps) :
    Calls Ybzm.prog 26 #[.slice a n cap] w fun e w' => (∃ l : List UInt8, l.length = n ∧ e = .returned (.string (strOf l))) ∧ Below w.heap.size w w' := by
  have HR := hid hr
  have HL := hid hl
  clear hr hl
  go_enter Ybzm.func26, Ybzm.ntmps26
  go_wp2_with (at_make; go_must (refine wpList_makeB0 w rfl _ (.tmp 7) 30 rfl Ybzm.underlying30 Ybzm.info5 w.heap.size _ n rfl rfl rfl (by omega) (Nat.le_refl _) ?_); intro v1 w1 hown1 hb1)
  have HO1 := hid hown1
  clear hown1
  go_wp2_with fail
  go_loopw [3, 11] (fun v j wr => ∃ k : Nat, k ≤ n ∧ j = .int .i64 k ∧ (∃ bl : List UInt8, bl.length = k ∧ OwnB wr w.heap.size v bl) ∧ Below w.heap.size w wr) (fun _ j _ => n - (intOf j).toNat)
  case atStart => exact ⟨0, Nat.zero_le _, rfl, ⟨[], rfl, HO1.out⟩, hb1⟩
  case round =>
    obtain ⟨k, hk, rfl, ⟨bl, hbl, hown⟩, hb⟩ := hrel
    have HO := hid hown
    have HBL := hid hbl
    clear hown hbl HO1 hb1
    by_cases hkn : k < n
    · obtain ⟨b, off, rfl, g0⟩ := HR.out k (by rw [HL.out]; exact hkn)
      have c0 := (hb.cell (p := ⟨b, off + k, none⟩) (block_lt g0)).trans g0
      clear g0
      generalize ps.getD k 0 = c at c0
      have bc := c.toNat_lt
      have i0 : (0 : Int) ≤ (c.toNat : Int) % 8 := by omega
      have i1 : (c.toNat : Int) % 8 < 8 := by omega
      go_wp2_with (at_builtin; go_must (refine wpList_appB1 wr rfl (.tmp 15) (.tmp 20) 30 rfl Ybzm.underlying30 Ybzm.info5 w.heap.size _ bl (by rfl) HO.out _ rfl (by rw [HBL.out]; omega) hb.size ?_); intro v2 w2 hown2 hb2)
      have HO2 := hid hown2
      clear hown2
      go_wp2_with fail
      go_roundw
      case rel => exact ⟨k + 1, by omega, by go_num, ⟨_, by simp [HBL.out], HO2.out⟩, hb.trans hb2⟩
      case measure => simp [intOf]; omega
    · have hkk : k = n := by omega
      have hconv := OwnB.conv (P := Ybzm.prog) HO.out 30 Ybzm.underlying30 Ybzm.underlying5 9 Ybzm.underlying9
      have HK := hid hkk
      clear hkk
      go_wp2_with fail
      go_ret
      exact ⟨⟨bl, by rw [HBL.out, HK.out], rfl⟩, hb⟩
end Go.Proofs.Ymbrbz

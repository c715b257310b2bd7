import Derived.Test.YmbrcbAppendChar
import Derived.Test.YmbrcbBytes2
import Derived.Test.YmbrcbAid
import Derived.Lib.SliceRun
namespace Go.Proofs.Ymbrcb
open Go.RowKit

set_option maxHeartbeats 400000 in
theorem ichoose_any (sel c : UInt8) (w : World) : Calls Ycbm.prog 9 #[.int .u8 sel.toNat, .int .u8 c.toNat] w fun e w' => (∃ d : UInt8, e = .returned (.int .u8 d.toNat)) ∧ w' = w := by
  have bs := sel.toNat_lt
  by_cases h : sel.toNat % 2 = 1
  · have i0 : (0 : Int) ≤ (sel.toNat : Int) / 2 % 11 := by omega
    have i1 : (sel.toNat : Int) / 2 % 11 < 11 := by omega
    go_enter Ycbm.func9, Ycbm.ntmps9
    go_wp2
    go_ret
    exact ⟨⟨_, rfl⟩, rfl⟩
  · go_enter Ycbm.func9, Ycbm.ntmps9
    go_wp2
    go_ret
    exact ⟨⟨c, rfl⟩, rfl⟩

theorem bytes_nil {w : World} {ps : List UInt8} (h : BytesAt w none ps) : ps = [] := by
  by_cases h0 : ps = []
  · exact h0
  · obtain ⟨b, off, e, _⟩ := h 0 (List.length_pos_iff.2 h0)
    cases e

set_option maxHeartbeats 400000 in
theorem icopy_any (a : Option Addr) (n cap : Nat) (ps : List UInt8) (hn : n ≤ 140737488355328) (hl : ps.length = n) (w : World) (hr : BytesAt w a ps) :
    Calls Ycbm.prog 10 #[.slice a n cap] w fun e w' => ∃ v, e = .returned v ∧ (v = .slice none 0 0 ∨ v = .slice (some ⟨w.heap.size, 0, none⟩) n n) ∧ OwnB w' w.heap.size v ps ∧ Below w.heap.size w w' := by
  have qT : ∀ (w : World) (a : Option Addr) (n c n' c' : Nat), (binOp .eql 22 (.slice a n c) (.slice none n' c')).run Ycbm.prog w = .ok (.bool a.isNone) w := fun w a n c n' c' => Lib.run_eql_slice_nil w 22 5 a n c n' c' Ycbm.underlying22
  cases a with
  | none =>
    have h0 := bytes_nil hr
    subst h0
    go_enter Ycbm.func10, Ycbm.ntmps10
    go_wp2
    go_ret
    exact ⟨_, rfl, .inl rfl, OwnB.nil _ _, Below.refl _ _⟩
  | some x =>
    have HR := hid hr
    have HL := hid hl
    clear hr hl
    go_enter Ycbm.func10, Ycbm.ntmps10
    go_wp2_with (at_make; go_must (refine wpList_makeB w rfl (.tmp 8) (.tmp 8) 22 rfl Ycbm.underlying22 Ycbm.info5 w.heap.size _ _ n rfl rfl rfl rfl (by omega) (Nat.le_refl _) ?_); intro w1 hown1 hb1)
    have HO1 := hid hown1
    clear hown1
    go_wp2_with fail
    go_loopw [4] (fun j wr => ∃ k : Nat, k ≤ n ∧ j = .int .i64 k ∧ OwnB wr w.heap.size (.slice (some ⟨w.heap.size, 0, none⟩) n n) (filled ps k n) ∧ Below w.heap.size w wr) (fun j _ => n - (intOf j).toNat)
    case atStart => exact ⟨0, Nat.zero_le _, rfl, by rw [filled_zero]; exact HO1.out, hb1⟩
    case round =>
      obtain ⟨k, hk, rfl, hown, hb⟩ := hrel
      have HO := hid hown
      clear hown HO1 hb1
      by_cases hkn : k < n
      · obtain ⟨b, off, ex, g0⟩ := HR.out k (by rw [HL.out]; exact hkn)
        simp at ex
        subst ex
        have c0 := (hb.cell (p := ⟨b, off + k, none⟩) (block_lt g0)).trans g0
        clear g0
        have cB := OwnB.cellAt HO.out (filled_length ps k n HL.out hk) k hkn
        have fB := OwnB.frozenAt HO.out (filled_length ps k n HL.out hk) k
        have hO2 := hid (OwnB.set HO.out (filled_length ps k n HL.out hk) k (ps.getD k 0))
        rw [filled_succ ps k n HL.out hkn] at hO2
        obtain ⟨c, hc⟩ : ∃ c, c = ps.getD k 0 := ⟨_, rfl⟩
        rw [← hc] at c0 hO2
        clear hc
        go_wp2_with fail
        go_roundw
        case rel => exact ⟨k + 1, by omega, by go_num, hO2.out, hb.setCell (Nat.le_refl _) _⟩
        case measure => simp [intOf]; omega
      · have hkk : k = n := by omega
        have hown := HO.out
        rw [hkk, filled_end ps n HL.out] at hown
        have HO2 := hid hown
        clear hown HO
        go_wp2_with fail
        go_ret
        exact ⟨_, rfl, .inr rfl, HO2.out, hb⟩
end Go.Proofs.Ymbrcb

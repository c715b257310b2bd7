import Derived.Test.YmbrcaMatchOne
import Derived.Test.YmbrcaBlocks
import Derived.Test.YmbrcaAid
import Derived.Deep.LoopGhost
namespace Go.Proofs.Ymbrca
open Go.RowKit

theorem val_of {a b : Bool} (h : a = b) : Value.bool a = .bool b := by rw [h]

set_option maxHeartbeats 4000000 in
theorem fone_any (kind : Int) (ch : UInt8) (neg : Bool) (a : Option Addr) (n cap : Nat) (rs : List (UInt8 × UInt8)) (hn : n ≤ 9223372036854775807) (hl : rs.length = n) (c : UInt8) (w : World) (hr : RangesAt w a rs) :
    Calls Ycam.prog 29 #[.agg #[.int .i64 kind, .int .u8 ch.toNat, .bool neg, .slice a n cap], .int .u8 c.toNat] w fun e w' => e = .returned (.bool (mOne kind ch neg rs c)) ∧ Below w.heap.size w w' := by
  by_cases h3 : kind = 3
  · subst h3
    have HV : Hid (mOne 3 ch neg rs c = (inR rs c != neg)) := by simp [Hid, mOne]
    rw [HV.out]
    have HR := hid hr
    have HL := hid hl
    have HTN := hid (block_new w #[.int .i64 3, .int .u8 ch.toNat, .bool neg, .slice a n cap] 31)
    clear HV hr hl
    go_enter Ycam.func29, Ycam.ntmps29
    go_wp2_with fail
    go_loopg [5, 6] n (fun g m i wr => ∃ k : Nat, g = n - k ∧ k ≤ n ∧ i = .int .i64 k ∧ m = .bool (inR (rs.take k) c) ∧ wr.heap[w.heap.size]? = some (.cells #[.int .i64 3, .int .u8 ch.toNat, .bool neg, .slice a n cap] 31 (0, 0)) ∧ Below w.heap.size w wr)
    case atStart => exact ⟨0, rfl, Nat.zero_le _, rfl, rfl, HTN.out, (Below.refl _ _).alloc (Nat.le_refl _) _⟩
    case round =>
      clear HTN
      obtain ⟨k, rfl, hk, rfl, rfl, hblk, hb⟩ := hrel
      have t2 := cell_block hblk 2
      have t3 := cell_block hblk 3
      simp only [List.getElem?_toArray, List.getElem?_cons_zero, List.getElem?_cons_succ] at t2 t3
      have HBLK := hid hblk
      clear hblk
      by_cases hkn : k < n
      · obtain ⟨b, off, rfl, g0, g1⟩ := HR.out k (by rw [HL.out]; exact hkn)
        have c0 := (hb.cell (p := ⟨b, off + k * 2, none⟩) (block_lt g0)).trans g0
        have c1 := (hb.cell (p := ⟨b, off + k * 2 + 1, none⟩) (block_lt g1)).trans g1
        have HS := inR_take_succ rs c k (by rw [HL.out]; exact hkn)
        generalize rs.getD k (0, 0) = r at c0 c1 HS
        obtain ⟨lo, hi⟩ := r
        simp only at c0 c1 HS
        have HT := hid HS
        clear HS g0 g1
        generalize inR (rs.take k) c = m0 at HT
        by_cases h1 : lo.toNat ≤ c.toNat
        · by_cases h2 : c.toNat ≤ hi.toNat
          · go_wp2_with fail
            go_roundg (n - (k + 1))
            case rel => exact ⟨k + 1, rfl, by omega, by go_num, val_of (by rw [HT.out]; simp [h1, h2]), HBLK.out, hb⟩
            case measure => omega
          · go_wp2_with fail
            go_roundg (n - (k + 1))
            case rel => exact ⟨k + 1, rfl, by omega, by go_num, val_of (by rw [HT.out]; simp [h1, h2]), HBLK.out, hb⟩
            case measure => omega
        · go_wp2_with fail
          go_roundg (n - (k + 1))
          case rel => exact ⟨k + 1, rfl, by omega, by go_num, val_of (by rw [HT.out]; simp [h1]), HBLK.out, hb⟩
          case measure => omega
      · have hkk : rs.take k = rs := List.take_of_length_le (by rw [HL.out]; omega)
        rw [hkk]
        clear hkk
        cases neg
        · go_wp2_with fail
          go_ret
          exact ⟨ret_bool (by simp), hb⟩
        · go_wp2_with fail
          go_ret
          exact ⟨ret_bool (by simp), hb⟩
  · have g3 : (kind != 3) = true := bne_iff_ne.2 h3
    by_cases h0 : kind = 0
    · subst h0
      have HV : Hid (mOne 0 ch neg rs c = decide (ch = c)) := by simp [Hid, mOne]
      rw [HV.out]
      by_cases hc : ch = c
      · subst hc
        go_enter Ycam.func29, Ycam.ntmps29
        go_wp2_with fail
        go_ret
        exact ⟨ret_bool (by simp), (Below.refl _ _).alloc (Nat.le_refl _) _⟩
      · have hne : ¬ ch.toNat = c.toNat := fun h => hc (UInt8.toNat_inj.1 h)
        have g : ((ch.toNat : Int) == (c.toNat : Int)) = false := beq_eq_false_iff_ne.2 (by omega)
        go_enter Ycam.func29, Ycam.ntmps29
        go_wp2_with fail
        go_ret
        exact ⟨ret_bool (by simp [hc]), (Below.refl _ _).alloc (Nat.le_refl _) _⟩
    · have g0 : (kind == 0) = false := beq_eq_false_iff_ne.2 h0
      by_cases h1 : kind = 1
      · subst h1
        have HV : Hid (mOne 1 ch neg rs c = true) := by simp [Hid, mOne]
        rw [HV.out]
        go_enter Ycam.func29, Ycam.ntmps29
        go_wp2_with fail
        go_ret
        exact ⟨rfl, (Below.refl _ _).alloc (Nat.le_refl _) _⟩
      · have g1 : (kind == 1) = false := beq_eq_false_iff_ne.2 h1
        have HV : Hid (mOne kind ch neg rs c = false) := by simp [Hid, mOne, h0, h1, h3]
        rw [HV.out]
        clear h0 h1 h3
        go_enter Ycam.func29, Ycam.ntmps29
        go_wp2_with fail
        go_ret
        exact ⟨rfl, (Below.refl _ _).alloc (Nat.le_refl _) _⟩
end Go.Proofs.Ymbrca

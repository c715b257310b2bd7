import Derived.Test.YmbrcaReadChar
import Derived.Test.YmbrcaGSmall
import Derived.Test.YmbrcaBytes2
import Derived.Test.YmbrcaAppendChar
namespace Go.Proofs.Ymbrca
open Go.RowKit

theorem gspecial_at (z : Int) (c : UInt8) (hz : z = c.toNat) (w : World) : Calls Ycam.prog 21 #[.int .u8 z] w fun e w' => e = .returned (.bool (gs c)) ∧ w' = w := by
  subst hz; exact gspecial_any c w

set_option maxHeartbeats 1000000 in
theorem gexact (w : World) (a : Option Addr) (n cap : Nat) (ps : List UInt8) (hl : ps.length = n) (hm : n ≤ cap ∧ cap ≤ 9223372036854775807) (hr : BytesAt w a ps) (z : Int) (hz : 0 ≤ z ∧ z ≤ 65535) (ic : Bool) :
    Calls Ycam.prog 8 #[.slice a n cap, .int .u16 z, .bool ic] w fun e w' => e = .returned (.bool true) ∧ Below w.heap.size w w' := by
  have hn : n ≤ 9223372036854775807 := Nat.le_trans hm.1 hm.2
  obtain ⟨hz0, hz1⟩ := hz
  clear hm
  by_cases hbig : 1024 < n
  · go_enter Ycam.func8, Ycam.ntmps8
    go_wp2_with fail
    go_ret
    exact ⟨rfl, Below.refl _ _⟩
  obtain ⟨i, hi⟩ : ∃ i : Nat, z % ((n : Int) + 2) = i := ⟨(z % ((n : Int) + 2)).toNat, by have := Int.emod_nonneg z (show (n : Int) + 2 ≠ 0 by omega); omega⟩
  have hin : i ≤ n + 1 := by have := Int.emod_lt_of_pos z (show 0 < (n : Int) + 2 by omega); omega
  obtain ⟨xs, hxs⟩ : ∃ xs, xs = ps.map gp := ⟨_, rfl⟩
  have hxl : xs.length = n := by rw [hxs]; simp [hl]
  have HX := hid hxs
  have HR := hid hr
  have HL := hid hl
  have HXL := hid hxl
  clear hr hl hxs hxl
  go_enter Ycam.func8, Ycam.ntmps8
  go_wp2_with (at_make; go_must (refine wpList_makeB w rfl (.tmp 20) (.tmp 20) 22 rfl Ycam.underlying22 Ycam.info5 w.heap.size _ _ n rfl rfl rfl rfl (by omega) (Nat.le_refl _) ?_); intro w1 hown1 hb1)
  have HO1 := hid hown1
  clear hown1
  go_wp2_with fail
  go_loopw [9] (fun j wr => ∃ k : Nat, k ≤ n ∧ j = .int .i64 k ∧ OwnB wr w.heap.size (.slice (some ⟨w.heap.size, 0, none⟩) n n) (filled xs k n) ∧ Below w.heap.size w wr) (fun j _ => n - (intOf j).toNat)
  case atStart => exact ⟨0, Nat.zero_le _, rfl, by rw [filled_zero]; exact HO1.out, hb1⟩
  case round =>
    obtain ⟨k, hk, rfl, hown, hb⟩ := hrel
    have HO := hid hown
    clear hown HO1 hb1
    by_cases hkn : k < n
    · obtain ⟨b, off, rfl, g0⟩ := HR.out k (by rw [HL.out]; exact hkn)
      have c0 := (hb.cell (p := ⟨b, off + k, none⟩) (block_lt g0)).trans g0
      clear g0
      have cB := OwnB.cellAt HO.out (filled_length xs k n HXL.out hk) k hkn
      have fB := OwnB.frozenAt HO.out (filled_length xs k n HXL.out hk) k
      have hO2 := hid (OwnB.set HO.out (filled_length xs k n HXL.out hk) k (xs.getD k 0))
      rw [filled_succ xs k n HXL.out hkn] at hO2
      obtain ⟨c, hc⟩ : ∃ c, c = ps.getD k 0 := ⟨_, rfl⟩
      rw [← hc] at c0
      have hg : xs.getD k 0 = gp c := by
        rw [HX.out, hc]
        have : k < ps.length := by rw [HL.out]; exact hkn
        simp [List.getD_eq_getElem?_getD, List.getElem?_eq_getElem this]
      rw [hg] at hO2
      clear hc hg
      go_wp2_with fail
      refine (gpick_any c _).mono ?_
      rintro e w2 ⟨rfl, rfl⟩
      go_wp2_with fail
      go_roundw
      case rel => exact ⟨k + 1, by omega, by go_num, hO2.out, hb.setCell (Nat.le_refl _) _⟩
      case measure => simp [intOf]; omega
    · have hkk : k = n := by omega
      have hown := HO.out
      rw [hkk, filled_end xs n HXL.out] at hown
      have hconv := OwnB.conv (P := Ycam.prog) hown 22 Ycam.underlying22 Ycam.underlying5 9 Ycam.underlying9
      obtain ⟨s, hs⟩ : ∃ s, s = strOf xs := ⟨_, rfl⟩
      rw [← hs] at hconv
      have hsz : n = s.size := by rw [hs, strOf_size, HXL.out]
      have hcell : Hid (∀ j (h : j < s.size), wr.cell? ⟨w.heap.size, j, none⟩ = some (.int .u8 s[j].toNat)) := by
        intro j h
        subst hs
        rw [strOf_getElem]
        rw [strOf_size] at h
        have := OwnB.cellAt hown HXL.out j (by rw [← HXL.out]; exact h)
        rw [this]
        simp [List.getD_eq_getElem?_getD, List.getElem?_eq_getElem h]
      clear HO hown hs HX HXL HL HR
      subst hsz
      rcases rcv_cases s i ic with ⟨h, e⟩ | ⟨h, h1, h2, e⟩ | ⟨h, h1, h2, e⟩ | ⟨h, h1, rfl, e⟩ | ⟨h, h1, rfl, e⟩ | ⟨h, h1, rfl, e⟩ | ⟨h, h1, h2, h3, rfl, e⟩
      all_goals have E := hid e
      all_goals clear e
      · go_wp2_with fail
        refine (readChar_at s _ i ic (by omega) (by omega) (by omega) _).mono ?_
        rintro e w2 ⟨rfl, rfl⟩
        rw [E.out]
        go_wp2_with fail
        go_ret
        exact ⟨rfl, hb⟩
      · have c1 := hcell.out i h
        go_wp2_with fail
        refine (readChar_at s _ i ic (by omega) (by omega) (by omega) _).mono ?_
        rintro e w2 ⟨rfl, rfl⟩
        rw [E.out]
        go_wp2_with fail
        go_ret
        exact ⟨rfl, hb⟩
      · have c1 := hcell.out i h
        have c2 := hcell.out (i + 1) h2
        go_wp2_with fail
        refine (readChar_at s _ i ic (by omega) (by omega) (by omega) _).mono ?_
        rintro e w2 ⟨rfl, rfl⟩
        rw [E.out]
        go_wp2_with fail
        go_ret
        exact ⟨ret_bool (by simp), hb⟩
      · have c1 := hcell.out i h
        have HG : Hid (gs s[i] = true) := by have : s[i] = 93 := UInt8.toNat_inj.1 h1; rw [this]; rfl
        have g92 : ((s[i].toNat : Int) == 92) = false := beq_eq_false_iff_ne.2 (by omega)
        go_wp2_with fail
        refine (gspecial_at _ s[i] (by omega) _).mono ?_
        rintro e w2 ⟨rfl, rfl⟩
        rw [HG.out]
        go_wp2_with fail
        refine (readChar_at s _ i _ (by omega) (by omega) (by omega) _).mono ?_
        rintro e w3 ⟨rfl, rfl⟩
        rw [E.out]
        go_wp2_with fail
        go_ret
        exact ⟨rfl, hb⟩
      · have c1 := hcell.out i h
        have HG : Hid (gs s[i] = true) := by have : s[i] = 45 := UInt8.toNat_inj.1 h1; rw [this]; rfl
        have g92 : ((s[i].toNat : Int) == 92) = false := beq_eq_false_iff_ne.2 (by omega)
        go_wp2_with fail
        refine (gspecial_at _ s[i] (by omega) _).mono ?_
        rintro e w2 ⟨rfl, rfl⟩
        rw [HG.out]
        go_wp2_with fail
        refine (readChar_at s _ i _ (by omega) (by omega) (by omega) _).mono ?_
        rintro e w3 ⟨rfl, rfl⟩
        rw [E.out]
        go_wp2_with fail
        go_ret
        exact ⟨rfl, hb⟩
      · have c1 := hcell.out i h
        have g92 : ((s[i].toNat : Int) == 92) = false := beq_eq_false_iff_ne.2 (by omega)
        go_wp2_with fail
        refine (readChar_at s _ i _ (by omega) (by omega) (by omega) _).mono ?_
        rintro e w3 ⟨rfl, rfl⟩
        rw [E.out]
        go_wp2_with fail
        go_ret
        exact ⟨ret_bool (by simp), hb⟩
      · have c1 := hcell.out i h
        have HG : Hid (gs s[i] = false) := by rcases gs_cases s[i] with ⟨q, _⟩ | ⟨q, _⟩ | ⟨q, _⟩ | ⟨_, _, _, q⟩ <;> first | exact q | omega
        have g92 : ((s[i].toNat : Int) == 92) = false := beq_eq_false_iff_ne.2 (by omega)
        go_wp2_with fail
        refine (gspecial_at _ s[i] (by omega) _).mono ?_
        rintro e w2 ⟨rfl, rfl⟩
        rw [HG.out]
        go_wp2_with fail
        refine (readChar_at s _ i _ (by omega) (by omega) (by omega) _).mono ?_
        rintro e w3 ⟨rfl, rfl⟩
        rw [E.out]
        go_wp2_with fail
        go_ret
        exact ⟨ret_bool (by simp), hb⟩
end Go.Proofs.Ymbrca

import Derived.Test.YmbrcaMatchLaw
import Derived.Test.YmbrcaFlags
import Derived.Test.YmbrcaBlocks
import Derived.Test.YmbrcaAid
import Derived.Deep.LoopGhost
import Derived.Deep.RegionWith
import Derived.RegionTactic
namespace Go.Proofs.Ymbrca
open Go.RowKit

theorem take_succ_str {s : ByteArray} {sl : List UInt8} (h : sl = s.data.toList) (j : Nat) (hj : j < s.size) : sl.take (j + 1) = sl.take j ++ [s[j]] := by
  rw [h, List.take_succ_eq_append_getElem (by simpa using hj)]; rfl

/-- The row while a star is handled: below j it is the new row, from j on the old one. -/
def starRow (p : List Tk) (t : Tk) (sl : List UInt8) (j i : Nat) : Bool := if i < j then mt (p ++ [t]) (sl.take i) else mt p (sl.take i)
/-- The row while a token for one byte is handled: above j it is the new row. -/
def oneRow (p : List Tk) (t : Tk) (sl : List UInt8) (j i : Nat) : Bool := if j < i then mt (p ++ [t]) (sl.take i) else mt p (sl.take i)

theorem wrap_nat (i : Nat) (h : i ≤ 9223372036854775807) : IntKind.i64.wrap (i : Int) = i := by
  rw [IntKind.wrap_i64]
  omega

set_option maxHeartbeats 4000000 in
set_option maxRecDepth 4000 in
theorem matchTokens_any (a : Option Addr) (n cap : Nat) (ts : List Tk) (hn : n ≤ 9223372036854775807) (hl : ts.length = n) (s : ByteArray) (hs : s.size ≤ 1000000) (w : World) (hr : TokensAt w a ts) :
    Calls Ycam.prog 17 #[.slice a n cap, .string s] w fun e w' => e = .returned (.bool (mt ts s.data.toList)) ∧ Below w.heap.size w w' := by
  obtain ⟨sl, hsl⟩ : ∃ sl, sl = s.data.toList := ⟨_, rfl⟩
  rw [← hsl]
  have hsll : sl.length = s.size := by rw [hsl]; simp
  have HSL := hid hsl
  have HSLL := hid hsll
  have HR := hid hr
  have HL := hid hl
  clear hsl hsll hr hl
  go_enter Ycam.func17, Ycam.ntmps17
  go_wp2_with (at_make; go_must (refine wpList_makeF w rfl (.tmp 12) (.tmp 12) 42 rfl Ycam.underlying42 Ycam.infoBool w.heap.size _ _ (s.size + 1) rfl rfl rfl rfl (by omega) (Nat.le_refl _) ?_); intro w1 hown1 hb1 hb1'; have cB := hown1.cellAt 0 (Nat.succ_pos _); have fB := hown1.frozenAt 0; have HO1 := hid (hown1.set 0 true); have hb2 := hb1.setCell (show w.heap.size ≤ (⟨w.heap.size, 0, none⟩ : Addr).block from Nat.le_refl _) (.bool true); clear hown1 hb1 hb1')
  clear cB fB
  go_loopg [18] n (fun g i wr => ∃ k : Nat, g = n - k ∧ k ≤ n ∧ i = .int .i64 k ∧ OwnF wr w.heap.size w.heap.size (s.size + 1) (fun j => mt (ts.take k) (sl.take j)) ∧ Below w.heap.size w wr)
  case atStart =>
    refine ⟨0, rfl, Nat.zero_le _, rfl, HO1.out.congr ?_, hb2⟩
    intro i hi
    have := HSLL.out
    cases i with
    | zero => simp [mt]
    | succ i => 
      simp only [List.take_zero, mt, Nat.succ_ne_zero, if_false]
      cases sl with
      | nil => simp at this; omega
      | cons x y => rfl
  case round =>
    clear HO1 hb2
    obtain ⟨k, rfl, hk, rfl, hown, hb⟩ := hrel
    have HO := hid hown
    clear hown
    by_cases hkn : k < n
    · obtain ⟨b, off, rfl, ta, tr⟩ := HR.out k (by rw [HL.out]; exact hkn)
      have hts : ts.take (k + 1) = ts.take k ++ [ts.getD k tk0] := by
        rw [List.take_succ_eq_append_getElem (by rw [HL.out]; exact hkn)]
        simp [List.getD_eq_getElem?_getD, List.getElem?_eq_getElem (show k < ts.length by rw [HL.out]; exact hkn)]
      have HTS := hid hts
      generalize ts.getD k tk0 = t at ta tr HTS
      have hbl := ta.lt
      have tw := ta.below hb hbl
      have c0 := tw.c0
      have c1 := tw.c1
      have c2 := tw.c2
      have c3 := tw.c3
      have TR := hid tr
      have HTN := hid (block_new wr #[.int .i64 t.kind, .int .u8 t.char.toNat, .bool t.neg, .slice t.ra t.rs.length t.cap] 31)
      have hbt := hb.alloc hb.size (.cells #[.int .i64 t.kind, .int .u8 t.char.toNat, .bool t.neg, .slice t.ra t.rs.length t.cap] 31)
      have hlt := HO.out.lt.2
      have HOT := hid (HO.out.kept ((Below.refl wr.heap.size wr).alloc (Nat.le_refl _) (.cells #[.int .i64 t.kind, .int .u8 t.char.toNat, .bool t.neg, .slice t.ra t.rs.length t.cap] 31)) hlt)
      clear hts ta tr tw HO
      by_cases h2 : t.kind = 2
      · have HK := hid h2
        rw [h2] at c0
        have HOT2 := HOT
        have HTN2 := HTN
        rw [h2] at HOT2 hbt
        clear HOT HTN
        clear h2
        go_wp2_with fail
        go_loopg [8] s.size (fun g v wx => ∃ j : Nat, g = s.size + 1 - j ∧ 1 ≤ j ∧ j ≤ s.size + 1 ∧ v = .int .i64 j ∧ OwnF wx w.heap.size w.heap.size (s.size + 1) (starRow (ts.take k) t sl j) ∧ Below w.heap.size w wx)
        case atStart =>
          refine ⟨1, rfl, by omega, by omega, rfl, HOT2.out.congr ?_, hbt⟩
          intro i hi
          unfold starRow
          by_cases h : i < 1
          · have : i = 0 := by omega
            subst this
            rw [if_pos (by omega), List.take_zero, fwd_star_zero _ _ HK.out]
          · rw [if_neg h]
        case round =>
          clear HOT2 hbt hb c0 c1 c2 c3 HTN2
          obtain ⟨j, rfl, hj1, hj, rfl, hown, hb⟩ := hrel
          by_cases hjs : j ≤ s.size
          · obtain ⟨i, rfl⟩ : ∃ i, j = i + 1 := ⟨j - 1, by omega⟩
            have q0 := hown.cellAt i (by omega)
            have q1 := hown.cellAt (i + 1) (by omega)
            have q2 := hown.frozenAt (i + 1)
            have hnx : ∀ v, v = (starRow (ts.take k) t sl (i + 1) (i + 1) || starRow (ts.take k) t sl (i + 1) i) → OwnF (wr.setCell ⟨w.heap.size, i + 1, none⟩ (.bool v)) w.heap.size w.heap.size (s.size + 1) (starRow (ts.take k) t sl (i + 1 + 1)) := by
              intro v hv
              refine (hown.set (i + 1) v).congr ?_
              intro x hx
              by_cases e : x = i + 1
              · subst e
                rw [if_pos rfl, hv]
                simp only [starRow, Nat.lt_irrefl, if_false, Nat.lt_succ_self, if_true]
                rw [take_succ_str HSL.out i (by omega), fwd_star_succ _ _ HK.out]
              · rw [if_neg e]
                unfold starRow
                by_cases h : x < i + 1
                · rw [if_pos h, if_pos (by omega)]
                · rw [if_neg h, if_neg (by omega)]
            have HNX := hid hnx
            clear hnx hown
            generalize starRow (ts.take k) t sl (i + 1) (i + 1) = p1 at q1 HNX
            generalize starRow (ts.take k) t sl (i + 1) i = p0 at q0 HNX
            cases p1
            · go_wp2_with fail
              go_roundg (s.size + 1 - (i + 1 + 1))
              case rel => exact ⟨i + 1 + 1, rfl, by omega, by omega, by go_num, HNX.out p0 (by simp), hb.setCell (Nat.le_refl _) _⟩
              case measure => omega
            · go_wp2_with fail
              go_roundg (s.size + 1 - (i + 1 + 1))
              case rel => exact ⟨i + 1 + 1, rfl, by omega, by omega, by go_num, HNX.out true (by simp), hb.setCell (Nat.le_refl _) _⟩
              case measure => omega
          · have hnx : OwnF wr w.heap.size w.heap.size (s.size + 1) (fun j => mt (ts.take (k + 1)) (sl.take j)) := by
              refine hown.congr ?_
              intro i hi
              simp only [starRow]
              rw [if_pos (by omega), HTS.out]
            have HNX := hid hnx
            clear hnx hown
            go_wp2_with fail
            go_roundg (n - (k + 1))
            case rel => exact ⟨k + 1, rfl, by omega, by go_num, HNX.out, hb⟩
            case measure => omega
      · have HK := hid h2
        have g2 : (t.kind == 2) = false := beq_eq_false_iff_ne.2 h2
        clear h2
        rename World => wA
        go_wp2_with fail
        go_loopg [9] (2 * s.size) (fun g v wx => ∃ j : Nat, g = 2 * j ∧ j ≤ s.size ∧ v = .int .i64 j ∧ OwnF wx w.heap.size w.heap.size (s.size + 1) (oneRow (ts.take k) t sl j) ∧ wx.heap[wA.heap.size]? = some (.cells #[.int .i64 t.kind, .int .u8 t.char.toNat, .bool t.neg, .slice t.ra t.rs.length t.cap] 31 (0, 0)) ∧ Below w.heap.size w wx)
        case atStart =>
          refine ⟨s.size, rfl, by omega, rfl, HOT.out.congr ?_, HTN.out, hbt⟩
          intro i hi
          unfold oneRow
          rw [if_neg (by omega)]
        case round =>
          clear HOT hbt c0 c1 c2 c3 HTN
          obtain ⟨j, rfl, hj, rfl, hown, hblk, hbx⟩ := hrel
          by_cases hjs : 1 ≤ j
          · obtain ⟨i, rfl⟩ : ∃ i, j = i + 1 := ⟨j - 1, by omega⟩
            have q0 := hown.cellAt i (by omega)
            have q1 := hown.cellAt (i + 1) (by omega)
            have q2 := hown.frozenAt (i + 1)
            have t0 := cell_block hblk 0
            have t1 := cell_block hblk 1
            have t2 := cell_block hblk 2
            have t3 := cell_block hblk 3
            simp only [List.getElem?_toArray, List.getElem?_cons_zero, List.getElem?_cons_succ] at t0 t1 t2 t3
            have hlt2 : wA.heap.size < wr.heap.size := (Array.getElem?_eq_some_iff.1 hblk).1
            have hne : wA.heap.size ≠ w.heap.size := by have := hlt; omega
            have hra : RangesAt wr t.ra t.rs := (TR.out.below hbx).at_
            have HRN : Hid (t.rs.length ≤ 9223372036854775807) := hid (Nat.le_trans TR.out.le TR.out.room)
            have hnx : ∀ W v, Below wr.heap.size wr W → v = (oneRow (ts.take k) t sl (i + 1) i && mOne t.kind t.char t.neg t.rs s[i]) → OwnF (W.setCell ⟨w.heap.size, i + 1, none⟩ (.bool v)) w.heap.size w.heap.size (s.size + 1) (oneRow (ts.take k) t sl i) ∧ (W.setCell ⟨w.heap.size, i + 1, none⟩ (.bool v)).heap[wA.heap.size]? = some (.cells #[.int .i64 t.kind, .int .u8 t.char.toNat, .bool t.neg, .slice t.ra t.rs.length t.cap] 31 (0, 0)) ∧ Below w.heap.size w (W.setCell ⟨w.heap.size, i + 1, none⟩ (.bool v)) := by
              intro W v hW hv
              refine ⟨((hown.kept hW hown.lt.2).set (i + 1) v).congr ?_, ?_, (hbx.trans (hW.mono hbx.size)).setCell (Nat.le_refl _) _⟩
              · intro x hx
                by_cases e : x = i + 1
                · subst e
                  rw [if_pos rfl, hv]
                  simp only [oneRow, Nat.lt_succ_self, if_true, if_neg (show ¬ i + 1 < i by omega)]
                  rw [take_succ_str HSL.out i (by omega), fwd_one_succ _ _ HK.out]
                  rfl
                · rw [if_neg e]
                  unfold oneRow
                  by_cases h : i + 1 < x
                  · rw [if_pos h, if_pos (by omega)]
                  · rw [if_neg h, if_neg (by omega)]
              · rw [setCell_other hne, hW.block _ hlt2]; exact hblk
            have hfr : ∀ W, Below wr.heap.size wr W → W.frozen? ⟨w.heap.size, i + 1, none⟩ = false ∧ W.cell? ⟨w.heap.size, i + 1, none⟩ = some (.bool (oneRow (ts.take k) t sl (i + 1) (i + 1))) := by
              intro W hW
              have := hown.kept hW hown.lt.2
              exact ⟨this.frozenAt _, this.cellAt _ (by omega)⟩
            have HNX := hid hnx
            have HFR := hid hfr
            have HRA := hid hra
            clear hnx hown hblk hfr hra
            generalize oneRow (ts.take k) t sl (i + 1) (i + 1) = p1 at q1 HFR
            generalize oneRow (ts.take k) t sl (i + 1) i = p0 at q0 HNX
            have W0 : IntKind.i64.wrap (i : Int) = i := wrap_nat i (by omega)
            have W1 : (i : Int) < (s.size : Int) + 1 := by omega
            have W2 : (i : Int) + 1 < (s.size : Int) + 1 := by omega
            have W3 : (i : Int) < (s.size : Int) := by omega
            cases p0
            · go_wp2_with fail
              first | go_region_with fail | fail
              all_goals go_wp2_with fail
              all_goals go_roundg (2 * i)
              all_goals first
                | omega
                | (have h := HNX.out wr false (Below.refl _ _) (by simp)
                   exact ⟨i, rfl, by omega, rfl, h.1, h.2.1, h.2.2.drew⟩)
            · go_wp2_with fail
              first | go_region_with (go_at_call 28; refine (matchOne_any t.kind t.char t.neg t.ra t.rs.length t.cap t.rs HRN.out rfl s[i] _ (by exact HRA.out.below ((Below.refl _ _).drew))).mono ?_; rintro e w1 ⟨rfl, hb1⟩; have hW := ((Below.refl wr.heap.size wr).drew).trans hb1; obtain ⟨f1, f2⟩ := HFR.out w1 hW) | fail
              all_goals go_wp2_with fail
              all_goals go_roundg (2 * i)
              all_goals first
                | omega
                | (have h := HNX.out w1 (mOne t.kind t.char t.neg t.rs s[i]) hW (by simp)
                   exact ⟨i, rfl, by omega, rfl, h.1, h.2.1, h.2.2⟩)
          · have hj0 : j = 0 := by omega
            subst hj0
            have q1 := hown.cellAt 0 (by omega)
            have q2 := hown.frozenAt 0
            have hnx : OwnF (wr.setCell ⟨w.heap.size, 0, none⟩ (.bool false)) w.heap.size w.heap.size (s.size + 1) (fun j => mt (ts.take (k + 1)) (sl.take j)) := by
              refine (hown.set 0 false).congr ?_
              intro i hi
              by_cases e : i = 0
              · subst e
                rw [if_pos rfl, HTS.out, List.take_zero, fwd_one_zero _ _ HK.out]
              · rw [if_neg e]
                simp only [oneRow]
                rw [if_pos (by omega), HTS.out]
            have HNX := hid hnx
            clear hnx hown hblk
            go_wp2_with fail
            go_roundg (n - (k + 1))
            case rel => exact ⟨k + 1, rfl, by omega, by go_num, HNX.out, hbx.setCell (Nat.le_refl _) _⟩
            case measure => omega
    · have hkk : ts.take k = ts := List.take_of_length_le (by rw [HL.out]; omega)
      have q0 := HO.out.cellAt s.size (by omega)
      rw [hkk, List.take_of_length_le (by rw [HSLL.out]; omega)] at q0
      clear HO hkk
      go_wp2_with fail
      go_ret
      exact ⟨rfl, hb⟩
end Go.Proofs.Ymbrca

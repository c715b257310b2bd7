import Derived.Test.YmbrcaMatchTokens
import Derived.Test.YmbrcaFOne
namespace Go.Proofs.Ymbrca
open Go.RowKit

theorem drop_tok (ts : List Tk) (i : Nat) (h : i < ts.length) : ts.drop i = ts.getD i tk0 :: ts.drop (i + 1) := by
  rw [List.drop_eq_getElem_cons h]
  simp [List.getD_eq_getElem?_getD, List.getElem?_eq_getElem h]

theorem drop_str {s : ByteArray} {sl : List UInt8} (h : sl = s.data.toList) (j : Nat) (hj : j < s.size) : sl.drop j = s[j] :: sl.drop (j + 1) := by
  rw [h, List.drop_eq_getElem_cons (by simpa using hj)]; rfl

/-- At the string's end: from j on there are stars alone, and no star just ahead of j. -/
theorem mt_tail (ts : List Tk) (j : Nat) (hj : j ≤ ts.length) (h : ∀ x, j ≤ x → x < ts.length → (ts.getD x tk0).kind = 2) (x : Nat) (hx : j ≤ x) : mt (ts.drop x) [] = true := by
  by_cases hl : x < ts.length
  · rw [drop_tok ts x hl]
    simp only [mt, h x hx hl, decide_true, Bool.true_and]
    exact mt_tail ts j hj h (x + 1) (by omega)
  · rw [List.drop_eq_nil_of_le (by omega)]
    exact mt_nil
termination_by ts.length - x

theorem mt_cut (ts : List Tk) (j : Nat) (hj : j < ts.length) (h : (ts.getD j tk0).kind ≠ 2) (x : Nat) (hx : x ≤ j) : mt (ts.drop x) [] = false := by
  rw [drop_tok ts x (by omega)]
  simp only [mt]
  by_cases e : x = j
  · subst e; rw [decide_eq_false h]; rfl
  · rw [mt_cut ts j hj h (x + 1) (by omega)]; simp
termination_by j - x

/-- The new row while it is filled from the back. -/
def nextRow (ts : List Tk) (u : List UInt8) (j x : Nat) : Bool := if j ≤ x then mt (ts.drop x) u else false

set_option maxHeartbeats 8000000 in
set_option maxRecDepth 4000 in
theorem fmodel_any (a : Option Addr) (n cap : Nat) (ts : List Tk) (hn : n ≤ 1000000) (hl : ts.length = n) (s : ByteArray) (hs : s.size ≤ 1000000) (w : World) (hr : TokensAt w a ts) :
    Calls Ycam.prog 18 #[.slice a n cap, .string s] w fun e w' => e = .returned (.bool (mt ts s.data.toList)) ∧ Below w.heap.size w w' := by
  obtain ⟨sl, hsl⟩ : ∃ sl, sl = s.data.toList := ⟨_, rfl⟩
  rw [← hsl]
  have hsll : sl.length = s.size := by rw [hsl]; simp
  have HSL := hid hsl
  have HSLL := hid hsll
  have HR := hid hr
  have HL := hid hl
  clear hsl hsll hr hl
  go_enter Ycam.func18, Ycam.ntmps18
  go_wp2_with (at_make; go_must (refine wpList_makeF w rfl (.tmp 14) (.tmp 14) 42 rfl Ycam.underlying42 Ycam.infoBool w.heap.size _ _ (n + 1) rfl rfl rfl rfl (by omega) (Nat.le_refl _) ?_); intro w1 hown1 hb1 hb1'; have cB := hown1.cellAt n (Nat.lt_succ_self _); have fB := hown1.frozenAt n; have HO1 := hid (hown1.set n true); have hb2 := hb1.setCell (show w.heap.size ≤ (⟨w.heap.size, n, none⟩ : Addr).block from Nat.le_refl _) (.bool true); clear hown1 hb1 hb1')
  clear cB fB
  go_loopg [7] (2 * n) (fun g v wr => ∃ (j : Nat) (z : Int), g = 2 * j ∧ j ≤ n ∧ v = .int .i64 z ∧ z = (j : Int) - 1 ∧ (∀ x, j ≤ x → x < n → (ts.getD x tk0).kind = 2) ∧ OwnF wr w.heap.size w.heap.size (n + 1) (fun x => decide (j ≤ x)) ∧ Below w.heap.size w wr)
  case atStart =>
    refine ⟨n, _, rfl, Nat.le_refl _, rfl, rfl, fun x h1 h2 => absurd h1 (by omega), HO1.out.congr ?_, hb2⟩
    intro i hi
    by_cases e : i = n
    · subst e; simp
    · rw [if_neg e]; symm; rw [decide_eq_false_iff_not]; omega
  case round =>
    clear HO1 hb2
    obtain ⟨j, z, rfl, hj, rfl, hz, hst, hown, hb⟩ := hrel
    have HZ := hid hz
    have HST := hid hst
    have HO := hid hown
    clear hz hst hown
    -- what the loop leaves
    have fin : (∀ x, x < n + 1 → mt (ts.drop x) [] = decide (j ≤ x)) → OwnF wr w.heap.size w.heap.size (n + 1) (fun x => mt (ts.drop x) (sl.drop s.size)) := by
      intro h
      refine HO.out.congr ?_
      intro x hx
      have e : sl.drop s.size = [] := List.drop_eq_nil_of_le (by rw [HSLL.out]; exact Nat.le_refl _)
      rw [e, h x hx]
    have HFIN := hid fin
    clear fin
    by_cases hj0 : j = 0
    · subst hj0
      obtain rfl : z = -1 := by have := HZ.out; omega
      have hfin := HFIN.out (fun x _ => by rw [mt_tail ts 0 (Nat.zero_le _) (by rw [HL.out]; exact HST.out) x (Nat.zero_le _)]; simp)
      have HF := hid hfin
      clear hfin HFIN HO HST
      go_wp2_with fail
      clear HZ
      rename World => wA
      go_loopg [6, 8] (2 * s.size) (fun g fv kv wr => ∃ (q g1 : Nat) (z : Int), g = 2 * q ∧ q ≤ s.size ∧ kv = .int .i64 z ∧ z = (q : Int) - 1 ∧ fv = .slice (some ⟨g1, 0, none⟩) (n + 1) (n + 1) ∧ OwnF wr w.heap.size g1 (n + 1) (fun x => mt (ts.drop x) (sl.drop q)) ∧ Below w.heap.size w wr)
      case atStart => exact ⟨s.size, w.heap.size, _, rfl, Nat.le_refl _, rfl, rfl, rfl, HF.out, hb⟩
      case round =>
        clear HF hb
        obtain ⟨q, g1, z, rfl, hq, rfl, hz, rfl, hown, hb⟩ := hrel
        have HZ := hid hz
        have HO := hid hown
        clear hz hown
        by_cases hq0 : q = 0
        · subst hq0
          obtain rfl : z = -1 := by have := HZ.out; omega
          have q0 := HO.out.cellAt 0 (by omega)
          rw [List.drop_zero, List.drop_zero] at q0
          clear HO HZ
          go_wp2_with fail
          go_ret
          exact ⟨rfl, hb⟩
        · obtain ⟨p, rfl⟩ : ∃ p, q = p + 1 := ⟨q - 1, by omega⟩
          obtain rfl : z = (p : Int) := by have := HZ.out; omega
          have hps : p < s.size := by omega
          clear HZ hq0
          rename World => wB
          go_wp2_with (at_make; go_must (refine wpList_makeF wB rfl (.tmp 44) (.tmp 44) 42 rfl Ycam.underlying42 Ycam.infoBool w.heap.size _ _ (n + 1) rfl rfl rfl rfl (by omega) hb.size ?_); intro w1 hown1 hb1 hb1'; have HO2 := hid (HO.out.kept hb1' HO.out.lt.2); have hb2 := hb.trans hb1; have HON := hid hown1; clear hown1 hb1 hb1')
          have HGL := hid HO.out.lt.2
          clear HO hb
          go_loopg [10] (2 * n) (fun g v wr => ∃ (j : Nat) (z : Int), g = 2 * j ∧ j ≤ n ∧ v = .int .i64 z ∧ z = (j : Int) - 1 ∧ OwnF wr w.heap.size g1 (n + 1) (fun x => mt (ts.drop x) (sl.drop (p + 1))) ∧ OwnF wr w.heap.size wB.heap.size (n + 1) (nextRow ts (sl.drop p) j) ∧ Below w.heap.size w wr)
          case atStart =>
            refine ⟨n, _, rfl, Nat.le_refl _, rfl, rfl, HO2.out, HON.out.congr ?_, hb2⟩
            intro x hx
            unfold nextRow
            by_cases e : n ≤ x
            · rw [if_pos e, List.drop_eq_nil_of_le (by rw [HL.out]; exact e), drop_str HSL.out p hps]
              simp [mt]
            · rw [if_neg e]
          case round =>
            clear HO2 HON hb2
            obtain ⟨j, z, rfl, hj, rfl, hz, hown, hnew, hb⟩ := hrel
            have HZ := hid hz
            have HO := hid hown
            have HN := hid hnew
            clear hz hown hnew
            by_cases hj0 : j = 0
            · subst hj0
              obtain rfl : z = -1 := by have := HZ.out; omega
              clear HZ
              go_wp2_with fail
              go_roundg (2 * p)
              case rel => exact ⟨p, _, _, rfl, by omega, rfl, by go_num, rfl, HN.out.congr (fun x hx => by simp [nextRow]), hb⟩
              case measure => omega
            · obtain ⟨i, rfl⟩ : ∃ i, j = i + 1 := ⟨j - 1, by omega⟩
              obtain rfl : z = (i : Int) := by have := HZ.out; omega
              obtain ⟨b, off, rfl, ta, tr⟩ := HR.out i (by rw [HL.out]; omega)
              have hbl := ta.lt
              have tw := ta.below hb hbl
              have hdt := drop_tok ts i (by rw [HL.out]; omega)
              generalize ts.getD i tk0 = t at tw tr hdt
              have HDT := hid hdt
              have HDS := hid (drop_str HSL.out p hps)
              have c0 := tw.c0
              have c1 := tw.c1
              have c2 := tw.c2
              have c3 := tw.c3
              have hra : RangesAt wr t.ra t.rs := (tr.below hb).at_
              have HRA := hid hra
              have HRN : Hid (t.rs.length ≤ 9223372036854775807) := hid (Nat.le_trans tr.le tr.room)
              have hne : g1 ≠ wB.heap.size := by have := HGL.out; omega
              have n0 := HN.out.cellAt i (by omega)
              have n1 := HN.out.cellAt (i + 1) (by omega)
              have nf := HN.out.frozenAt i
              have f0 := HO.out.cellAt i (by omega)
              have f1 := HO.out.cellAt (i + 1) (by omega)
              have hnx : ∀ W v, Below wr.heap.size wr W → v = mt (t :: ts.drop (i + 1)) (sl.drop p) → OwnF (W.setCell ⟨wB.heap.size, i, none⟩ (.bool v)) w.heap.size g1 (n + 1) (fun x => mt (ts.drop x) (sl.drop (p + 1))) ∧ OwnF (W.setCell ⟨wB.heap.size, i, none⟩ (.bool v)) w.heap.size wB.heap.size (n + 1) (nextRow ts (sl.drop p) i) ∧ Below w.heap.size w (W.setCell ⟨wB.heap.size, i, none⟩ (.bool v)) := by
                intro W v hW hv
                refine ⟨(HO.out.kept hW HO.out.lt.2).setOther hne _ _, ((HN.out.kept hW HN.out.lt.2).set i v).congr ?_, (hb.trans (hW.mono hb.size)).setCell HN.out.lt.1 _⟩
                intro x hx
                unfold nextRow
                by_cases e : x = i
                · subst e
                  rw [if_pos rfl, if_pos (Nat.le_refl _), hv, ← HDT.out]
                · rw [if_neg e]
                  by_cases h : i + 1 ≤ x
                  · rw [if_pos h, if_pos (by omega)]
                  · rw [if_neg h, if_neg (by omega)]
              have hfr : ∀ W, Below wr.heap.size wr W → W.frozen? ⟨wB.heap.size, i, none⟩ = false ∧ W.cell? ⟨wB.heap.size, i, none⟩ = some (.bool (nextRow ts (sl.drop p) (i + 1) i)) := by
                intro W hW
                have := HN.out.kept hW HN.out.lt.2
                exact ⟨this.frozenAt _, this.cellAt _ (by omega)⟩
              have HNX := hid hnx
              have HFR := hid hfr
              have n1v : nextRow ts (sl.drop p) (i + 1) (i + 1) = mt (ts.drop (i + 1)) (sl.drop p) := by simp [nextRow]
              rw [n1v] at n1
              simp only [HDT.out] at f0
              clear HO HN hnx hfr n1v ta tr tw hra hdt hne
              generalize nextRow ts (sl.drop p) (i + 1) i = x0 at n0 HFR
              by_cases h2 : t.kind = 2
              · have hm : mt (t :: ts.drop (i + 1)) (sl.drop p) = (mt (ts.drop (i + 1)) (sl.drop p) || mt (t :: ts.drop (i + 1)) (sl.drop (p + 1))) := by rw [HDS.out]; simp [mt, h2]
                have HM := hid hm
                rw [h2] at c0
                clear hm h2 HDT HDS HRA f1
                generalize mt (ts.drop (i + 1)) (sl.drop p) = y1 at n1 HM
                generalize mt (t :: ts.drop (i + 1)) (sl.drop (p + 1)) = y0 at f0 HM
                cases y1
                · go_wp2_with fail
                  go_roundg (2 * i)
                  case rel =>
                    have h := HNX.out wr y0 (Below.refl _ _) (by rw [HM.out]; simp)
                    exact ⟨i, _, rfl, by omega, rfl, by go_num, h.1, h.2.1, h.2.2⟩
                  case measure => omega
                · go_wp2_with fail
                  go_roundg (2 * i)
                  case rel =>
                    have h := HNX.out wr true (Below.refl _ _) (by rw [HM.out]; simp)
                    exact ⟨i, _, rfl, by omega, rfl, by go_num, h.1, h.2.1, h.2.2⟩
                  case measure => omega
              · have g2 : (t.kind == 2) = false := beq_eq_false_iff_ne.2 h2
                have hm : mt (t :: ts.drop (i + 1)) (sl.drop p) = (mOne t.kind t.char t.neg t.rs s[p] && mt (ts.drop (i + 1)) (sl.drop (p + 1))) := by rw [HDS.out]; simp [mt, h2, tOne]
                have HM := hid hm
                clear hm h2 HDT HDS n1 f0
                generalize mt (ts.drop (i + 1)) (sl.drop (p + 1)) = y1 at f1 HM
                have W0 : IntKind.i64.wrap ((i : Int) + 1) = (i : Int) + 1 := wrap_nat (i + 1) (by omega)
                have W1 : (i : Int) < (n : Int) + 1 := by omega
                have W2 : (i : Int) + 1 < (n : Int) + 1 := by omega
                have W3 : (p : Int) < (s.size : Int) := by omega
                have W4 : (i : Int) < (n : Int) := by omega
                cases y1
                · go_wp2_with fail
                  go_region
                  all_goals go_wp2_with fail
                  all_goals go_roundg (2 * i)
                  all_goals first
                    | omega
                    | (have h := HNX.out wr false (Below.refl _ _) (by rw [HM.out]; simp)
                       exact ⟨i, _, rfl, by omega, rfl, by go_num, h.1, h.2.1, h.2.2.drew⟩)
                · go_wp2_with fail
                  first | go_region_with (go_at_call 29; refine (fone_any t.kind t.char t.neg t.ra t.rs.length t.cap t.rs HRN.out rfl s[p] _ (by exact HRA.out.below ((Below.refl _ _).drew))).mono ?_; rintro e w1 ⟨rfl, hb1⟩; have hW := ((Below.refl wr.heap.size wr).drew).trans hb1; obtain ⟨d1, d2⟩ := HFR.out w1 hW) | fail
                  all_goals go_wp2_with fail
                  all_goals go_roundg (2 * i)
                  all_goals first
                    | omega
                    | (have h := HNX.out w1 (mOne t.kind t.char t.neg t.rs s[p]) hW (by rw [HM.out]; simp)
                       exact ⟨i, _, rfl, by omega, rfl, by go_num, h.1, h.2.1, h.2.2⟩)
    · obtain ⟨i, rfl⟩ : ∃ i, j = i + 1 := ⟨j - 1, by omega⟩
      obtain rfl : z = (i : Int) := by have := HZ.out; omega
      obtain ⟨b, off, rfl, ta, tr⟩ := HR.out i (by rw [HL.out]; omega)
      have hbl := ta.lt
      have tw := ta.below hb hbl
      have c0 := tw.c0
      clear ta tr tw
      by_cases h2 : (ts.getD i tk0).kind = 2
      · have hst : ∀ x, i ≤ x → x < n → (ts.getD x tk0).kind = 2 := by
          intro x h1 h3
          by_cases e : x = i
          · rw [e]; exact h2
          · exact HST.out x (by omega) h3
        have HST2 := hid hst
        rw [h2] at c0
        have q1 := HO.out.cellAt i (by omega)
        have q2 := HO.out.frozenAt i
        have HO2 := hid ((HO.out.set i true).congr (f' := fun x => decide (i ≤ x)) (by
          intro x hx
          by_cases e : x = i
          · subst e; simp
          · rw [if_neg e]
            congr 1
            rw [eq_iff_iff]
            omega))
        clear hst h2 HST HO HFIN HZ
        go_wp2_with fail
        go_roundg (2 * i)
        case rel => exact ⟨i, _, rfl, by omega, rfl, by go_num, HST2.out, HO2.out, hb.setCell (Nat.le_refl _) _⟩
        case measure => omega
      · have hfin := HFIN.out (fun x hx => by
          by_cases e : i + 1 ≤ x
          · rw [mt_tail ts (i + 1) (by rw [HL.out]; omega) (by rw [HL.out]; exact HST.out) x e]; simp [e]
          · rw [mt_cut ts i (by rw [HL.out]; omega) h2 x (by omega)]; simp [e])
        have HF := hid hfin
        clear hfin HFIN HO HST
        generalize ts.getD i tk0 = t at c0 h2
        have g2 : (t.kind == 2) = false := beq_eq_false_iff_ne.2 h2
        clear h2
        go_wp2_with fail
        clear HZ
        rename World => wA
        go_loopg [6, 8] (2 * s.size) (fun g fv kv wr => ∃ (q g1 : Nat) (z : Int), g = 2 * q ∧ q ≤ s.size ∧ kv = .int .i64 z ∧ z = (q : Int) - 1 ∧ fv = .slice (some ⟨g1, 0, none⟩) (n + 1) (n + 1) ∧ OwnF wr w.heap.size g1 (n + 1) (fun x => mt (ts.drop x) (sl.drop q)) ∧ Below w.heap.size w wr)
        case atStart => exact ⟨s.size, w.heap.size, _, rfl, Nat.le_refl _, rfl, rfl, rfl, HF.out, hb⟩
        case round =>
          clear HF hb
          obtain ⟨q, g1, z, rfl, hq, rfl, hz, rfl, hown, hb⟩ := hrel
          have HZ := hid hz
          have HO := hid hown
          clear hz hown
          by_cases hq0 : q = 0
          · subst hq0
            obtain rfl : z = -1 := by have := HZ.out; omega
            have q0 := HO.out.cellAt 0 (by omega)
            rw [List.drop_zero, List.drop_zero] at q0
            clear HO HZ
            go_wp2_with fail
            go_ret
            exact ⟨rfl, hb⟩
          · obtain ⟨p, rfl⟩ : ∃ p, q = p + 1 := ⟨q - 1, by omega⟩
            obtain rfl : z = (p : Int) := by have := HZ.out; omega
            have hps : p < s.size := by omega
            clear HZ hq0
            rename World => wB
            go_wp2_with (at_make; go_must (refine wpList_makeF wB rfl (.tmp 44) (.tmp 44) 42 rfl Ycam.underlying42 Ycam.infoBool w.heap.size _ _ (n + 1) rfl rfl rfl rfl (by omega) hb.size ?_); intro w1 hown1 hb1 hb1'; have HO2 := hid (HO.out.kept hb1' HO.out.lt.2); have hb2 := hb.trans hb1; have HON := hid hown1; clear hown1 hb1 hb1')
            have HGL := hid HO.out.lt.2
            clear HO hb
            go_loopg [10] (2 * n) (fun g v wr => ∃ (j : Nat) (z : Int), g = 2 * j ∧ j ≤ n ∧ v = .int .i64 z ∧ z = (j : Int) - 1 ∧ OwnF wr w.heap.size g1 (n + 1) (fun x => mt (ts.drop x) (sl.drop (p + 1))) ∧ OwnF wr w.heap.size wB.heap.size (n + 1) (nextRow ts (sl.drop p) j) ∧ Below w.heap.size w wr)
            case atStart =>
              refine ⟨n, _, rfl, Nat.le_refl _, rfl, rfl, HO2.out, HON.out.congr ?_, hb2⟩
              intro x hx
              unfold nextRow
              by_cases e : n ≤ x
              · rw [if_pos e, List.drop_eq_nil_of_le (by rw [HL.out]; exact e), drop_str HSL.out p hps]
                simp [mt]
              · rw [if_neg e]
            case round =>
              clear HO2 HON hb2
              obtain ⟨j, z, rfl, hj, rfl, hz, hown, hnew, hb⟩ := hrel
              have HZ := hid hz
              have HO := hid hown
              have HN := hid hnew
              clear hz hown hnew
              by_cases hj0 : j = 0
              · subst hj0
                obtain rfl : z = -1 := by have := HZ.out; omega
                clear HZ
                go_wp2_with fail
                go_roundg (2 * p)
                case rel => exact ⟨p, _, _, rfl, by omega, rfl, by go_num, rfl, HN.out.congr (fun x hx => by simp [nextRow]), hb⟩
                case measure => omega
              · obtain ⟨i, rfl⟩ : ∃ i, j = i + 1 := ⟨j - 1, by omega⟩
                obtain rfl : z = (i : Int) := by have := HZ.out; omega
                obtain ⟨b', off', ea, ta, tr⟩ := HR.out i (by rw [HL.out]; omega)
                simp only [Option.some.injEq, Addr.mk.injEq, and_true] at ea
                obtain ⟨rfl, rfl⟩ := ea
                have hbl := ta.lt
                have tw := ta.below hb hbl
                have hdt := drop_tok ts i (by rw [HL.out]; omega)
                generalize ts.getD i tk0 = t at tw tr hdt
                have HDT := hid hdt
                have HDS := hid (drop_str HSL.out p hps)
                have c0 := tw.c0
                have c1 := tw.c1
                have c2 := tw.c2
                have c3 := tw.c3
                have hra : RangesAt wr t.ra t.rs := (tr.below hb).at_
                have HRA := hid hra
                have HRN : Hid (t.rs.length ≤ 9223372036854775807) := hid (Nat.le_trans tr.le tr.room)
                have hne : g1 ≠ wB.heap.size := by have := HGL.out; omega
                have n0 := HN.out.cellAt i (by omega)
                have n1 := HN.out.cellAt (i + 1) (by omega)
                have nf := HN.out.frozenAt i
                have f0 := HO.out.cellAt i (by omega)
                have f1 := HO.out.cellAt (i + 1) (by omega)
                have hnx : ∀ W v, Below wr.heap.size wr W → v = mt (t :: ts.drop (i + 1)) (sl.drop p) → OwnF (W.setCell ⟨wB.heap.size, i, none⟩ (.bool v)) w.heap.size g1 (n + 1) (fun x => mt (ts.drop x) (sl.drop (p + 1))) ∧ OwnF (W.setCell ⟨wB.heap.size, i, none⟩ (.bool v)) w.heap.size wB.heap.size (n + 1) (nextRow ts (sl.drop p) i) ∧ Below w.heap.size w (W.setCell ⟨wB.heap.size, i, none⟩ (.bool v)) := by
                  intro W v hW hv
                  refine ⟨(HO.out.kept hW HO.out.lt.2).setOther hne _ _, ((HN.out.kept hW HN.out.lt.2).set i v).congr ?_, (hb.trans (hW.mono hb.size)).setCell HN.out.lt.1 _⟩
                  intro x hx
                  unfold nextRow
                  by_cases e : x = i
                  · subst e
                    rw [if_pos rfl, if_pos (Nat.le_refl _), hv, ← HDT.out]
                  · rw [if_neg e]
                    by_cases h : i + 1 ≤ x
                    · rw [if_pos h, if_pos (by omega)]
                    · rw [if_neg h, if_neg (by omega)]
                have hfr : ∀ W, Below wr.heap.size wr W → W.frozen? ⟨wB.heap.size, i, none⟩ = false ∧ W.cell? ⟨wB.heap.size, i, none⟩ = some (.bool (nextRow ts (sl.drop p) (i + 1) i)) := by
                  intro W hW
                  have := HN.out.kept hW HN.out.lt.2
                  exact ⟨this.frozenAt _, this.cellAt _ (by omega)⟩
                have HNX := hid hnx
                have HFR := hid hfr
                have n1v : nextRow ts (sl.drop p) (i + 1) (i + 1) = mt (ts.drop (i + 1)) (sl.drop p) := by simp [nextRow]
                rw [n1v] at n1
                simp only [HDT.out] at f0
                clear HO HN hnx hfr n1v ta tr tw hra hdt hne
                generalize nextRow ts (sl.drop p) (i + 1) i = x0 at n0 HFR
                by_cases h2 : t.kind = 2
                · have hm : mt (t :: ts.drop (i + 1)) (sl.drop p) = (mt (ts.drop (i + 1)) (sl.drop p) || mt (t :: ts.drop (i + 1)) (sl.drop (p + 1))) := by rw [HDS.out]; simp [mt, h2]
                  have HM := hid hm
                  rw [h2] at c0
                  clear hm h2 HDT HDS HRA f1
                  generalize mt (ts.drop (i + 1)) (sl.drop p) = y1 at n1 HM
                  generalize mt (t :: ts.drop (i + 1)) (sl.drop (p + 1)) = y0 at f0 HM
                  cases y1
                  · go_wp2_with fail
                    go_roundg (2 * i)
                    case rel =>
                      have h := HNX.out wr y0 (Below.refl _ _) (by rw [HM.out]; simp)
                      exact ⟨i, _, rfl, by omega, rfl, by go_num, h.1, h.2.1, h.2.2⟩
                    case measure => omega
                  · go_wp2_with fail
                    go_roundg (2 * i)
                    case rel =>
                      have h := HNX.out wr true (Below.refl _ _) (by rw [HM.out]; simp)
                      exact ⟨i, _, rfl, by omega, rfl, by go_num, h.1, h.2.1, h.2.2⟩
                    case measure => omega
                · have g2 : (t.kind == 2) = false := beq_eq_false_iff_ne.2 h2
                  have hm : mt (t :: ts.drop (i + 1)) (sl.drop p) = (mOne t.kind t.char t.neg t.rs s[p] && mt (ts.drop (i + 1)) (sl.drop (p + 1))) := by rw [HDS.out]; simp [mt, h2, tOne]
                  have HM := hid hm
                  clear hm h2 HDT HDS n1 f0
                  generalize mt (ts.drop (i + 1)) (sl.drop (p + 1)) = y1 at f1 HM
                  have W0 : IntKind.i64.wrap ((i : Int) + 1) = (i : Int) + 1 := wrap_nat (i + 1) (by omega)
                  have W1 : (i : Int) < (n : Int) + 1 := by omega
                  have W2 : (i : Int) + 1 < (n : Int) + 1 := by omega
                  have W3 : (p : Int) < (s.size : Int) := by omega
                  have W4 : (i : Int) < (n : Int) := by omega
                  cases y1
                  · go_wp2_with fail
                    go_region
                    all_goals go_wp2_with fail
                    all_goals go_roundg (2 * i)
                    all_goals first
                      | omega
                      | (have h := HNX.out wr false (Below.refl _ _) (by rw [HM.out]; simp)
                         exact ⟨i, _, rfl, by omega, rfl, by go_num, h.1, h.2.1, h.2.2.drew⟩)
                  · go_wp2_with fail
                    first | go_region_with (go_at_call 29; refine (fone_any t.kind t.char t.neg t.ra t.rs.length t.cap t.rs HRN.out rfl s[p] _ (by exact HRA.out.below ((Below.refl _ _).drew))).mono ?_; rintro e w1 ⟨rfl, hb1⟩; have hW := ((Below.refl wr.heap.size wr).drew).trans hb1; obtain ⟨d1, d2⟩ := HFR.out w1 hW) | fail
                    all_goals go_wp2_with fail
                    all_goals go_roundg (2 * i)
                    all_goals first
                      | omega
                      | (have h := HNX.out w1 (mOne t.kind t.char t.neg t.rs s[p]) hW (by rw [HM.out]; simp)
                         exact ⟨i, _, rfl, by omega, rfl, by go_num, h.1, h.2.1, h.2.2⟩)
end Go.Proofs.Ymbrca

import Derived.Test.YmbrcaRcv
import Derived.Test.YmbrcaGSmall
import Derived.Test.YmbrcaBytes1
import Derived.Test.YmbrcaAppendChar
import Derived.Test.YmbrcaBools
namespace Go.Proofs.Ymbrca
open Go.RowKit

/-- A byte written with a backslash or without. -/
def chunk (p : UInt8 × Bool) : List UInt8 := if p.2 then [92, p.1] else [p.1]
def txt (l : List (UInt8 × Bool)) : List UInt8 := l.flatMap chunk
theorem chunk_length (p : UInt8 × Bool) : (chunk p).length ≤ 2 := by unfold chunk; split <;> simp
theorem txt_length (l : List (UInt8 × Bool)) : (txt l).length ≤ 2 * l.length := by
  induction l with
  | nil => simp [txt]
  | cons c t ih =>
    have := chunk_length c
    simp only [txt, List.flatMap_cons, List.length_append, List.length_cons] at *
    omega
theorem txt_succ (l : List (UInt8 × Bool)) (k : Nat) (hk : k < l.length) : txt (l.take (k + 1)) = txt (l.take k) ++ chunk l[k] := by
  unfold txt
  rw [List.take_succ_eq_append_getElem hk, List.flatMap_append]
  simp
theorem txt_split (l : List (UInt8 × Bool)) (k : Nat) (hk : k < l.length) : txt l = txt (l.take k) ++ (chunk l[k] ++ txt (l.drop (k + 1))) := by
  have e : l = l.take k ++ (l[k] :: l.drop (k + 1)) := by simp
  unfold txt
  conv => lhs; rw [e]
  rw [List.flatMap_append, List.flatMap_cons]

theorem txt_read (l : List (UInt8 × Bool)) (k : Nat) (hk : k < l.length) (hg : gs l[k].1 = true → l[k].2 = true) (ic : Bool) :
    rcv (strOf (txt l)) (txt (l.take k)).length ic = (l[k].1, (txt (l.take (k + 1))).length, true) := by
  rw [txt_succ l k hk, List.length_append]
  conv => lhs; rw [txt_split l k hk]
  rcases hc : l[k] with ⟨c, f⟩
  rw [hc] at hg
  cases f with
  | true =>
    simp only [chunk, if_true, List.cons_append, List.nil_append]
    rw [rcv_bs]
    simp
  | false =>
    have h : gs c = false := by
      cases h : gs c with
      | false => rfl
      | true => exact absurd (hg h) (by simp)
    rcases gs_cases c with ⟨_, q⟩ | ⟨_, q⟩ | ⟨_, q⟩ | ⟨h0, h1, h2, _⟩
    · rw [h] at q; cases q
    · rw [h] at q; cases q
    · rw [h] at q; cases q
    · simp only [chunk, Bool.false_eq_true, if_false, List.cons_append, List.nil_append]
      rw [rcv_plain _ _ _ _ h0 (by omega)]
      simp

/-- The pairs that the law writes. -/
def pairs (ps : List UInt8) (bl : List Bool) : List (UInt8 × Bool) := (List.range ps.length).map fun k => (gp (ps.getD k 0), gs (gp (ps.getD k 0)) || (decide (k < bl.length) && bl.getD k false))
theorem pairs_length (ps : List UInt8) (bl : List Bool) : (pairs ps bl).length = ps.length := by simp [pairs]
theorem pairs_at (ps : List UInt8) (bl : List Bool) (k : Nat) (hk : k < (pairs ps bl).length) : (pairs ps bl)[k] = (gp (ps.getD k 0), gs (gp (ps.getD k 0)) || (decide (k < bl.length) && bl.getD k false)) := by simp [pairs]

set_option maxHeartbeats 1000000 in
theorem groundtrip (w : World) (a : Option Addr) (n cap : Nat) (ps : List UInt8) (hl : ps.length = n) (hm : n ≤ cap ∧ cap ≤ 9223372036854775807) (hr : BytesAt w a ps)
    (a2 : Option Addr) (n2 cap2 : Nat) (bl : List Bool) (hl2 : bl.length = n2) (hm2 : n2 ≤ cap2 ∧ cap2 ≤ 9223372036854775807) (hr2 : BoolsAt w a2 bl) (ic : Bool) :
    Calls Ycam.prog 10 #[.slice a n cap, .slice a2 n2 cap2, .bool ic] w fun e w' => e = .returned (.bool true) ∧ Below w.heap.size w w' := by
  have hn : n ≤ 9223372036854775807 := Nat.le_trans hm.1 hm.2
  have hn2 : n2 ≤ 9223372036854775807 := Nat.le_trans hm2.1 hm2.2
  clear hm hm2
  by_cases hbig : 1024 < n
  · go_enter Ycam.func10, Ycam.ntmps10
    go_wp2_with fail
    go_ret
    exact ⟨rfl, Below.refl _ _⟩
  obtain ⟨pr, hpr⟩ : ∃ pr, pr = pairs ps bl := ⟨_, rfl⟩
  have HP := hid hpr
  have HPL : Hid (pr.length = n) := by show _ = _; rw [hpr, pairs_length, hl]
  have HR := hid hr
  have HR2 := hid hr2
  have HL := hid hl
  have HL2 := hid hl2
  clear hr hl hr2 hl2 hpr
  go_enter Ycam.func10, Ycam.ntmps10
  go_wp2_with fail
  go_loopw [7, 8] (fun v j wr => ∃ k : Nat, k ≤ n ∧ j = .int .i64 k ∧ OwnB wr w.heap.size v (txt (pr.take k)) ∧ Below w.heap.size w wr) (fun _ j _ => n - (intOf j).toNat)
  case atStart => exact ⟨0, Nat.zero_le _, rfl, OwnB.nil _ _, Below.refl _ _⟩
  case round =>
    obtain ⟨k, hk, rfl, hown, hb⟩ := hrel
    have HO := hid hown
    clear hown
    by_cases hkn : k < n
    · have hkp : k < pr.length := by rw [HPL.out]; exact hkn
      obtain ⟨b, off, rfl, g0⟩ := HR.out k (by rw [HL.out]; exact hkn)
      have c0 := (hb.cell (p := ⟨b, off + k, none⟩) (block_lt g0)).trans g0
      clear g0
      have hlen : (txt (pr.take k)).length ≤ 2048 := by
        have := txt_length (pr.take k)
        have h2 : (pr.take k).length ≤ k := List.length_take_le _ _
        omega
      have HS := hid (txt_succ pr k hkp)
      have hpk : pr[k] = (gp (ps.getD k 0), gs (gp (ps.getD k 0)) || (decide (k < n2) && bl.getD k false)) := by
        have := pairs_at ps bl k (by rw [← HP.out]; exact hkp)
        rw [HL2.out] at this
        rw [← this]
        congr 1
      rw [hpk] at HS
      obtain ⟨c, hc⟩ : ∃ c, c = ps.getD k 0 := ⟨_, rfl⟩
      rw [← hc] at c0 HS
      clear hpk hc hkp
      go_wp2_with fail
      refine (gpick_any c _).mono ?_
      rintro e w2 ⟨rfl, rfl⟩
      generalize gp c = d at HS ⊢
      go_wp2_with fail
      refine (gspecial_any d _).mono ?_
      rintro e w3 ⟨rfl, rfl⟩
      cases hgd : gs d
      · rw [hgd] at HS
        have HG := hid hgd
        clear hgd
        by_cases hk2 : k < n2
        · obtain ⟨b2, off2, rfl, g2⟩ := HR2.out k (by rw [HL2.out]; exact hk2)
          have c2 := (hb.cell (p := ⟨b2, off2 + k, none⟩) (block_lt g2)).trans g2
          clear g2
          cases hbk : bl.getD k false
          · have HS2 : Hid (txt (pr.take (k + 1)) = txt (pr.take k) ++ [d]) := hid (by have := HS.out; rw [hbk] at this; simpa [chunk] using this)
            rw [hbk] at c2
            clear HS hbk
            go_wp2_with (at_builtin; go_must (refine wpList_appB1 _ rfl (.tmp 50) (.tmp 52) 22 rfl Ycam.underlying22 Ycam.info5 w.heap.size _ _ (by rfl) HO.out _ rfl (by omega) hb.size ?_); intro v1 w1 hown1 hb1)
            rw [← HS2.out] at hown1
            have HO1 := hid hown1
            clear hown1
            go_wp2_with fail
            go_roundw
            case rel => exact ⟨k + 1, by omega, by go_num, HO1.out, hb.trans hb1⟩
            case measure => simp [intOf]; omega
          · have HS2 : Hid (txt (pr.take (k + 1)) = txt (pr.take k) ++ [92] ++ [d]) := hid (by have := HS.out; rw [hbk] at this; simpa [chunk, hk2] using this)
            rw [hbk] at c2
            clear HS hbk
            go_wp2_with (first
              | (at_builtin; refine wpList_appB1 _ rfl (.tmp 47) (.tmp 48) 22 rfl Ycam.underlying22 Ycam.info5 w.heap.size _ _ (by rfl) HO.out 92 rfl (by omega) hb.size ?_; intro v1 w1 hown1 hb1)
              | (at_builtin; refine wpList_appB1 _ rfl (.tmp 50) (.tmp 52) 22 rfl Ycam.underlying22 Ycam.info5 w.heap.size _ _ (by rfl) hown1 _ rfl (by simp; omega) (Nat.le_trans hb.size hb1.size) ?_; intro v2 w2 hown2 hb2))
            rw [← HS2.out] at hown2
            have HO1 := hid hown2
            clear hown2
            go_wp2_with fail
            go_roundw
            case rel => exact ⟨k + 1, by omega, by go_num, HO1.out, (hb.trans hb1).trans hb2⟩
            case measure => simp [intOf]; omega
        · have HS2 : Hid (txt (pr.take (k + 1)) = txt (pr.take k) ++ [d]) := hid (by have := HS.out; simpa [chunk, hk2] using this)
          clear HS
          go_wp2_with (at_builtin; go_must (refine wpList_appB1 _ rfl (.tmp 50) (.tmp 52) 22 rfl Ycam.underlying22 Ycam.info5 w.heap.size _ _ (by rfl) HO.out _ rfl (by omega) hb.size ?_); intro v1 w1 hown1 hb1)
          rw [← HS2.out] at hown1
          have HO1 := hid hown1
          clear hown1
          go_wp2_with fail
          go_roundw
          case rel => exact ⟨k + 1, by omega, by go_num, HO1.out, hb.trans hb1⟩
          case measure => simp [intOf]; omega
      · have HS2 : Hid (txt (pr.take (k + 1)) = txt (pr.take k) ++ [92] ++ [d]) := hid (by have := HS.out; rw [hgd] at this; simpa [chunk] using this)
        clear HS hgd
        go_wp2_with (first
          | (at_builtin; refine wpList_appB1 _ rfl (.tmp 47) (.tmp 48) 22 rfl Ycam.underlying22 Ycam.info5 w.heap.size _ _ (by rfl) HO.out 92 rfl (by omega) hb.size ?_; intro v1 w1 hown1 hb1)
          | (at_builtin; refine wpList_appB1 _ rfl (.tmp 50) (.tmp 52) 22 rfl Ycam.underlying22 Ycam.info5 w.heap.size _ _ (by rfl) hown1 _ rfl (by simp; omega) (Nat.le_trans hb.size hb1.size) ?_; intro v2 w2 hown2 hb2))
        rw [← HS2.out] at hown2
        have HO1 := hid hown2
        clear hown2
        go_wp2_with fail
        go_roundw
        case rel => exact ⟨k + 1, by omega, by go_num, HO1.out, (hb.trans hb1).trans hb2⟩
        case measure => simp [intOf]; omega
    · have hkk : pr.take k = pr := List.take_of_length_le (by rw [HPL.out]; omega)
      have hown := HO.out
      rw [hkk] at hown
      have hconv := OwnB.conv (P := Ycam.prog) hown 22 Ycam.underlying22 Ycam.underlying5 9 Ycam.underlying9
      have hsz : (strOf (txt pr)).size ≤ 2048 := by
        rw [strOf_size]
        have := txt_length pr
        rw [HPL.out] at this
        omega
      obtain ⟨s, hs⟩ : ∃ s, s = strOf (txt pr) := ⟨_, rfl⟩
      rw [← hs] at hconv hsz
      have HSS := hid hs
      clear HO hown hkk hs
      go_wp2_with fail
      go_loop [11, 12] (fun p j => ∃ k m : Nat, k ≤ n ∧ j = .int .i64 k ∧ p = .int .i64 m ∧ m = (txt (pr.take k)).length) (fun _ j => n - (intOf j).toNat)
      case atStart => exact ⟨0, 0, Nat.zero_le _, rfl, rfl, rfl⟩
      case round =>
        clear hk hkn hconv
        obtain ⟨k, m, hk, rfl, rfl, hm⟩ := hrel
        have HM := hid hm
        have hms : m ≤ s.size := by
          rw [hm, HSS.out, strOf_size]
          conv => rhs; rw [← List.take_append_drop k pr]
          unfold txt
          rw [List.flatMap_append, List.length_append]
          omega
        clear hm
        by_cases hkn : k < n
        · have hkp : k < pr.length := by rw [HPL.out]; exact hkn
          obtain ⟨b, off, rfl, g0⟩ := HR.out k (by rw [HL.out]; exact hkn)
          have c0 := (hb.cell (p := ⟨b, off + k, none⟩) (block_lt g0)).trans g0
          clear g0
          have hpk : pr[k] = (gp (ps.getD k 0), gs (gp (ps.getD k 0)) || (decide (k < bl.length) && bl.getD k false)) := by
            have := pairs_at ps bl k (by rw [← HP.out]; exact hkp)
            rw [← this]
            congr 1
          have hrd := txt_read pr k hkp (by rw [hpk]; intro h; simp at h; simp [h]) ic
          rw [← HM.out, ← HSS.out, hpk] at hrd
          obtain ⟨c, hc⟩ : ∃ c, c = ps.getD k 0 := ⟨_, rfl⟩
          rw [← hc] at c0 hrd
          obtain ⟨m2, hm2⟩ : ∃ m2, m2 = (txt (pr.take (k + 1))).length := ⟨_, rfl⟩
          rw [← hm2] at hrd
          have HM2 := hid hm2
          have HRD := hid hrd
          clear hpk hc hkp hrd hm2
          go_wp2_with fail
          refine (readChar_any s m ic (by omega) (by omega) _).mono ?_
          rintro e w2 ⟨rfl, rfl⟩
          rw [HRD.out]
          go_wp2_with fail
          refine (gpick_any c _).mono ?_
          rintro e w3 ⟨rfl, rfl⟩
          go_wp2_with fail
          go_round
          case rel => exact ⟨k + 1, m2, by omega, by go_num, rfl, HM2.out⟩
          case measure => simp [intOf]; omega
        · have hkk : pr.take k = pr := List.take_of_length_le (by rw [HPL.out]; omega)
          have hmm : m = (txt pr).length := by rw [HM.out, hkk]
          have hrd := rcv_end (txt pr) ic
          rw [← hmm, ← HSS.out] at hrd
          have HRD := hid hrd
          have hms2 : m = s.size := by rw [HSS.out, strOf_size, hmm]
          have g : ((m : Int) == (s.size : Int)) = true := beq_iff_eq.2 (by omega)
          clear hkk hmm hrd hms2
          go_wp2_with fail
          refine (readChar_any s m ic (by omega) (by omega) _).mono ?_
          rintro e w2 ⟨rfl, rfl⟩
          rw [HRD.out]
          go_wp2_with fail
          go_ret
          exact ⟨rfl, hb⟩
end Go.Proofs.Ymbrca

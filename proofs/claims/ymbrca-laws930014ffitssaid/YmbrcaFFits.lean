import Derived.Test.YmbrcaFBuild
import Derived.Test.YmbrcaMatchTokens
namespace Go.Proofs.Ymbrca
open Go.RowKit

theorem mt_bad (A C : List Tk) (t : Tk) (s : List UInt8) (h0 : t.kind ≠ 0) (h1 : t.kind ≠ 1) (h2 : t.kind ≠ 2) (h3 : t.kind ≠ 3) : mt (A ++ t :: C) s = false := by
  rw [← Bool.not_eq_true, mt_append]
  rintro ⟨u, v, _, _, h⟩
  obtain ⟨c, x, _, hc, _⟩ := (mt_one t C h2 v).1 h
  simp [tOne, mOne, h0, h1, h3] at hc

theorem take_tok (ts : List Tk) (k : Nat) (hk : k < ts.length) : ts.take (k + 1) = ts.take k ++ [ts.getD k tk0] := by
  rw [List.take_succ_eq_append_getElem hk]
  simp [List.getD_eq_getElem?_getD, List.getElem?_eq_getElem hk]

theorem take_tok' (A ts : List Tk) (t : Tk) (p j : Nat) (hk : p + j < ts.length) : A ++ t :: (ts.drop p).take (j + 1) = A ++ t :: (ts.drop p).take j ++ [ts.getD (p + j) tk0] := by
  rw [take_tok (ts.drop p) j (by simp; omega)]
  have e : (ts.drop p).getD j tk0 = ts.getD (p + j) tk0 := by simp [List.getD_eq_getElem?_getD]
  rw [e]
  simp

theorem TokensAt.ok_mem {w : World} {a : Option Addr} {ts : List Tk} (h : TokensAt w a ts) {t : Tk} (ht : t ∈ ts) : RsOk w t := by
  obtain ⟨k, hk, e⟩ := List.getElem_of_mem ht
  obtain ⟨b, off, _, _, hr⟩ := h k hk
  rw [List.getD_eq_getElem?_getD, List.getElem?_eq_getElem hk] at hr
  simpa [e] using hr

/-- Behind the token's kind is settled: the row with the bad token does not match. -/
theorem mem_mid {A C : List Tk} {t x : Tk} (h : x ∈ A ++ t :: C) : x ∈ A ∨ x = t ∨ x ∈ C := by
  simpa using h

set_option maxHeartbeats 4000000 in
set_option maxRecDepth 4000 in
theorem ffits (w : World) (s : ByteArray) (hs : s.size ≤ 9223372036854775807) (a : Option Addr) (n cap : Nat) (ops : List UInt8) (hl : ops.length = n) (hm : n ≤ cap ∧ cap ≤ 9223372036854775807) (hr : BytesAt w a ops) (z : Int) (hz : 0 ≤ z ∧ z ≤ 18446744073709551615) (kind : Int) (hk : -9223372036854775808 ≤ kind ∧ kind ≤ 9223372036854775807) :
    Calls Ycam.prog 7 #[.string s, .slice a n cap, .int .u64 z, .int .i64 kind] w fun e w' => e = .returned (.bool true) ∧ Below w.heap.size w w' := by
  have hn : n ≤ 9223372036854775807 := Nat.le_trans hm.1 hm.2
  clear hm
  by_cases h1 : 1024 < s.size
  · go_enter Ycam.func7, Ycam.ntmps7
    go_wp2_with fail
    go_ret
    exact ⟨rfl, Below.refl _ _⟩
  have q1 : decide ((1024 : Int) < (s.size : Int)) = false := decide_eq_false (by omega)
  by_cases h2 : 1024 < n
  · go_enter Ycam.func7, Ycam.ntmps7
    go_wp2_with fail
    go_ret
    exact ⟨rfl, Below.refl _ _⟩
  have q2 : decide ((1024 : Int) < (n : Int)) = false := decide_eq_false (by omega)
  have HR := hid hr
  have HL := hid hl
  clear hr hl
  go_enter Ycam.func7, Ycam.ntmps7
  go_wp2_with fail
  refine (fbuild_any s (by omega) a n cap ops (by omega) HL.out _ HR.out).mono ?_
  rintro e w1 ⟨v, ts, rfl, hF, htl⟩
  obtain ⟨ao, cp, hv, _, hcp, _⟩ := hF.own.shape
  subst hv
  have TA := hid (hF.own.tokensAt (fun t h => (hF.held t h).ok))
  have HF := hid hF.fits
  have hb1 := hF.below
  obtain ⟨m, hm⟩ : ∃ m, m = ts.length := ⟨_, rfl⟩
  rw [← hm] at htl ⊢
  have HM := hid hm.symm
  clear hF hm hcp
  go_wp2_with fail
  refine (matchTokens_any ao m cp ts (by omega) HM.out s (by omega) _ TA.out).mono ?_
  rintro e w2 ⟨rfl, hb2⟩
  have hfull : mt ts s.data.toList = true := by
    have := HF.out
    rw [List.take_of_length_le (by simp)] at this
    exact this
  rw [hfull]
  have TA2 := hid (TA.out.below hb2)
  have hbw := hb1.trans (hb2.mono hb1.size)
  clear hfull HF TA hb1 hb2
  obtain ⟨p, hp⟩ : ∃ p : Nat, z % ((m : Int) + 1) = p := ⟨(z % ((m : Int) + 1)).toNat, by have := Int.emod_nonneg z (show (m : Int) + 1 ≠ 0 by omega); omega⟩
  have hpm : p ≤ m := by have := Int.emod_lt_of_pos z (show 0 < (m : Int) + 1 by omega); omega
  by_cases k1 : 0 ≤ kind
  · by_cases k2 : kind ≤ 3
    · have HKN : Hid (kind + 4 ≠ 0 ∧ kind + 4 ≠ 1 ∧ kind + 4 ≠ 2 ∧ kind + 4 ≠ 3) := ⟨by omega, by omega, by omega, by omega⟩
      have HBAD : Hid (∀ C u, mt (ts.take p ++ ⟨(kind + 4), 0, false, [], none, 0⟩ :: C) u = false) := fun C u => mt_bad _ _ _ _ HKN.out.1 HKN.out.2.1 HKN.out.2.2.1 HKN.out.2.2.2
      go_wp2_with fail
      clear hp
      go_loopg [11, 12] p (fun g v iv wr => ∃ k : Nat, g = p - k ∧ k ≤ p ∧ iv = .int .i64 k ∧ OwnT wr w2.heap.size v (ts.take k) ∧ Below w2.heap.size w2 wr)
      case atStart => exact ⟨0, rfl, Nat.zero_le _, rfl, OwnT.nil _ _, Below.refl _ _⟩
      case round =>
        obtain ⟨k, rfl, hkp, rfl, hown, hb⟩ := hrel
        have HO := hid hown
        clear hown
        have htk : (ts.take k).length ≤ 2048 := by have := List.length_take_le' k ts; have := HM.out; omega
        have HTK := hid htk
        clear htk
        obtain ⟨L, hL⟩ : ∃ L, L = ts.take k := ⟨_, rfl⟩
        rw [← hL] at HO HTK
        have HLL := hid hL
        clear hL
        by_cases hk1 : k < p
        · obtain ⟨b, off, rfl, ta, tr⟩ := TA2.out k (by rw [HM.out]; omega)
          have tw := ta.below hb ta.lt
          have HS := hid (take_tok ts k (by rw [HM.out]; omega))
          generalize ts.getD k tk0 = t at tw HS
          have c0 := tw.c0
          have c1 := tw.c1
          have c2 := tw.c2
          have c3 := tw.c3
          clear ta tr tw
          go_wp2_with (at_builtin; go_must (refine wpList_appT wr rfl (.tmp 49) (.tmp 54) 27 rfl Ycam.underlying27 Ycam.infoToken w2.heap.size _ (L) (by rfl) HO.out t _ rfl (by simp) (by have := HTK.out; omega) hb.size ?_); intro ao1 cp1 w3 hown1 hb3 hg1; have HO1 := hid hown1; clear hown1 hg1)
          go_roundg (p - (k + 1))
          case rel => exact ⟨k + 1, rfl, by omega, by go_num, by rw [HS.out, ← HLL.out]; exact HO1.out, hb.trans hb3⟩
          case measure => omega
        · have hkk : k = p := by omega
          subst hkk
          go_wp2_with (at_builtin; go_must (refine wpList_appT wr rfl (.tmp 56) (.tmp 59) 27 rfl Ycam.underlying27 Ycam.infoToken w2.heap.size _ (L) (by rfl) HO.out ⟨(kind + 4), 0, false, [], none, 0⟩ _ rfl (by simp) (by have := HTK.out; omega) hb.size ?_); intro ao1 cp1 w3 hown1 hb3 hg1; have HO1 := hid hown1; clear hown1 hg1)
          have hbb := hb.trans hb3
          have HO2 : Hid (OwnT w3 w2.heap.size (.slice ao1 (L.length + 1) cp1) (ts.take k ++ ⟨(kind + 4), 0, false, [], none, 0⟩ :: (ts.drop k).take 0)) := by rw [← HLL.out]; exact HO1.out
          clear HO HO1 hb hb3 hk1 hkp
          go_loopg [11, 13] (m - k) (fun g v iv wr => ∃ j : Nat, g = m - (k + j) ∧ k + j ≤ m ∧ iv = .int .i64 ((k + j : Nat) : Int) ∧ OwnT wr w2.heap.size v (ts.take k ++ ⟨(kind + 4), 0, false, [], none, 0⟩ :: (ts.drop k).take j) ∧ Below w2.heap.size w2 wr)
          case atStart => exact ⟨0, rfl, by omega, rfl, HO2.out, hbb⟩
          case round =>
            clear HO2 hbb
            obtain ⟨j, rfl, hj, rfl, hown, hb⟩ := hrel
            have HO := hid hown
            clear hown
            by_cases hjm : k + j < m
            · obtain ⟨b, off, rfl, ta, tr⟩ := TA2.out (k + j) (by rw [HM.out]; omega)
              have tw := ta.below hb ta.lt
              have HS := hid (take_tok' (ts.take k) ts ⟨(kind + 4), 0, false, [], none, 0⟩ k j (by rw [HM.out]; omega))
              generalize ts.getD (k + j) tk0 = t at tw HS
              have hlen : (ts.take k ++ ⟨(kind + 4), 0, false, [], none, 0⟩ :: (ts.drop k).take j).length ≤ 5000 := by
                have h1 := HM.out
                simp only [List.length_append, List.length_cons, List.length_take, List.length_drop]
                omega
              have HLEN := hid hlen
              obtain ⟨M, hM⟩ : ∃ M, M = ts.take k ++ ⟨(kind + 4), 0, false, [], none, 0⟩ :: (ts.drop k).take j := ⟨_, rfl⟩
              rw [← hM] at HO HLEN HS
              clear hM
              obtain ⟨x, hx⟩ : ∃ x, x = k + j := ⟨_, rfl⟩
              rw [← hx] at tw hj hjm ⊢
              have HX := hid hx
              have c0 := tw.c0
              have c1 := tw.c1
              have c2 := tw.c2
              have c3 := tw.c3
              clear ta tr tw hlen hx
              go_wp2_with (at_builtin; go_must (refine wpList_appT wr rfl (.tmp 68) (.tmp 73) 27 rfl Ycam.underlying27 Ycam.infoToken w2.heap.size _ (M) (by rfl) HO.out t _ rfl (by simp) (by have := HLEN.out; omega) hb.size ?_); intro ao1 cp1 w3 hown1 hb3 hg1; have HO1 := hid hown1; clear hown1 hg1)
              go_roundg (m - (x + 1))
              case rel => exact ⟨j + 1, by rw [HX.out]; rfl, by have := HX.out; omega, by rw [HX.out]; go_num, by rw [HS.out]; exact HO1.out, hb.trans hb3⟩
              case measure => have := HX.out; omega
            · have hjj : (ts.drop k).take j = ts.drop k := List.take_of_length_le (by rw [List.length_drop, HM.out]; omega)
              have hown := HO.out
              rw [hjj] at hown
              obtain ⟨ao4, cp4, hv4, _, hcp4, _⟩ := hown.shape
              subst hv4
              have hlen : (ts.take k ++ ⟨(kind + 4), 0, false, [], none, 0⟩ :: ts.drop k).length ≤ 5000 := by
                have h1 := HM.out
                simp only [List.length_append, List.length_cons, List.length_take, List.length_drop]
                omega
              have TB := hid (hown.tokensAt (fun t h => by
                rcases mem_mid h with h | h | h
                · exact (TA2.out.ok_mem (List.mem_of_mem_take h)).below hb
                · rw [h]; exact (held_none wr 0 (kind + 4) 0 (by omega) (by omega)).ok
                · exact (TA2.out.ok_mem (List.mem_of_mem_drop h)).below hb))
              have HLEN := hid hlen
              have HE : Hid (mt (ts.take k ++ ⟨(kind + 4), 0, false, [], none, 0⟩ :: ts.drop k) s.data.toList = false) := HBAD.out _ _
              clear HO hown hjj hlen hcp4
              generalize ts.take k ++ ⟨(kind + 4), 0, false, [], none, 0⟩ :: ts.drop k = bad at TB HLEN HE
              go_wp2_with fail
              refine (matchTokens_any ao4 _ cp4 bad (by have := HLEN.out; omega) rfl s (by omega) _ TB.out).mono ?_
              rintro e w5 ⟨rfl, hb5⟩
              rw [HE.out]
              go_wp2_with fail
              go_ret
              exact ⟨rfl, (hbw.trans (hb.mono hbw.size)).trans (hb5.mono (by have h1 := hbw.size; have h2 := hb.size; omega))⟩
    · have HKN : Hid (kind ≠ 0 ∧ kind ≠ 1 ∧ kind ≠ 2 ∧ kind ≠ 3) := ⟨by omega, by omega, by omega, by omega⟩
      have k3 : decide (kind ≤ 3) = false := decide_eq_false k2
      have HBAD : Hid (∀ C u, mt (ts.take p ++ ⟨kind, 0, false, [], none, 0⟩ :: C) u = false) := fun C u => mt_bad _ _ _ _ HKN.out.1 HKN.out.2.1 HKN.out.2.2.1 HKN.out.2.2.2
      go_wp2_with fail
      clear hp
      go_loopg [11, 12] p (fun g v iv wr => ∃ k : Nat, g = p - k ∧ k ≤ p ∧ iv = .int .i64 k ∧ OwnT wr w2.heap.size v (ts.take k) ∧ Below w2.heap.size w2 wr)
      case atStart => exact ⟨0, rfl, Nat.zero_le _, rfl, OwnT.nil _ _, Below.refl _ _⟩
      case round =>
        obtain ⟨k, rfl, hkp, rfl, hown, hb⟩ := hrel
        have HO := hid hown
        clear hown
        have htk : (ts.take k).length ≤ 2048 := by have := List.length_take_le' k ts; have := HM.out; omega
        have HTK := hid htk
        clear htk
        obtain ⟨L, hL⟩ : ∃ L, L = ts.take k := ⟨_, rfl⟩
        rw [← hL] at HO HTK
        have HLL := hid hL
        clear hL
        by_cases hk1 : k < p
        · obtain ⟨b, off, rfl, ta, tr⟩ := TA2.out k (by rw [HM.out]; omega)
          have tw := ta.below hb ta.lt
          have HS := hid (take_tok ts k (by rw [HM.out]; omega))
          generalize ts.getD k tk0 = t at tw HS
          have c0 := tw.c0
          have c1 := tw.c1
          have c2 := tw.c2
          have c3 := tw.c3
          clear ta tr tw
          go_wp2_with (at_builtin; go_must (refine wpList_appT wr rfl (.tmp 49) (.tmp 54) 27 rfl Ycam.underlying27 Ycam.infoToken w2.heap.size _ (L) (by rfl) HO.out t _ rfl (by simp) (by have := HTK.out; omega) hb.size ?_); intro ao1 cp1 w3 hown1 hb3 hg1; have HO1 := hid hown1; clear hown1 hg1)
          go_roundg (p - (k + 1))
          case rel => exact ⟨k + 1, rfl, by omega, by go_num, by rw [HS.out, ← HLL.out]; exact HO1.out, hb.trans hb3⟩
          case measure => omega
        · have hkk : k = p := by omega
          subst hkk
          go_wp2_with (at_builtin; go_must (refine wpList_appT wr rfl (.tmp 56) (.tmp 59) 27 rfl Ycam.underlying27 Ycam.infoToken w2.heap.size _ (L) (by rfl) HO.out ⟨kind, 0, false, [], none, 0⟩ _ rfl (by simp) (by have := HTK.out; omega) hb.size ?_); intro ao1 cp1 w3 hown1 hb3 hg1; have HO1 := hid hown1; clear hown1 hg1)
          have hbb := hb.trans hb3
          have HO2 : Hid (OwnT w3 w2.heap.size (.slice ao1 (L.length + 1) cp1) (ts.take k ++ ⟨kind, 0, false, [], none, 0⟩ :: (ts.drop k).take 0)) := by rw [← HLL.out]; exact HO1.out
          clear HO HO1 hb hb3 hk1 hkp
          go_loopg [11, 13] (m - k) (fun g v iv wr => ∃ j : Nat, g = m - (k + j) ∧ k + j ≤ m ∧ iv = .int .i64 ((k + j : Nat) : Int) ∧ OwnT wr w2.heap.size v (ts.take k ++ ⟨kind, 0, false, [], none, 0⟩ :: (ts.drop k).take j) ∧ Below w2.heap.size w2 wr)
          case atStart => exact ⟨0, rfl, by omega, rfl, HO2.out, hbb⟩
          case round =>
            clear HO2 hbb
            obtain ⟨j, rfl, hj, rfl, hown, hb⟩ := hrel
            have HO := hid hown
            clear hown
            by_cases hjm : k + j < m
            · obtain ⟨b, off, rfl, ta, tr⟩ := TA2.out (k + j) (by rw [HM.out]; omega)
              have tw := ta.below hb ta.lt
              have HS := hid (take_tok' (ts.take k) ts ⟨kind, 0, false, [], none, 0⟩ k j (by rw [HM.out]; omega))
              generalize ts.getD (k + j) tk0 = t at tw HS
              have hlen : (ts.take k ++ ⟨kind, 0, false, [], none, 0⟩ :: (ts.drop k).take j).length ≤ 5000 := by
                have h1 := HM.out
                simp only [List.length_append, List.length_cons, List.length_take, List.length_drop]
                omega
              have HLEN := hid hlen
              obtain ⟨M, hM⟩ : ∃ M, M = ts.take k ++ ⟨kind, 0, false, [], none, 0⟩ :: (ts.drop k).take j := ⟨_, rfl⟩
              rw [← hM] at HO HLEN HS
              clear hM
              obtain ⟨x, hx⟩ : ∃ x, x = k + j := ⟨_, rfl⟩
              rw [← hx] at tw hj hjm ⊢
              have HX := hid hx
              have c0 := tw.c0
              have c1 := tw.c1
              have c2 := tw.c2
              have c3 := tw.c3
              clear ta tr tw hlen hx
              go_wp2_with (at_builtin; go_must (refine wpList_appT wr rfl (.tmp 68) (.tmp 73) 27 rfl Ycam.underlying27 Ycam.infoToken w2.heap.size _ (M) (by rfl) HO.out t _ rfl (by simp) (by have := HLEN.out; omega) hb.size ?_); intro ao1 cp1 w3 hown1 hb3 hg1; have HO1 := hid hown1; clear hown1 hg1)
              go_roundg (m - (x + 1))
              case rel => exact ⟨j + 1, by rw [HX.out]; rfl, by have := HX.out; omega, by rw [HX.out]; go_num, by rw [HS.out]; exact HO1.out, hb.trans hb3⟩
              case measure => have := HX.out; omega
            · have hjj : (ts.drop k).take j = ts.drop k := List.take_of_length_le (by rw [List.length_drop, HM.out]; omega)
              have hown := HO.out
              rw [hjj] at hown
              obtain ⟨ao4, cp4, hv4, _, hcp4, _⟩ := hown.shape
              subst hv4
              have hlen : (ts.take k ++ ⟨kind, 0, false, [], none, 0⟩ :: ts.drop k).length ≤ 5000 := by
                have h1 := HM.out
                simp only [List.length_append, List.length_cons, List.length_take, List.length_drop]
                omega
              have TB := hid (hown.tokensAt (fun t h => by
                rcases mem_mid h with h | h | h
                · exact (TA2.out.ok_mem (List.mem_of_mem_take h)).below hb
                · rw [h]; exact (held_none wr 0 kind 0 (by omega) (by omega)).ok
                · exact (TA2.out.ok_mem (List.mem_of_mem_drop h)).below hb))
              have HLEN := hid hlen
              have HE : Hid (mt (ts.take k ++ ⟨kind, 0, false, [], none, 0⟩ :: ts.drop k) s.data.toList = false) := HBAD.out _ _
              clear HO hown hjj hlen hcp4
              generalize ts.take k ++ ⟨kind, 0, false, [], none, 0⟩ :: ts.drop k = bad at TB HLEN HE
              go_wp2_with fail
              refine (matchTokens_any ao4 _ cp4 bad (by have := HLEN.out; omega) rfl s (by omega) _ TB.out).mono ?_
              rintro e w5 ⟨rfl, hb5⟩
              rw [HE.out]
              go_wp2_with fail
              go_ret
              exact ⟨rfl, (hbw.trans (hb.mono hbw.size)).trans (hb5.mono (by have h1 := hbw.size; have h2 := hb.size; omega))⟩
  · have HKN : Hid (kind ≠ 0 ∧ kind ≠ 1 ∧ kind ≠ 2 ∧ kind ≠ 3) := ⟨by omega, by omega, by omega, by omega⟩
    have k3 : decide (0 ≤ kind) = false := decide_eq_false k1
    have HBAD : Hid (∀ C u, mt (ts.take p ++ ⟨kind, 0, false, [], none, 0⟩ :: C) u = false) := fun C u => mt_bad _ _ _ _ HKN.out.1 HKN.out.2.1 HKN.out.2.2.1 HKN.out.2.2.2
    go_wp2_with fail
    clear hp
    go_loopg [11, 12] p (fun g v iv wr => ∃ k : Nat, g = p - k ∧ k ≤ p ∧ iv = .int .i64 k ∧ OwnT wr w2.heap.size v (ts.take k) ∧ Below w2.heap.size w2 wr)
    case atStart => exact ⟨0, rfl, Nat.zero_le _, rfl, OwnT.nil _ _, Below.refl _ _⟩
    case round =>
      obtain ⟨k, rfl, hkp, rfl, hown, hb⟩ := hrel
      have HO := hid hown
      clear hown
      have htk : (ts.take k).length ≤ 2048 := by have := List.length_take_le' k ts; have := HM.out; omega
      have HTK := hid htk
      clear htk
      obtain ⟨L, hL⟩ : ∃ L, L = ts.take k := ⟨_, rfl⟩
      rw [← hL] at HO HTK
      have HLL := hid hL
      clear hL
      by_cases hk1 : k < p
      · obtain ⟨b, off, rfl, ta, tr⟩ := TA2.out k (by rw [HM.out]; omega)
        have tw := ta.below hb ta.lt
        have HS := hid (take_tok ts k (by rw [HM.out]; omega))
        generalize ts.getD k tk0 = t at tw HS
        have c0 := tw.c0
        have c1 := tw.c1
        have c2 := tw.c2
        have c3 := tw.c3
        clear ta tr tw
        go_wp2_with (at_builtin; go_must (refine wpList_appT wr rfl (.tmp 49) (.tmp 54) 27 rfl Ycam.underlying27 Ycam.infoToken w2.heap.size _ (L) (by rfl) HO.out t _ rfl (by simp) (by have := HTK.out; omega) hb.size ?_); intro ao1 cp1 w3 hown1 hb3 hg1; have HO1 := hid hown1; clear hown1 hg1)
        go_roundg (p - (k + 1))
        case rel => exact ⟨k + 1, rfl, by omega, by go_num, by rw [HS.out, ← HLL.out]; exact HO1.out, hb.trans hb3⟩
        case measure => omega
      · have hkk : k = p := by omega
        subst hkk
        go_wp2_with (at_builtin; go_must (refine wpList_appT wr rfl (.tmp 56) (.tmp 59) 27 rfl Ycam.underlying27 Ycam.infoToken w2.heap.size _ (L) (by rfl) HO.out ⟨kind, 0, false, [], none, 0⟩ _ rfl (by simp) (by have := HTK.out; omega) hb.size ?_); intro ao1 cp1 w3 hown1 hb3 hg1; have HO1 := hid hown1; clear hown1 hg1)
        have hbb := hb.trans hb3
        have HO2 : Hid (OwnT w3 w2.heap.size (.slice ao1 (L.length + 1) cp1) (ts.take k ++ ⟨kind, 0, false, [], none, 0⟩ :: (ts.drop k).take 0)) := by rw [← HLL.out]; exact HO1.out
        clear HO HO1 hb hb3 hk1 hkp
        go_loopg [11, 13] (m - k) (fun g v iv wr => ∃ j : Nat, g = m - (k + j) ∧ k + j ≤ m ∧ iv = .int .i64 ((k + j : Nat) : Int) ∧ OwnT wr w2.heap.size v (ts.take k ++ ⟨kind, 0, false, [], none, 0⟩ :: (ts.drop k).take j) ∧ Below w2.heap.size w2 wr)
        case atStart => exact ⟨0, rfl, by omega, rfl, HO2.out, hbb⟩
        case round =>
          clear HO2 hbb
          obtain ⟨j, rfl, hj, rfl, hown, hb⟩ := hrel
          have HO := hid hown
          clear hown
          by_cases hjm : k + j < m
          · obtain ⟨b, off, rfl, ta, tr⟩ := TA2.out (k + j) (by rw [HM.out]; omega)
            have tw := ta.below hb ta.lt
            have HS := hid (take_tok' (ts.take k) ts ⟨kind, 0, false, [], none, 0⟩ k j (by rw [HM.out]; omega))
            generalize ts.getD (k + j) tk0 = t at tw HS
            have hlen : (ts.take k ++ ⟨kind, 0, false, [], none, 0⟩ :: (ts.drop k).take j).length ≤ 5000 := by
              have h1 := HM.out
              simp only [List.length_append, List.length_cons, List.length_take, List.length_drop]
              omega
            have HLEN := hid hlen
            obtain ⟨M, hM⟩ : ∃ M, M = ts.take k ++ ⟨kind, 0, false, [], none, 0⟩ :: (ts.drop k).take j := ⟨_, rfl⟩
            rw [← hM] at HO HLEN HS
            clear hM
            obtain ⟨x, hx⟩ : ∃ x, x = k + j := ⟨_, rfl⟩
            rw [← hx] at tw hj hjm ⊢
            have HX := hid hx
            have c0 := tw.c0
            have c1 := tw.c1
            have c2 := tw.c2
            have c3 := tw.c3
            clear ta tr tw hlen hx
            go_wp2_with (at_builtin; go_must (refine wpList_appT wr rfl (.tmp 68) (.tmp 73) 27 rfl Ycam.underlying27 Ycam.infoToken w2.heap.size _ (M) (by rfl) HO.out t _ rfl (by simp) (by have := HLEN.out; omega) hb.size ?_); intro ao1 cp1 w3 hown1 hb3 hg1; have HO1 := hid hown1; clear hown1 hg1)
            go_roundg (m - (x + 1))
            case rel => exact ⟨j + 1, by rw [HX.out]; rfl, by have := HX.out; omega, by rw [HX.out]; go_num, by rw [HS.out]; exact HO1.out, hb.trans hb3⟩
            case measure => have := HX.out; omega
          · have hjj : (ts.drop k).take j = ts.drop k := List.take_of_length_le (by rw [List.length_drop, HM.out]; omega)
            have hown := HO.out
            rw [hjj] at hown
            obtain ⟨ao4, cp4, hv4, _, hcp4, _⟩ := hown.shape
            subst hv4
            have hlen : (ts.take k ++ ⟨kind, 0, false, [], none, 0⟩ :: ts.drop k).length ≤ 5000 := by
              have h1 := HM.out
              simp only [List.length_append, List.length_cons, List.length_take, List.length_drop]
              omega
            have TB := hid (hown.tokensAt (fun t h => by
              rcases mem_mid h with h | h | h
              · exact (TA2.out.ok_mem (List.mem_of_mem_take h)).below hb
              · rw [h]; exact (held_none wr 0 kind 0 (by omega) (by omega)).ok
              · exact (TA2.out.ok_mem (List.mem_of_mem_drop h)).below hb))
            have HLEN := hid hlen
            have HE : Hid (mt (ts.take k ++ ⟨kind, 0, false, [], none, 0⟩ :: ts.drop k) s.data.toList = false) := HBAD.out _ _
            clear HO hown hjj hlen hcp4
            generalize ts.take k ++ ⟨kind, 0, false, [], none, 0⟩ :: ts.drop k = bad at TB HLEN HE
            go_wp2_with fail
            refine (matchTokens_any ao4 _ cp4 bad (by have := HLEN.out; omega) rfl s (by omega) _ TB.out).mono ?_
            rintro e w5 ⟨rfl, hb5⟩
            rw [HE.out]
            go_wp2_with fail
            go_ret
            exact ⟨rfl, (hbw.trans (hb.mono hbw.size)).trans (hb5.mono (by have h1 := hbw.size; have h2 := hb.size; omega))⟩
end Go.Proofs.Ymbrca

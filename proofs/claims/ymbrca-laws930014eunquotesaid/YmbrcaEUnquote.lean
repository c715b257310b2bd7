import Derived.Test.YmbrcaQuoteAt
import Derived.Test.YmbrcaEspecial
import Derived.Test.YmbrcaBytes1
import Derived.Test.YmbrcaAid
namespace Go.Proofs.Ymbrca
open Go.RowKit

set_option maxHeartbeats 1000000 in
theorem eunquote (w : World) (s : ByteArray) (hs : s.size ≤ 9223372036854775807) (a : Option Addr) (n cap : Nat) (ps : List UInt8) (hl : ps.length = n) (hm : n ≤ cap ∧ cap ≤ 9223372036854775807) (hr : BytesAt w a ps) :
    Calls Ycam.prog 3 #[.string s, .slice a n cap] w fun e w' => e = .returned (.bool true) ∧ Below w.heap.size w w' := by
  have hn : n ≤ 9223372036854775807 := Nat.le_trans hm.1 hm.2
  clear hm
  by_cases hbig : 4096 < s.size
  · go_enter Ycam.func3, Ycam.ntmps3
    go_wp2_with fail
    go_ret
    exact ⟨rfl, Below.refl _ _⟩
  by_cases hbig2 : 4096 < n
  · go_enter Ycam.func3, Ycam.ntmps3
    go_wp2_with fail
    go_ret
    exact ⟨rfl, Below.refl _ _⟩
  have g1 : decide (4096 < (s.size : Int)) = false := decide_eq_false (by omega)
  have g2 : decide (4096 < (n : Int)) = false := decide_eq_false (by omega)
  have HR : Hid (BytesAt w a ps) := hr
  have HL : Hid (ps.length = n) := hl
  clear hr hl
  go_enter Ycam.func3, Ycam.ntmps3
  go_wp2_with fail
  go_loopw [5, 6] (fun v i wr => ∃ k : Nat, k ≤ n ∧ i = .int .i64 k ∧ (∃ bl : List UInt8, bl.length = k ∧ OwnB wr w.heap.size v bl) ∧ Below w.heap.size w wr) (fun _ i _ => n - (intOf i).toNat)
  case atStart => exact ⟨0, Nat.zero_le _, rfl, ⟨[], rfl, OwnB.nil _ _⟩, Below.refl _ _⟩
  case round =>
    obtain ⟨k, hk, rfl, ⟨bl, hbl, hown⟩, hb⟩ := hrel
    have HO := hid hown
    have HBL : Hid (bl.length = k) := hbl
    clear hown hbl
    by_cases hkn : k < n
    · obtain ⟨b, off, rfl, g0⟩ := HR.out k (by rw [HL.out]; exact hkn)
      have c0 := (hb.cell (p := ⟨b, off + k, none⟩) (block_lt g0)).trans g0
      clear g0
      obtain ⟨c, hc⟩ : ∃ c, c = ps.getD k 0 := ⟨_, rfl⟩
      rw [← hc] at c0
      clear hc
      have bc := c.toNat_lt
      have i0 : (0 : Int) ≤ (c.toNat : Int) % 10 := by omega
      have i1 : (c.toNat : Int) % 10 < 10 := by omega
      go_wp2_with (at_builtin; go_must (refine wpList_appB1 wr rfl (.tmp 26) (.tmp 34) 22 rfl Ycam.underlying22 Ycam.info5 w.heap.size _ bl (by rfl) HO.out _ rfl (by rw [HBL.out]; omega) hb.size ?_); intro v1 w1 hown1 hb1)
      have HO1 := hid hown1
      clear hown1
      go_wp2_with fail
      go_roundw
      case rel => exact ⟨k + 1, by omega, by go_num, ⟨_, by simp [HBL.out], HO1.out⟩, hb.trans hb1⟩
      case measure => simp [intOf]; omega
    · have hkn' : k = n := by omega
      have hconv := OwnB.conv HO.out (P := Ycam.prog) 22 Ycam.underlying22 Ycam.underlying5 9 Ycam.underlying9
      have hbs : (strOf bl).size ≤ 4096 := by rw [strOf_size, HBL.out]; omega
      obtain ⟨tl, htl⟩ : ∃ tl, tl = strOf bl := ⟨_, rfl⟩
      rw [← htl] at hconv hbs
      clear htl HO HBL hkn'
      go_wp2_with fail
      have hfs : (s ++ tl).size ≤ 8192 := by rw [ByteArray.size_append]; omega
      generalize s ++ tl = f at hfs ⊢
      clear hconv
      refine (quote_any f _ (by omega)).mono ?_
      rintro e w1 ⟨rfl, hb1⟩
      have hql : (strOf (quote f.data.toList)).size ≤ 16384 := by
        rw [strOf_size]
        have := quote_length f.data.toList
        simp at this
        omega
      obtain ⟨q, hq⟩ : ∃ q, q = strOf (quote f.data.toList) := ⟨_, rfl⟩
      rw [← hq] at hql ⊢
      have HQ := hid hq
      clear hq
      have hb2 := hb.trans (hb1.mono hb.size)
      go_wp2_with fail
      go_loopw [9, 10] (fun v i wr => ∃ k n : Nat, k ≤ f.size ∧ i = .int .i64 n ∧ n = (quote (f.data.toList.take k)).length ∧ OwnB wr w.heap.size v (f.data.toList.take k) ∧ Below w.heap.size w wr) (fun _ i _ => q.size - (intOf i).toNat)
      case atStart => exact ⟨0, 0, Nat.zero_le _, rfl, rfl, OwnB.nil _ _, hb2⟩
      case round =>
        clear hb2 hb1 hb hkn hk
        obtain ⟨k, n, hk, rfl, hn, hown, hb⟩ := hrel
        have HN := hid hn
        have HO := hid hown
        clear hn hown
        have hlk : (f.data.toList.take k).length ≤ 8192 := by simp; omega
        by_cases hks : k < f.size
        · have hts : f.data.toList.take (k + 1) = f.data.toList.take k ++ [f[k]] := by
            rw [List.take_succ_eq_append_getElem (by simpa using hks)]; rfl
          have HTS := hid hts
          clear hts
          rcases quote_at f q k n HQ.out hks HN.out with ⟨hsp, h0, h1, q0, q1, hl⟩ | ⟨hsp, h0, q0, hl⟩
          · have HL2 := hid hl
            have HQ1 := hid q1
            clear hl hsp q1
            have i0 : (0 : Int) ≤ (n : Int) + 1 := by omega
            have i1 : (n : Int) + 1 < (q.size : Int) := by omega
            go_wp2_with (at_builtin; go_must (refine wpList_appB1 _ rfl (.tmp 64) (.tmp 66) 22 rfl Ycam.underlying22 Ycam.info5 w.heap.size _ _ (by rfl) HO.out _ rfl (by omega) hb.size ?_); intro v1 w1 hown1 hb1)
            rw [HQ1.out, ← HTS.out] at hown1
            have HO1 := hid hown1
            clear hown1
            go_wp2_with fail
            go_roundw
            case rel => exact ⟨k + 1, n + 2, by omega, by go_num, HL2.out.symm, HO1.out, hb.trans hb1⟩
            case measure => simp [intOf]; omega
          · have HL2 := hid hl
            have HSp := hid hsp
            have HQ0 := hid q0
            have g92 : ((q[n].toNat : Int) == 92) = false := by
              rw [q0]
              refine beq_eq_false_iff_ne.2 fun e => ?_
              have : f[k] = 92 := UInt8.toNat_inj.1 (by simpa using (by omega : f[k].toNat = 92))
              rw [this] at hsp
              simp [isSp] at hsp
            clear hl hsp q0
            go_wp2_with fail
            refine (especial_any q[n] _).mono ?_
            rintro e w2 ⟨rfl, rfl⟩
            rw [HQ0.out, HSp.out, ← HQ0.out]
            go_wp2_with (at_builtin; go_must (refine wpList_appB1 _ rfl (.tmp 64) (.tmp 66) 22 rfl Ycam.underlying22 Ycam.info5 w.heap.size _ _ (by rfl) HO.out _ rfl (by omega) hb.size ?_); intro v1 w1 hown1 hb1)
            rw [HQ0.out, ← HTS.out] at hown1
            have HO1 := hid hown1
            clear hown1
            go_wp2_with fail
            go_roundw
            case rel => exact ⟨k + 1, n + 1, by omega, by go_num, HL2.out.symm, HO1.out, hb.trans hb1⟩
            case measure => simp [intOf]; omega
        · have hkk : f.data.toList.take k = f.data.toList := List.take_of_length_le (by simp; omega)
          have hnq : n = q.size := by rw [HN.out, hkk, HQ.out, strOf_size]
          have hconv := OwnB.conv (P := Ycam.prog) HO.out 22 Ycam.underlying22 Ycam.underlying5 9 Ycam.underlying9
          rw [hkk, strOf_toList] at hconv
          subst hnq
          clear hkk HO HN
          go_wp2_with fail
          go_ret
          exact ⟨ret_bool (by simp), hb⟩
end Go.Proofs.Ymbrca

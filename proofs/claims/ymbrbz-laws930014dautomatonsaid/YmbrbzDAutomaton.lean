import Derived.Test.YmbrbzDSpec
import Derived.Test.YmbrbzDSame
namespace Go.Proofs.Ymbrbz
open Go.RowKit

theorem nil_eq31 (w : World) : (binOp BinOp.eql 31 (.slice none 0 0) (.slice none 0 0)).run Ybzm.prog w = .ok (.bool true) w := by kernel_rfl

theorem row_kept {w w' : World} {base : Nat} {e : TypeId} {size : Nat} {v : Value} {n : Nat} {xs : List Value} (h : w.ownsRow base e size v n xs) (hb : Below w.heap.size w w') : w'.ownsRow base e size v n xs := by
  obtain ⟨hl, h | ⟨g, cap, cur, e1, hb1, hg, r⟩⟩ := h
  · exact ⟨hl, .inl h⟩
  · exact ⟨hl, .inr ⟨g, cap, cur, e1, hb1, by rw [hb.block g (Array.getElem?_eq_some_iff.1 hg).1]; exact hg, r⟩⟩

set_option maxHeartbeats 1000000 in
theorem dagrees_any (s : ByteArray) (hs : s.size ≤ 1000000) (w : World) :
    Calls Ybzm.prog 30 #[.string s] w fun e w' => e = .returned (.bool true) ∧ Below w.heap.size w w' := by
  go_enter Ybzm.func30, Ybzm.ntmps30
  go_wp2_with fail
  refine (dspec_any s hs w).mono ?_
  rintro e w1 (⟨hp, rfl, hb1⟩ | ⟨TS, ao, cp, hp, rfl, hTl, hPB⟩)
  · have HP := hid hp
    clear hp
    go_wp2_with fail
    refine (parse_any s (by omega) w1).mono ?_
    rintro e w2 (⟨hp2, rfl, hb2⟩ | ⟨BS, ao2, cp2, hp2, rfl, hBl, hPB2⟩)
    · have HB := hid (hb1.trans (hb2.mono hb1.size))
      clear hp2
      have q31 := nil_eq31 w2
      go_wp2_with fail
      go_ret
      exact ⟨rfl, HB.out⟩
    · rw [HP.out] at hp2; cases hp2
  · have HP := hid hp
    have HPB := hid hPB
    have hb1 := hPB.below
    have HTL := hid hTl
    clear hp hPB hTl
    go_wp2_with fail
    refine (parse_any s (by omega) w1).mono ?_
    rintro e w2 (⟨hp2, rfl, hb2⟩ | ⟨BS, ao2, cp2, hp2, rfl, hBl, hPB2⟩)
    · rw [HP.out] at hp2; cases hp2
    · have hBN : BS.map Tk.pk = TS.map Tk.pk := by rw [HP.out] at hp2; exact (Option.some.inj hp2).symm
      have hbl : BS.length = TS.length := by have := congrArg List.length hBN; simpa only [List.length_map] using this
      have HT := hid ((HPB.out.own.tokensAt (fun t ht => (HPB.out.fine t ht).held.ok)).below hPB2.below)
      have HB2 := hid (hPB2.own.tokensAt (fun t ht => (hPB2.fine t ht).held.ok))
      have hb2 := hb1.trans (hPB2.below.mono hb1.size)
      have HBN := hid hBN
      have HBL := hid hbl
      have hlen : TS.length ≤ 1000000 := by have := HTL.out; have h2 : s.data.toList.length = s.size := by simp
                                            omega
      obtain ⟨n, hn⟩ : ∃ n, n = TS.length := ⟨_, rfl⟩
      rw [hbl, ← hn]
      have HN := hid hn.symm
      rw [← hn] at hlen
      clear hBN hbl hp2 hPB2 hBl hn
      go_wp2_with fail
      refine (dsame_same ao2 ao n cp2 cp BS TS (by omega) (HBL.out.trans HN.out) HN.out HBN.out _ HB2.out HT.out).mono ?_
      rintro e w9 ⟨rfl, hb9⟩
      go_wp2_with fail
      go_ret
      exact ⟨rfl, hb2.trans (hb9.mono hb2.size)⟩

set_option maxHeartbeats 1000000 in
theorem dautomaton (w : World) (s : ByteArray) (hs : s.size ≤ 9223372036854775807) (a : Option Addr) (n cap : Nat) (ps : List UInt8) (hl : ps.length = n) (hm : n ≤ cap ∧ cap ≤ 9223372036854775807) (hr : BytesAt w a ps) :
    Calls Ybzm.prog 12 #[.string s, .slice a n cap] w fun e w' => e = .returned (.bool true) ∧ Below w.heap.size w w' := by
  have hn : n ≤ 9223372036854775807 := Nat.le_trans hm.1 hm.2
  clear hm
  by_cases hbig : 1024 < s.size
  · go_enter Ybzm.func12, Ybzm.ntmps12
    go_wp2_with fail
    go_ret
    exact ⟨rfl, Below.refl _ _⟩
  by_cases hbig2 : 1024 < n
  · go_enter Ybzm.func12, Ybzm.ntmps12
    go_wp2_with fail
    go_ret
    exact ⟨rfl, Below.refl _ _⟩
  have HR := hid hr
  have HL := hid hl
  clear hr hl
  go_enter Ybzm.func12, Ybzm.ntmps12
  go_wp2_with fail
  go_loopg [5, 6] n (fun g v i wr => ∃ (k : Nat) (X : List UInt8), g = n - k ∧ k ≤ n ∧ i = .int .i64 k ∧ X.length = k ∧ OwnB wr w.heap.size v X ∧ Below w.heap.size w wr)
  case atStart => exact ⟨0, [], rfl, Nat.zero_le _, rfl, rfl, OwnB.nil _ _, Below.refl _ _⟩
  case round =>
    obtain ⟨k, X, rfl, hk, rfl, hX, hown, hb⟩ := hrel
    have HX := hid hX
    have HO := hid hown
    clear hX hown
    by_cases hkn : k < n
    · obtain ⟨b, off, rfl, g0⟩ := HR.out k (by rw [HL.out]; exact hkn)
      have c0 := (hb.cell (p := ⟨b, off + k, none⟩) (block_lt g0)).trans g0
      clear g0
      generalize ps.getD k 0 = c at c0
      have bc := c.toNat_lt
      have i0 : (0 : Int) ≤ (c.toNat : Int) % 9 := by omega
      have i1 : (c.toNat : Int) % 9 < 9 := by omega
      go_wp2_with (at_builtin; go_must (refine wpList_appB1k wr rfl (.tmp 21) (.tmp 29) 30 rfl Ybzm.underlying30 Ybzm.info5 w.heap.size _ X (by rfl) HO.out _ _ rfl (by simp) (by rw [HX.out]; omega) hb.size ?_); intro v2 w2 hown2 hb2 _; have HO2 := hid hown2; clear hown2)
      go_roundg (n - (k + 1))
      case rel => exact ⟨k + 1, _, rfl, by omega, by go_num, by simp [HX.out], HO2.out, hb.trans hb2⟩
      case measure => omega
    · have HXL : Hid (X.length ≤ 1024) := by rw [Hid, HX.out]; omega
      clear HX
      go_wp2_with fail
      refine (dagrees_any s (by omega) _).mono ?_
      rintro e w2 ⟨rfl, hb2⟩
      have hown2 : OwnB w2 w.heap.size _ X := row_kept HO.out hb2
      have hconv := OwnB.conv (P := Ybzm.prog) hown2 30 Ybzm.underlying30 Ybzm.underlying5 9 Ybzm.underlying9
      have hb3 := hb.trans (hb2.mono hb.size)
      clear hown2
      go_wp2_with fail
      refine (dagrees_any (strOf X) (by rw [strOf_size]; have := HXL.out; omega) _).mono ?_
      rintro e w4 ⟨rfl, hb4⟩
      go_wp2_with fail
      go_ret
      exact ⟨rfl, hb3.trans (hb4.mono hb3.size)⟩
end Go.Proofs.Ymbrbz

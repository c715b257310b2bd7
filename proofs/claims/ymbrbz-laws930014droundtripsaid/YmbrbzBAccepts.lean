import Derived.Test.YmbrbzBSmall
namespace Go.Proofs.Ymbrbz
open Go.RowKit

def tameT (b : Bool) (t : Tk) : Tk := if b then ⟨IntKind.u64.wrap t.kind % 4, t.char, t.neg, t.rs, t.ra, t.cap⟩ else t

theorem tameT_rs (b : Bool) (t : Tk) : (tameT b t).rs = t.rs := by unfold tameT; split <;> rfl

theorem tame_take (b : Bool) (ts : List Tk) (k : Nat) (hk : k < ts.length) : (ts.take (k + 1)).map (tameT b) = (ts.take k).map (tameT b) ++ [tameT b (ts.getD k tk0)] := by
  rw [take_tk ts k hk, List.map_append]; simp

theorem val_of {a b : Bool} (h : a = b) : Value.bool a = .bool b := by rw [h]

theorem wrap64_id {z : Int} (h1 : -9223372036854775808 ≤ z) (h2 : z ≤ 9223372036854775807) : wrap64 z = z := by
  first | (unfold wrap64; omega) | (simp [wrap64]; omega)

theorem u64_nonneg (z : Int) : 0 ≤ IntKind.u64.wrap z := by
  have e : IntKind.u64.wrap z = z % 18446744073709551616 := by simp [IntKind.wrap, IntKind.bits, IntKind.signed]
  rw [e]; omega

theorem wrap4 (z : Int) : ∃ d : Nat, IntKind.u64.wrap z % 4 = (d : Int) ∧ d < 4 :=
  ⟨(IntKind.u64.wrap z % 4).toNat, by have := Int.emod_nonneg (IntKind.u64.wrap z) (show (4 : Int) ≠ 0 by omega); omega, by have := Int.emod_lt_of_pos (IntKind.u64.wrap z) (show (0 : Int) < 4 by omega); omega⟩

theorem RsOk.of {w : World} {t t' : Tk} (h : RsOk w t) (h1 : t'.rs = t.rs) (h2 : t'.ra = t.ra) (h3 : t'.cap = t.cap) (h4 : -9223372036854775808 ≤ t'.kind) (h5 : t'.kind ≤ 9223372036854775807) : RsOk w t' :=
  ⟨by rw [h1, h3]; exact h.le, by rw [h3]; exact h.room, h4, h5, by rw [h1, h2]; exact h.at_⟩

theorem tameT_ok {w : World} {b : Bool} {t : Tk} (h : RsOk w t) : RsOk w (tameT b t) := by
  cases b
  · exact h
  · obtain ⟨d, hd, h4⟩ := wrap4 t.kind
    refine h.of rfl rfl rfl ?_ ?_
    · show _ ≤ IntKind.u64.wrap t.kind % 4; omega
    · show IntKind.u64.wrap t.kind % 4 ≤ _; omega

set_option maxHeartbeats 4000000 in
set_option maxRecDepth 4000 in
theorem baccepts (w : World) (a : Option Addr) (n cap : Nat) (ts : List Tk) (hl : ts.length = n) (hm : n ≤ cap ∧ cap ≤ 9223372036854775807) (hr : TokensAt w a ts) (tame : Bool) :
    Calls Ybzm.prog 6 #[.slice a n cap, .bool tame] w fun e w' => e = .returned (.bool true) ∧ Below w.heap.size w w' := by
  have hn : n ≤ 9223372036854775807 := Nat.le_trans hm.1 hm.2
  clear hm
  have HR := hid hr
  have HL := hid hl
  clear hr hl
  go_enter Ybzm.func6, Ybzm.ntmps6
  go_wp2_with fail
  refine (bbig_any a n cap ts hn HL.out w HR.out).mono ?_
  rintro e w1 ⟨rfl, rfl⟩
  cases hbig : bigT ts with
  | true =>
    clear hbig
    go_wp2_with fail
    go_ret
    exact ⟨rfl, Below.refl _ _⟩
  | false =>
  have HSZ := hid (bigT_le hbig)
  have hn1 : n ≤ 1024 := by have := HSZ.out.1; rw [HL.out] at this; exact this
  clear hbig hn
  go_wp2_with (at_make; go_must (refine wpList_makeT0 _ rfl (.const (.int .i64 0)) (.tmp 14) 31 rfl Ybzm.underlying31 Ybzm.infoToken w1.heap.size n n rfl rfl rfl (by omega) (Nat.le_refl _) ?_); intro ao cp w2 hown2 hb2 _; have HO2 := hid hown2; clear hown2)
  rename World => wM
  go_loopg [5, 6, 7] n (fun g v gd i wr => ∃ k : Nat, g = n - k ∧ k ≤ n ∧ i = .int .i64 k ∧ gd = .bool (((ts.take k).map (tameT tame)).all okT) ∧ OwnT wr w1.heap.size v ((ts.take k).map (tameT tame)) ∧ Below w1.heap.size w1 wr)
  case atStart => exact ⟨0, rfl, Nat.zero_le _, rfl, rfl, HO2.out, hb2⟩
  case round =>
    clear HO2 hb2
    obtain ⟨k, rfl, hk, rfl, rfl, hown, hb⟩ := hrel
    have HO := hid hown
    clear hown
    by_cases hkn : k < n
    · obtain ⟨b, off, rfl, ta, tr⟩ := HR.out k (by rw [HL.out]; exact hkn)
      have tw := ta.below hb ta.lt
      have HN := hid (tame_take tame ts k (by rw [HL.out]; exact hkn))
      have HTL := hid (show ((ts.take k).map (tameT tame)).length ≤ 2000 by have := List.length_take_le k ts; simp; omega)
      generalize ts.getD k tk0 = t at tw tr HN
      generalize (ts.take k).map (tameT tame) = L at HO HN HTL
      have HTR := hid (tameT_ok (b := tame) tr)
      have c0 := tw.c0
      have c1 := tw.c1
      have c2 := tw.c2
      have c3 := tw.c3
      clear ta tr tw
      obtain ⟨t', ht'⟩ : ∃ t', t' = tameT tame t := ⟨_, rfl⟩
      rw [← ht'] at HN HTR
      cases tame with
      | false =>
        have e : t' = t := ht'
        subst e
        clear ht'
        go_wp2_with fail
        have HBT := hb.alloc hb.size (.cells #[.int .i64 t'.kind, .int .u8 t'.char.toNat, .bool t'.neg, .slice t'.ra t'.rs.length t'.cap] 26)
        have HOT := hid (HO.out.alloc (.cells #[.int .i64 t'.kind, .int .u8 t'.char.toNat, .bool t'.neg, .slice t'.ra t'.rs.length t'.cap] 26))
        have hblk := block_new wr #[.int .i64 t'.kind, .int .u8 t'.char.toNat, .bool t'.neg, .slice t'.ra t'.rs.length t'.cap] 26
        refine (bgood_any t' _ (HTR.out.below HBT)).mono ?_
        rintro e w2 ⟨rfl, hb2⟩
        have hblk2 : w2.heap[wr.heap.size]? = _ := (hb2.block _ (by simp)).trans hblk
        have d0 := cell_block hblk2 0
        have d1 := cell_block hblk2 1
        have d2 := cell_block hblk2 2
        have d3 := cell_block hblk2 3
        simp only [List.getElem?_toArray, List.getElem?_cons_zero, List.getElem?_cons_succ] at d0 d1 d2 d3
        have HO2 := hid (HOT.out.kept hb2 (Nat.le_refl _))
        have HB2 := HBT.trans (hb2.mono HBT.size)
        clear hblk hblk2 hb2 HOT HO
        cases hok : okT t' with
        | true =>
          have HK := hid hok
          clear hok
          go_wp2_with (at_builtin; go_must (refine wpList_appT w2 rfl (.tmp 36) (.tmp 38) 31 rfl Ybzm.underlying31 Ybzm.infoToken w1.heap.size _ L (by rfl) HO2.out t' _ rfl (by simp) (by have := HTL.out; omega) HB2.size ?_); intro ao1 cp1 w3 hown1 hb1 hg1; have HO1 := hid hown1; clear hown1 hg1)
          go_roundg (n - (k + 1))
          case rel => exact ⟨k + 1, rfl, by omega, by go_num, val_of (by rw [HN.out, List.all_append]; simp [HK.out]), by rw [HN.out]; exact HO1.out, HB2.trans hb1⟩
          case measure => omega
        | false =>
          have HK := hid hok
          clear hok
          go_wp2_with (at_builtin; go_must (refine wpList_appT w2 rfl (.tmp 36) (.tmp 38) 31 rfl Ybzm.underlying31 Ybzm.infoToken w1.heap.size _ L (by rfl) HO2.out t' _ rfl (by simp) (by have := HTL.out; omega) HB2.size ?_); intro ao1 cp1 w3 hown1 hb1 hg1; have HO1 := hid hown1; clear hown1 hg1)
          go_roundg (n - (k + 1))
          case rel => exact ⟨k + 1, rfl, by omega, by go_num, val_of (by rw [HN.out, List.all_append]; simp [HK.out]), by rw [HN.out]; exact HO1.out, HB2.trans hb1⟩
          case measure => omega
      | true =>
        have ek : wrap64 ((IntKind.u64.wrap t.kind).tmod 4) = t'.kind := by
          rw [ht']
          obtain ⟨d, hd, hd4⟩ := wrap4 t.kind
          show _ = IntKind.u64.wrap t.kind % 4
          have h0 : 0 ≤ IntKind.u64.wrap t.kind := u64_nonneg _
          rw [Int.tmod_eq_emod_of_nonneg h0, hd]
          exact wrap64_id (by omega) (by omega)
        have e1 : t.char = t'.char := by rw [ht']; rfl
        have e2 : t.neg = t'.neg := by rw [ht']; rfl
        have e3 : t.rs = t'.rs := by rw [ht']; rfl
        have e4 : t.ra = t'.ra := by rw [ht']; rfl
        have e5 : t.cap = t'.cap := by rw [ht']; rfl
        rw [e1] at c1
        rw [e2] at c2
        rw [e3, e4, e5] at c3
        clear ht' e1 e2 e3 e4 e5
        have HEK := hid ek
        clear ek
        go_wp2_with fail
        rw [HEK.out]
        clear HEK
        have HBT := hb.alloc hb.size (.cells #[.int .i64 t'.kind, .int .u8 t'.char.toNat, .bool t'.neg, .slice t'.ra t'.rs.length t'.cap] 26)
        have HOT := hid (HO.out.alloc (.cells #[.int .i64 t'.kind, .int .u8 t'.char.toNat, .bool t'.neg, .slice t'.ra t'.rs.length t'.cap] 26))
        have hblk := block_new wr #[.int .i64 t'.kind, .int .u8 t'.char.toNat, .bool t'.neg, .slice t'.ra t'.rs.length t'.cap] 26
        refine (bgood_any t' _ (HTR.out.below HBT)).mono ?_
        rintro e w2 ⟨rfl, hb2⟩
        have hblk2 : w2.heap[wr.heap.size]? = _ := (hb2.block _ (by simp)).trans hblk
        have d0 := cell_block hblk2 0
        have d1 := cell_block hblk2 1
        have d2 := cell_block hblk2 2
        have d3 := cell_block hblk2 3
        simp only [List.getElem?_toArray, List.getElem?_cons_zero, List.getElem?_cons_succ] at d0 d1 d2 d3
        have HO2 := hid (HOT.out.kept hb2 (Nat.le_refl _))
        have HB2 := HBT.trans (hb2.mono HBT.size)
        clear hblk hblk2 hb2 HOT HO
        cases hok : okT t' with
        | true =>
          have HK := hid hok
          clear hok
          go_wp2_with (at_builtin; go_must (refine wpList_appT w2 rfl (.tmp 36) (.tmp 38) 31 rfl Ybzm.underlying31 Ybzm.infoToken w1.heap.size _ L (by rfl) HO2.out t' _ rfl (by simp) (by have := HTL.out; omega) HB2.size ?_); intro ao1 cp1 w3 hown1 hb1 hg1; have HO1 := hid hown1; clear hown1 hg1)
          go_roundg (n - (k + 1))
          case rel => exact ⟨k + 1, rfl, by omega, by go_num, val_of (by rw [HN.out, List.all_append]; simp [HK.out]), by rw [HN.out]; exact HO1.out, HB2.trans hb1⟩
          case measure => omega
        | false =>
          have HK := hid hok
          clear hok
          go_wp2_with (at_builtin; go_must (refine wpList_appT w2 rfl (.tmp 36) (.tmp 38) 31 rfl Ybzm.underlying31 Ybzm.infoToken w1.heap.size _ L (by rfl) HO2.out t' _ rfl (by simp) (by have := HTL.out; omega) HB2.size ?_); intro ao1 cp1 w3 hown1 hb1 hg1; have HO1 := hid hown1; clear hown1 hg1)
          go_roundg (n - (k + 1))
          case rel => exact ⟨k + 1, rfl, by omega, by go_num, val_of (by rw [HN.out, List.all_append]; simp [HK.out]), by rw [HN.out]; exact HO1.out, HB2.trans hb1⟩
          case measure => omega
    · have hkk : ts.take k = ts := List.take_of_length_le (by rw [HL.out]; omega)
      rw [hkk] at HO ⊢
      obtain ⟨ao3, cp3, hv3, hc3, hc4, _⟩ := HO.out.shape
      obtain ⟨S, hS⟩ : ∃ S, S = ts.map (tameT tame) := ⟨_, rfl⟩
      rw [← hS] at HO hv3 ⊢
      subst hv3
      have hSn : S.length = n := by rw [hS]; simpa using HL.out
      rw [hSn] at HO ⊢
      have HTA : Hid (TokensAt wr ao3 S) := HO.out.tokensAt (by
        intro x hx
        rw [hS] at hx
        obtain ⟨t, ht, rfl⟩ := List.mem_map.1 hx
        obtain ⟨j, hj, hjt⟩ := List.getElem_of_mem ht
        obtain ⟨_, _, _, _, tr⟩ := HR.out j hj
        have e : ts.getD j tk0 = t := by rw [List.getD_eq_getElem?_getD, List.getElem?_eq_getElem hj]; exact hjt
        rw [e] at tr
        exact (tameT_ok tr).below hb)
      have HLE : Hid (∀ t ∈ S, t.rs.length ≤ 1025) := by
        intro x hx
        rw [hS] at hx
        obtain ⟨t, ht, rfl⟩ := List.mem_map.1 hx
        rw [tameT_rs]
        have := HSZ.out.2 t ht
        omega
      have HSN := hid hSn
      clear hS hSn hkk HO hc3 hc4
      go_wp2_with fail
      refine (print_any ao3 n cp3 S hn1 HSN.out HLE.out wr HTA.out).mono ?_
      rintro e w4 ⟨hb4, ⟨hall, rfl⟩ | ⟨hall, rfl⟩⟩
      · rw [hall]
        clear hall
        go_wp2_with fail
        go_ret
        exact ⟨rfl, hb.trans (hb4.mono hb.size)⟩
      · rw [hall]
        clear hall
        go_wp2_with fail
        go_ret
        exact ⟨rfl, hb.trans (hb4.mono hb.size)⟩
end Go.Proofs.Ymbrbz

import Derived.Test.YmbrbzDRow
import Derived.Test.YmbrbzDItems
import Derived.Test.YmbrbzDSame
namespace Go.Proofs.Ymbrbz
open Go.RowKit

theorem getD_mem_di {ts : List Di} {k : Nat} (hk : k < ts.length) : ts.getD k di0 ∈ ts := by
  rw [List.getD_eq_getElem?_getD, List.getElem?_eq_getElem hk]; exact List.getElem_mem hk

theorem held_none (w : World) (B : Nat) (kind : Int) (c : UInt8) (h1 : -9223372036854775808 ≤ kind) (h2 : kind ≤ 9223372036854775807) : Held w B ⟨kind, c, false, [], none, 0⟩ := (clean_none w B kind c h1 h2).held

theorem said_star {X : List UInt8} {L : List Pk} (h : Said X L) : Said (X ++ [42]) (L ++ [⟨2, 0, false, []⟩]) := h.more fun Z => by simp [parse1]
theorem said_any {X : List UInt8} {L : List Pk} (h : Said X L) : Said (X ++ [63]) (L ++ [⟨1, 0, false, []⟩]) := h.more fun Z => by simp [parse1]
theorem said_lit {X : List UInt8} {L : List Pk} (h : Said X L) {c : UInt8} {l : List UInt8} (hl : l = [92, c] ∨ (l = [c] ∧ c.toNat ≠ 42 ∧ c.toNat ≠ 63 ∧ c.toNat ≠ 91 ∧ c.toNat ≠ 92)) : Said (X ++ l) (L ++ [⟨0, c, false, []⟩]) := h.more fun Z => parse1_lit hl Z
theorem said_class {X : List UInt8} {L : List Pk} (h : Said X L) (neg : Bool) {its : List (UInt8 × UInt8 × List UInt8)} (hi : ∀ it ∈ its, ItemTxt it.1 it.2.1 it.2.2) (h0 : its ≠ []) : Said (X ++ ([91] ++ bangs neg ++ txts its ++ [93])) (L ++ [⟨3, 0, neg, bnds its⟩]) :=
  h.more fun Z => by rw [← parse1_class neg its hi h0 Z]; simp [bangs]

theorem lit_len {c : UInt8} {l : List UInt8} (hl : l = [92, c] ∨ (l = [c] ∧ c.toNat ≠ 42 ∧ c.toNat ≠ 63 ∧ c.toNat ≠ 91 ∧ c.toNat ≠ 92)) : l.length ≤ 2 := by
  rcases hl with rfl | ⟨rfl, _⟩ <;> simp

theorem CItemsAt.below {w w' : World} {a : Option Addr} {l : List (UInt8 × UInt8 × Bool)} {B : Nat} (h : CItemsAt w a l) (hb : Below B w w') (hB : w.heap.size ≤ B) : CItemsAt w' a l := by
  intro k hk
  obtain ⟨b, off, e, h0, h1, h2⟩ := h k hk
  have hlt := block_lt h0
  have h3 : b < B := Nat.lt_of_lt_of_le hlt hB
  exact ⟨b, off, e, (hb.cell (p := ⟨b, off + k * 3, none⟩) h3).trans h0, (hb.cell (p := ⟨b, off + k * 3 + 1, none⟩) h3).trans h1, (hb.cell (p := ⟨b, off + k * 3 + 2, none⟩) h3).trans h2⟩

theorem spelt_len {c : UInt8} {l : List UInt8} (h : Spelt c l) : l.length ≤ 2 := by
  rcases h with rfl | ⟨rfl, _⟩ <;> simp

theorem txts_snoc (its : List (UInt8 × UInt8 × List UInt8)) (lo hi : UInt8) (l : List UInt8) : (txts (its ++ [(lo, hi, l)])).length = (txts its).length + l.length := by
  simp only [txts, List.flatMap_append, List.flatMap_cons, List.flatMap_nil, List.append_nil, List.length_append]

theorem tab_in (c : UInt8) : 0 ≤ (wrap64 (c.toNat : Int)).tmod 9 ∧ (wrap64 (c.toNat : Int)).tmod 9 < 9 := by
  have h := c.toNat_lt
  have e : wrap64 (c.toNat : Int) = c.toNat := wrap64_id (by omega) (by omega)
  rw [e, Int.tmod_eq_emod_of_nonneg (by omega)]
  omega

theorem tab_lt (c : UInt8) : ((wrap64 (c.toNat : Int)).tmod 9).toNat < ({ data := #[42, 63, 91, 93, 92, 45, 33, 97, 98] } : ByteArray).size := by
  have h := c.toNat_lt
  have e : wrap64 (c.toNat : Int) = c.toNat := wrap64_id (by omega) (by omega)
  rw [e, Int.tmod_eq_emod_of_nonneg (by omega)]
  show ((c.toNat : Int) % 9).toNat < 9
  omega

set_option maxHeartbeats 8000000 in
set_option maxRecDepth 4000 in
theorem droundtrip (w : World) (a : Option Addr) (n cap : Nat) (ts : List Di) (hl : ts.length = n) (hm : n ≤ cap ∧ cap ≤ 9223372036854775807) (hr : DItemsAt w a ts) :
    Calls Ybzm.prog 11 #[.slice a n cap] w fun e w' => e = .returned (.bool true) ∧ Below w.heap.size w w' := by
  have hn : n ≤ 9223372036854775807 := Nat.le_trans hm.1 hm.2
  clear hm
  by_cases hbig : 256 < n
  · go_enter Ybzm.func11, Ybzm.ntmps11
    go_wp2_with fail
    go_ret
    exact ⟨rfl, Below.refl _ _⟩
  have HR := hid hr
  have HL := hid hl
  clear hr hl
  go_enter Ybzm.func11, Ybzm.ntmps11
  go_wp2_with fail
  go_loopg [3] n (fun g i wr => ∃ k : Nat, g = n - k ∧ k ≤ n ∧ i = .int .i64 k ∧ (∀ j, j < k → (ts.getD j di0).rs.length ≤ 256) ∧ wr = w)
  case atStart => exact ⟨0, rfl, Nat.zero_le _, rfl, fun j hj => absurd hj (Nat.not_lt_zero _), rfl⟩
  case round =>
    obtain ⟨k, rfl, hk, rfl, hall, hw⟩ := hrel
    subst hw
    rename World => w
    have HA := hid hall
    clear hall
    by_cases hkn : k < n
    · obtain ⟨b, off, rfl, ta, tm, _⟩ := HR.out k (by rw [HL.out]; exact hkn)
      have c5 := ta.c5
      have HN : Hid ((ts.getD k di0).rs.length ≤ 256 → ∀ j, j < k + 1 → (ts.getD j di0).rs.length ≤ 256) := by
        intro h j hj
        rcases Nat.lt_succ_iff_lt_or_eq.1 hj with h2 | rfl
        · exact HA.out j h2
        · exact h
      generalize ts.getD k di0 = t at c5 HN tm
      clear ta
      generalize t.rs.length = m at *
      by_cases hm : 256 < m
      · go_wp2_with fail
        go_ret
        exact ⟨rfl, Below.refl _ _⟩
      · go_wp2_with fail
        go_roundg (n - (k + 1))
        case rel => exact ⟨k + 1, rfl, by omega, by go_num, HN.out (by omega), rfl⟩
        case measure => omega
    · have hkk : k = n := by omega
      subst hkk
      clear hkn hk
      go_wp2_with fail
      go_loopg [4, 5, 6] k (fun g v tv i wr => ∃ (q : Nat) (X : List UInt8) (TS : List Tk), g = k - q ∧ q ≤ k ∧ i = .int .i64 q ∧ X.length ≤ 2000 * q ∧ TS.length = q ∧ Said X (TS.map Tk.pk) ∧ DS w wr w.heap.size v X tv TS)
      case atStart => exact ⟨0, [], [], rfl, Nat.zero_le _, rfl, Nat.zero_le _, rfl, Said.nil, OwnB.nil _ _, OwnT.nil _ _, fun t h => absurd h List.not_mem_nil, Below.refl _ _, Nat.le_refl _⟩
      case round =>
        rename World => wA
        obtain ⟨q, X, TS, rfl, hq, rfl, hXl, hTl, hsaid, hDS⟩ := hrel
        have HTL := hid hTl
        have HSA := hid hsaid
        have HDS := hid hDS
        have hb := hDS.below
        have hbs := hDS.base
        have HXL := hid hXl
        clear hTl hsaid hDS hXl
        by_cases hqk : q < k
        · obtain ⟨b, off, rfl, ta, tm, tr⟩ := HR.out q (by rw [HL.out]; exact hqk)
          have tw := ta.below hb ta.lt
          have hm := HA.out q hqk
          generalize ts.getD q di0 = t at tw tm tr hm
          have c0 := tw.c0
          have c1 := tw.c1
          have c2 := tw.c2
          have c3 := tw.c3
          have c4 := tw.c4
          have c5 := tw.c5
          have HCI := hid tr
          clear ta tw tr tm
          obtain ⟨kind, c, table, neg, esc, rs, ra, cp⟩ := t
          simp only at c0 c1 c2 c3 c4 c5 hm HCI
          obtain ⟨d, hd⟩ : ∃ d : Nat, (kind.toNat : Int) % 4 = (d : Int) := ⟨kind.toNat % 4, by omega⟩
          have hd4 : d < 4 := by omega
          have i0 : (0 : Int) ≤ (c.toNat : Int) % 9 := by omega
          have i1 : (c.toNat : Int) % 9 < 9 := by omega
          cases table with
          | false =>
            by_cases hd2 : d = 2
            · subst hd2
              have HDR := hid ((HDS.out.start.alloc (.cells #[.int .u8 kind.toNat, .int .u8 c.toNat, .bool false, .bool neg, .bool esc, .slice ra rs.length cp] 55)).alloc (.cells #[.int .i64 2, .int .u8 0, .bool false, .slice none 0 0] 26))
              have HKT : Hid (((wA.alloc (.cells #[.int .u8 kind.toNat, .int .u8 c.toNat, .bool false, .bool neg, .bool esc, .slice ra rs.length cp] 55)).alloc (.cells #[.int .i64 2, .int .u8 0, .bool false, .slice none 0 0] 26)).heap[wA.heap.size + 1]? = some (.cells #[.int .i64 2, .int .u8 0, .bool false, .slice none 0 0] 26 (0, 0))) := by
                have := block_new (wA.alloc (.cells #[.int .u8 kind.toNat, .int .u8 c.toNat, .bool false, .bool neg, .bool esc, .slice ra rs.length cp] 55)) #[.int .i64 2, .int .u8 0, .bool false, .slice none 0 0] 26
                simpa [Hid] using this
              have HKI := hid (block_alloc (block_new wA #[.int .u8 kind.toNat, .int .u8 c.toNat, .bool false, .bool neg, .bool esc, .slice ra rs.length cp] 55) (.cells #[.int .i64 2, .int .u8 0, .bool false, .slice none 0 0] 26))
              go_wp2_with (first
                | (at_builtin; refine wpList_appT w3 rfl (.tmp 154) (.tmp 156) 31 rfl Ybzm.underlying31 Ybzm.infoToken w.heap.size _ TS (by rfl) HD3.out.ownt ⟨2, 0, false, [], none, 0⟩ _ rfl (by simp) (by have := HTL.out; omega) (Nat.le_trans HD3.out.base HD3.out.size) ?_; intro ao9 cp9 w9 hown9 hb9 hg9; have HO9 := hid hown9; have HG9 := hid hg9; clear hown9 hg9)
                | (at_builtin; refine wpList_appB1k ((wA.alloc (.cells #[.int .u8 kind.toNat, .int .u8 c.toNat, .bool false, .bool neg, .bool esc, .slice ra rs.length cp] 55)).alloc (.cells #[.int .i64 2, .int .u8 0, .bool false, .slice none 0 0] 26)) rfl (.tmp 58) (.tmp 59) 30 rfl Ybzm.underlying30 Ybzm.info5 w.heap.size _ (X) (by rfl) HDR.out.ownb 42 _ rfl (by simp) (by have := HXL.out; simp; omega) (Nat.le_trans HDR.out.base HDR.out.size) ?_; intro v3 w3 hown3 hb3 hs3; have HD3 := hid (HDR.out.bytes hown3 hb3 hs3); have hk3 := hs3 _ _ _ _ HKT.out (by decide); have z0 := cell_block hk3 0; have z1 := cell_block hk3 1; have z2 := cell_block hk3 2; have z3 := cell_block hk3 3; simp only [List.getElem?_toArray, List.getElem?_cons_zero, List.getElem?_cons_succ] at z0 z1 z2 z3; clear hk3; clear hown3))
              go_roundg (k - (q + 1))
              case rel => exact ⟨q + 1, _, _, rfl, by omega, by go_num, by have := HXL.out; simp; omega, by simp [HTL.out], by rw [List.map_append]; exact said_star HSA.out, DS.step HDS.out HD3.out (held_none _ _ 2 0 (by omega) (by omega)) HG9.out hb9 HO9.out⟩
              case measure => omega
            · by_cases hd1 : d = 1
              · subst hd1
                have HDR := hid ((HDS.out.start.alloc (.cells #[.int .u8 kind.toNat, .int .u8 c.toNat, .bool false, .bool neg, .bool esc, .slice ra rs.length cp] 55)).alloc (.cells #[.int .i64 1, .int .u8 0, .bool false, .slice none 0 0] 26))
                have HKT : Hid (((wA.alloc (.cells #[.int .u8 kind.toNat, .int .u8 c.toNat, .bool false, .bool neg, .bool esc, .slice ra rs.length cp] 55)).alloc (.cells #[.int .i64 1, .int .u8 0, .bool false, .slice none 0 0] 26)).heap[wA.heap.size + 1]? = some (.cells #[.int .i64 1, .int .u8 0, .bool false, .slice none 0 0] 26 (0, 0))) := by
                  have := block_new (wA.alloc (.cells #[.int .u8 kind.toNat, .int .u8 c.toNat, .bool false, .bool neg, .bool esc, .slice ra rs.length cp] 55)) #[.int .i64 1, .int .u8 0, .bool false, .slice none 0 0] 26
                  simpa [Hid] using this
                have HKI := hid (block_alloc (block_new wA #[.int .u8 kind.toNat, .int .u8 c.toNat, .bool false, .bool neg, .bool esc, .slice ra rs.length cp] 55) (.cells #[.int .i64 1, .int .u8 0, .bool false, .slice none 0 0] 26))
                go_wp2_with (first
                  | (at_builtin; refine wpList_appT w3 rfl (.tmp 154) (.tmp 156) 31 rfl Ybzm.underlying31 Ybzm.infoToken w.heap.size _ TS (by rfl) HD3.out.ownt ⟨1, 0, false, [], none, 0⟩ _ rfl (by simp) (by have := HTL.out; omega) (Nat.le_trans HD3.out.base HD3.out.size) ?_; intro ao9 cp9 w9 hown9 hb9 hg9; have HO9 := hid hown9; have HG9 := hid hg9; clear hown9 hg9)
                  | (at_builtin; refine wpList_appB1k ((wA.alloc (.cells #[.int .u8 kind.toNat, .int .u8 c.toNat, .bool false, .bool neg, .bool esc, .slice ra rs.length cp] 55)).alloc (.cells #[.int .i64 1, .int .u8 0, .bool false, .slice none 0 0] 26)) rfl (.tmp 64) (.tmp 65) 30 rfl Ybzm.underlying30 Ybzm.info5 w.heap.size _ (X) (by rfl) HDR.out.ownb 63 _ rfl (by simp) (by have := HXL.out; simp; omega) (Nat.le_trans HDR.out.base HDR.out.size) ?_; intro v3 w3 hown3 hb3 hs3; have HD3 := hid (HDR.out.bytes hown3 hb3 hs3); have hk3 := hs3 _ _ _ _ HKT.out (by decide); have z0 := cell_block hk3 0; have z1 := cell_block hk3 1; have z2 := cell_block hk3 2; have z3 := cell_block hk3 3; simp only [List.getElem?_toArray, List.getElem?_cons_zero, List.getElem?_cons_succ] at z0 z1 z2 z3; clear hk3; clear hown3))
                go_roundg (k - (q + 1))
                case rel => exact ⟨q + 1, _, _, rfl, by omega, by go_num, by have := HXL.out; simp; omega, by simp [HTL.out], by rw [List.map_append]; exact said_any HSA.out, DS.step HDS.out HD3.out (held_none _ _ 1 0 (by omega) (by omega)) HG9.out hb9 HO9.out⟩
                case measure => omega
              · by_cases hd0 : d = 0
                · subst hd0
                  have HDR := hid ((HDS.out.start.alloc (.cells #[.int .u8 kind.toNat, .int .u8 c.toNat, .bool false, .bool neg, .bool esc, .slice ra rs.length cp] 55)).alloc (.cells #[.int .i64 0, .int .u8 c.toNat, .bool false, .slice none 0 0] 26))
                  have HKT : Hid (((wA.alloc (.cells #[.int .u8 kind.toNat, .int .u8 c.toNat, .bool false, .bool neg, .bool esc, .slice ra rs.length cp] 55)).alloc (.cells #[.int .i64 0, .int .u8 c.toNat, .bool false, .slice none 0 0] 26)).heap[wA.heap.size + 1]? = some (.cells #[.int .i64 0, .int .u8 c.toNat, .bool false, .slice none 0 0] 26 (0, 0))) := by
                    have := block_new (wA.alloc (.cells #[.int .u8 kind.toNat, .int .u8 c.toNat, .bool false, .bool neg, .bool esc, .slice ra rs.length cp] 55)) #[.int .i64 0, .int .u8 c.toNat, .bool false, .slice none 0 0] 26
                    simpa [Hid] using this
                  have HKI := hid (block_alloc (block_new wA #[.int .u8 kind.toNat, .int .u8 c.toNat, .bool false, .bool neg, .bool esc, .slice ra rs.length cp] 55) (.cells #[.int .i64 0, .int .u8 c.toNat, .bool false, .slice none 0 0] 26))
                  go_wp2_with fail
                  refine (dlit_any w.heap.size _ X c esc _ HDR.out.ownb (Nat.le_trans HDR.out.base HDR.out.size) (by have := HXL.out; omega)).mono ?_
                  rintro e w3 ⟨v3, l, rfl, hown3, hl, hb3, hs3⟩
                  have HD3 := hid (HDR.out.bytes hown3 hb3 hs3)
                  have hk3 := hs3 _ _ _ _ HKT.out (by decide)
                  have z0 := cell_block hk3 0
                  have z1 := cell_block hk3 1
                  have z2 := cell_block hk3 2
                  have z3 := cell_block hk3 3
                  simp only [List.getElem?_toArray, List.getElem?_cons_zero, List.getElem?_cons_succ] at z0 z1 z2 z3
                  have HLL := hid hl
                  clear hk3 hown3 hl hb3 hs3
                  go_wp2_with (at_builtin; go_must (refine wpList_appT w3 rfl (.tmp 154) (.tmp 156) 31 rfl Ybzm.underlying31 Ybzm.infoToken w.heap.size _ TS (by rfl) HD3.out.ownt ⟨0, c, false, [], none, 0⟩ _ rfl (by simp) (by have := HTL.out; omega) (Nat.le_trans HD3.out.base HD3.out.size) ?_); intro ao9 cp9 w9 hown9 hb9 hg9; have HO9 := hid hown9; have HG9 := hid hg9; clear hown9 hg9)
                  go_roundg (k - (q + 1))
                  case rel => exact ⟨q + 1, _, _, rfl, by omega, by go_num, by have := HXL.out; have := lit_len HLL.out; simp; omega, by simp [HTL.out], by rw [List.map_append]; exact said_lit HSA.out HLL.out, DS.step HDS.out HD3.out (held_none _ _ 0 c (by omega) (by omega)) HG9.out hb9 HO9.out⟩
                  case measure => omega
                · have hd3 : d = 3 := by omega
                  subst hd3
                  clear hd0 hd1 hd2
                  cases neg with
                  | false =>
                    have HDR := hid ((HDS.out.start.alloc (.cells #[.int .u8 kind.toNat, .int .u8 c.toNat, .bool false, .bool false, .bool esc, .slice ra rs.length cp] 55)).alloc (.cells #[.int .i64 3, .int .u8 0, .bool false, .slice none 0 0] 26))
                    have HKT : Hid (((wA.alloc (.cells #[.int .u8 kind.toNat, .int .u8 c.toNat, .bool false, .bool false, .bool esc, .slice ra rs.length cp] 55)).alloc (.cells #[.int .i64 3, .int .u8 0, .bool false, .slice none 0 0] 26)).heap[wA.heap.size + 1]? = some (.cells #[.int .i64 3, .int .u8 0, .bool false, .slice none 0 0] 26 (0, 0))) := by
                      have := block_new (wA.alloc (.cells #[.int .u8 kind.toNat, .int .u8 c.toNat, .bool false, .bool false, .bool esc, .slice ra rs.length cp] 55)) #[.int .i64 3, .int .u8 0, .bool false, .slice none 0 0] 26
                      simpa [Hid] using this
                    have HKI := hid (block_alloc (block_new wA #[.int .u8 kind.toNat, .int .u8 c.toNat, .bool false, .bool false, .bool esc, .slice ra rs.length cp] 55) (.cells #[.int .i64 3, .int .u8 0, .bool false, .slice none 0 0] 26))
                    go_wp2_with (at_builtin; go_must (refine wpList_appB1k ((wA.alloc (.cells #[.int .u8 kind.toNat, .int .u8 c.toNat, .bool false, .bool false, .bool esc, .slice ra rs.length cp] 55)).alloc (.cells #[.int .i64 3, .int .u8 0, .bool false, .slice none 0 0] 26)) rfl (.tmp 80) (.tmp 81) 30 rfl Ybzm.underlying30 Ybzm.info5 w.heap.size _ (X) (by rfl) HDR.out.ownb 91 _ rfl (by simp) (by have := HXL.out; simp; omega) (Nat.le_trans HDR.out.base HDR.out.size) ?_); intro v3 w3 hown3 hb3 hs3; have HD3 := hid (HDR.out.bytes hown3 hb3 hs3); have HKT3 := hid (hs3 _ _ _ _ HKT.out (by decide)); have HKI3 := hid (hs3 _ _ _ _ HKI.out (by decide)); have z32 := cell_block HKT3.out 2; have z33 := cell_block HKT3.out 3; have y33 := cell_block HKI3.out 3; have y34 := cell_block HKI3.out 4; simp only [List.getElem?_toArray, List.getElem?_cons_zero, List.getElem?_cons_succ] at z32 z33 y33 y34; clear hown3)
                    refine (dmember_any w.heap.size _ (X ++ [91]) c esc _ HD3.out.ownb (Nat.le_trans HD3.out.base HD3.out.size) (by have := HXL.out; simp; omega)).mono ?_
                    rintro e w5 ⟨v5, l, rfl, hown5, hsp, hb5, hs5⟩
                    have HD5 := hid (HD3.out.bytes hown5 hb5 hs5)
                    have HKT5 := hid (hs5 _ _ _ _ HKT3.out (by decide))
                    have HKI5 := hid (hs5 _ _ _ _ HKI3.out (by decide))
                    have z53 := cell_block HKT5.out 3
                    simp only [List.getElem?_toArray, List.getElem?_cons_zero, List.getElem?_cons_succ] at z53
                    have HSP := hid hsp
                    have hbr5 : (wA.heap.size + 2) ≤ w5.heap.size := by have := block_lt (cell_block HKT5.out 0); exact this
                    clear hown5 hb5 hs5 hsp
                    go_wp2_with (at_builtin; go_must (refine wpList_appR w5 rfl (.tmp 94) (.tmp 98) 22 rfl Ybzm.underlying22 Ybzm.infoRange (wA.heap.size + 2) _ [] (by rfl) (OwnR.nil _ _) c c _ rfl (by simp) (by simp) hbr5 ?_); intro ao6 cp6 w6 hown6 hb6 hg6; have HD6 := hid (HD5.out.ranges hb6 (by omega) (by omega) (Stay.of_grown (OwnR.nil w5 (wA.heap.size + 2)) hg6)); have HKT6 := hid ((hb6.block (wA.heap.size + 1) (by omega)).trans HKT5.out); have HKI6 := hid ((hb6.block wA.heap.size (by omega)).trans HKI5.out); have z63 := cell_block HKT6.out 3; have f63 := frozen_block HKT6.out 3; simp only [List.getElem?_toArray, List.getElem?_cons_zero, List.getElem?_cons_succ] at z63; have HO6 := hid hown6; clear hown6 hg6 hb6)
                    have HDB := hid (HD6.out.set HKT6.out (by omega) (by omega) 3 (.slice ao6 1 cp6))
                    have HKTB := hid (show (w6.setCell ⟨(wA.heap.size + 1), 3, none⟩ (.slice ao6 1 cp6)).heap[(wA.heap.size + 1)]? = some (.cells #[.int .i64 3, .int .u8 0, .bool false, .slice ao6 1 cp6] 26 (0, 0)) from setCell_block HKT6.out 3 _)
                    have HKIB := hid (show (w6.setCell ⟨(wA.heap.size + 1), 3, none⟩ (.slice ao6 1 cp6)).heap[wA.heap.size]? = _ from (setCell_other (by omega) 3 _).trans HKI6.out)
                    have HORB := hid (show OwnR (w6.setCell ⟨(wA.heap.size + 1), 3, none⟩ (.slice ao6 1 cp6)) (wA.heap.size + 2) (.slice ao6 1 cp6) (bnds [(c, c, l)]) from ownsRow_setCell_below HO6.out (by simp) _)
                    have HSTX : Hid ((X ++ [91]) ++ l = X ++ ([91] ++ bangs false ++ txts [(c, c, l)])) := by simp [Hid, bangs, txts]
                    rw [HSTX.out] at HDB
                    have HFI : Hid (∀ it ∈ [(c, c, l)], ItemTxt it.1 it.2.1 it.2.2) := by
                      intro it hit
                      rw [List.mem_singleton] at hit
                      subst hit
                      exact .inl ⟨HSP.out, rfl⟩
                    have HFL : Hid ((txts [(c, c, l)]).length ≤ 5) := by
                      have := spelt_len HSP.out
                      simp [Hid, txts]; omega
                    rename World => w6
                    clear HD6 HKT6 HKI6 HO6 HSTX HSP HD3 HKT3 HKI3 HD5 HKT5 HKI5 HDR HKT HKI c0 c1 c2 c3 c4 c5 z63 f63 z53 z32 z33 y33 y34
                    go_loopg [4, 10] rs.length (fun g v jv wr => ∃ (j : Nat) (its : List (UInt8 × UInt8 × List UInt8)) (rv : Value), g = rs.length - j ∧ j ≤ rs.length ∧ jv = .int .i64 j ∧ its.length = j + 1 ∧ (∀ it ∈ its, ItemTxt it.1 it.2.1 it.2.2) ∧ (txts its).length ≤ 5 * (j + 1) ∧ DR w wA wr w.heap.size v (X ++ ([91] ++ bangs false ++ txts its)) u5 TS ∧ wr.heap[wA.heap.size]? = some (.cells #[.int .u8 kind.toNat, .int .u8 c.toNat, .bool false, .bool false, .bool esc, .slice ra rs.length cp] 55 (0, 0)) ∧ wr.heap[(wA.heap.size + 1)]? = some (.cells #[.int .i64 3, .int .u8 0, .bool false, rv] 26 (0, 0)) ∧ OwnR wr (wA.heap.size + 2) rv (bnds its))
                    case atStart => exact ⟨0, [(c, c, l)], _, rfl, Nat.zero_le _, rfl, rfl, HFI.out, HFL.out, HDB.out, HKIB.out, HKTB.out, HORB.out⟩
                    case round =>
                      clear HDB HKIB HKTB HORB HFI HFL
                      obtain ⟨j, its, rv, rfl, hj, rfl, hil, hit, htl, hDR, hki, hkt, hor⟩ := hrel
                      obtain ⟨RS, hRS⟩ : ∃ RS, RS = bnds its := ⟨_, rfl⟩
                      rw [← hRS] at hor
                      have HRS := hid hRS
                      have HIL := hid hil
                      have HIT := hid hit
                      have hrl : RS.length = j + 1 := by rw [hRS]; simp [bnds, hil]
                      obtain ⟨aoR, cpR, hvR, _⟩ := hor.shape
                      subst hvR
                      have HOR := hid hor
                      have HD := hid hDR
                      have HKI := hid hki
                      have HKT := hid hkt
                      have HRL := hid hrl
                      obtain ⟨Y, hY⟩ : ∃ Y, Y = X ++ ([91] ++ bangs false ++ txts its) := ⟨_, rfl⟩
                      rw [← hY] at HD
                      have HY := hid hY
                      have HYL : Hid (Y.length ≤ X.length + 2 + 5 * (j + 1)) := by
                        rw [Hid, hY]
                        simp only [List.length_append, bangs]
                        simp; omega
                      have HTXL := hid htl
                      have y5 := cell_block hki 5
                      simp only [List.getElem?_toArray, List.getElem?_cons_zero, List.getElem?_cons_succ] at y5
                      have hbr : w.heap.size ≤ wr.heap.size := Nat.le_trans hDR.base hDR.size
                      have hbBR : (wA.heap.size + 2) ≤ wr.heap.size := by have := block_lt (cell_block hkt 0); exact this
                      have hbw := hDR.below
                      clear hRS hil hit hrl hor hDR hki hkt hY htl
                      by_cases hjm : j < rs.length
                      · obtain ⟨b2, off2, rfl, g0, g1, g2⟩ := HCI.out j hjm
                        have e0 := (hbw.cell (p := ⟨b2, off2 + j * 3, none⟩) (block_lt g0)).trans g0
                        have e1 := (hbw.cell (p := ⟨b2, off2 + j * 3 + 1, none⟩) (block_lt g1)).trans g1
                        have e2 := (hbw.cell (p := ⟨b2, off2 + j * 3 + 2, none⟩) (block_lt g2)).trans g2
                        generalize rs.getD j (0, 0, false) = r at e0 e1 e2
                        obtain ⟨lo0, hi0, single⟩ := r
                        simp only at e0 e1 e2
                        clear g0 g1 g2
                        cases single with
                        | true =>
                          by_cases hsw : hi0.toNat < lo0.toNat
                          · have HDa := hid (HD.out.alloc (.cells #[.int .u8 lo0.toNat, .int .u8 hi0.toNat, .bool true] 58))
                            have HKTa := hid (block_alloc HKT.out (.cells #[.int .u8 lo0.toNat, .int .u8 hi0.toNat, .bool true] 58))
                            have HKIa := hid (block_alloc HKI.out (.cells #[.int .u8 lo0.toNat, .int .u8 hi0.toNat, .bool true] 58))
                            have HKRa := hid (block_new wr #[.int .u8 lo0.toNat, .int .u8 hi0.toNat, .bool true] 58)
                            have HORa := hid (HOR.out.alloc (.cells #[.int .u8 lo0.toNat, .int .u8 hi0.toNat, .bool true] 58))
                            have ya4 := cell_block HKIa.out 4
                            simp only [List.getElem?_toArray, List.getElem?_cons_zero, List.getElem?_cons_succ] at ya4
                            go_wp2_with fail
                            refine (dmember_any w.heap.size _ Y hi0 esc _ HDa.out.ownb (Nat.le_trans HDa.out.base HDa.out.size) (by have := HXL.out; have := HYL.out; omega)).mono ?_
                            rintro e w7 ⟨v7, l7, rfl, hown7, hsp7, hb7, hs7⟩
                            have HD7 := hid (HDa.out.bytes hown7 hb7 hs7)
                            have HKT7 := hid (hs7 _ _ _ _ HKTa.out (by decide))
                            have HKI7 := hid (hs7 _ _ _ _ HKIa.out (by decide))
                            have HKR7 := hid (hs7 _ _ _ _ HKRa.out (by decide))
                            have HOR7 : Hid (OwnR w7 (wA.heap.size + 2) (.slice aoR RS.length cpR) RS) := row_stay HORa.out hs7 (by decide)
                            have r72 := cell_block HKR7.out 2
                            have z73 := cell_block HKT7.out 3
                            have y74 := cell_block HKI7.out 4
                            simp only [List.getElem?_toArray, List.getElem?_cons_zero, List.getElem?_cons_succ] at r72 z73 y74
                            have HSP7 := hid hsp7
                            have HL7 := hid (spelt_len hsp7)
                            have hbR7 : (wA.heap.size + 2) ≤ w7.heap.size := by have := block_lt (cell_block HKT7.out 0); exact this
                            clear hown7 hsp7 hb7 hs7 HDa HKTa HKIa HKRa HORa
                            go_wp2_with (at_builtin; go_must (refine wpList_appR w7 rfl (.tmp 144) (.tmp 148) 22 rfl Ybzm.underlying22 Ybzm.infoRange (wA.heap.size + 2) _ RS (by rfl) HOR7.out hi0 hi0 _ rfl (by simp) (by rw [HRL.out]; omega) hbR7 ?_); intro ao8 cp8 w8 hown8 hb8 hg8; have HD8 := hid (HD7.out.ranges hb8 (by omega) (by omega) (Stay.of_grown HOR7.out hg8)); have HKT8 := hid ((hb8.block (wA.heap.size + 1) (by omega)).trans HKT7.out); have HKI8 := hid ((hb8.block wA.heap.size (by omega)).trans HKI7.out); have z83 := cell_block HKT8.out 3; have f83 := frozen_block HKT8.out 3; simp only [List.getElem?_toArray, List.getElem?_cons_zero, List.getElem?_cons_succ] at z83; have HO8 := hid hown8; clear hown8 hg8 hb8)
                            have HDB := hid (HD8.out.set HKT8.out (by omega) (by omega) 3 (.slice ao8 (RS.length + 1) cp8))
                            have HKTB := hid (show (w8.setCell ⟨(wA.heap.size + 1), 3, none⟩ (.slice ao8 (RS.length + 1) cp8)).heap[(wA.heap.size + 1)]? = some (.cells #[.int .i64 3, .int .u8 0, .bool false, .slice ao8 (RS.length + 1) cp8] 26 (0, 0)) from setCell_block HKT8.out 3 _)
                            have HKIB := hid (show (w8.setCell ⟨(wA.heap.size + 1), 3, none⟩ (.slice ao8 (RS.length + 1) cp8)).heap[wA.heap.size]? = _ from (setCell_other (by omega) 3 _).trans HKI8.out)
                            have HORB := hid (show OwnR (w8.setCell ⟨(wA.heap.size + 1), 3, none⟩ (.slice ao8 (RS.length + 1) cp8)) (wA.heap.size + 2) (.slice ao8 (RS.length + 1) cp8) (RS ++ [(hi0, hi0)]) from ownsRow_setCell_below HO8.out (by simp) _)
                            have HBN : Hid (RS ++ [(hi0, hi0)] = bnds (its ++ [(hi0, hi0, l7)])) := by rw [Hid, HRS.out]; simp [bnds]
                            rw [HBN.out] at HORB
                            have HTX : Hid (Y ++ l7 = X ++ ([91] ++ bangs false ++ txts (its ++ [(hi0, hi0, l7)]))) := by rw [Hid, HY.out]; simp [txts]
                            rw [HTX.out] at HDB
                            have HFI : Hid (∀ it ∈ its ++ [(hi0, hi0, l7)], ItemTxt it.1 it.2.1 it.2.2) := by
                              intro it hit
                              rcases List.mem_append.1 hit with h | h
                              · exact HIT.out it h
                              · rw [List.mem_singleton] at h; subst h; exact .inl ⟨HSP7.out, rfl⟩
                            go_roundg (rs.length - (j + 1))
                            case rel => exact ⟨j + 1, its ++ [(hi0, hi0, l7)], _, rfl, by omega, by go_num, by simp [HIL.out], HFI.out, by have := HTXL.out; have := HL7.out; rw [txts_snoc]; simp; omega, HDB.out, HKIB.out, HKTB.out, HORB.out⟩
                            case measure => omega

                          · have HDa := hid (HD.out.alloc (.cells #[.int .u8 lo0.toNat, .int .u8 hi0.toNat, .bool true] 58))
                            have HKTa := hid (block_alloc HKT.out (.cells #[.int .u8 lo0.toNat, .int .u8 hi0.toNat, .bool true] 58))
                            have HKIa := hid (block_alloc HKI.out (.cells #[.int .u8 lo0.toNat, .int .u8 hi0.toNat, .bool true] 58))
                            have HKRa := hid (block_new wr #[.int .u8 lo0.toNat, .int .u8 hi0.toNat, .bool true] 58)
                            have HORa := hid (HOR.out.alloc (.cells #[.int .u8 lo0.toNat, .int .u8 hi0.toNat, .bool true] 58))
                            have ya4 := cell_block HKIa.out 4
                            simp only [List.getElem?_toArray, List.getElem?_cons_zero, List.getElem?_cons_succ] at ya4
                            go_wp2_with fail
                            refine (dmember_any w.heap.size _ Y lo0 esc _ HDa.out.ownb (Nat.le_trans HDa.out.base HDa.out.size) (by have := HXL.out; have := HYL.out; omega)).mono ?_
                            rintro e w7 ⟨v7, l7, rfl, hown7, hsp7, hb7, hs7⟩
                            have HD7 := hid (HDa.out.bytes hown7 hb7 hs7)
                            have HKT7 := hid (hs7 _ _ _ _ HKTa.out (by decide))
                            have HKI7 := hid (hs7 _ _ _ _ HKIa.out (by decide))
                            have HKR7 := hid (hs7 _ _ _ _ HKRa.out (by decide))
                            have HOR7 : Hid (OwnR w7 (wA.heap.size + 2) (.slice aoR RS.length cpR) RS) := row_stay HORa.out hs7 (by decide)
                            have r72 := cell_block HKR7.out 2
                            have z73 := cell_block HKT7.out 3
                            have y74 := cell_block HKI7.out 4
                            simp only [List.getElem?_toArray, List.getElem?_cons_zero, List.getElem?_cons_succ] at r72 z73 y74
                            have HSP7 := hid hsp7
                            have HL7 := hid (spelt_len hsp7)
                            have hbR7 : (wA.heap.size + 2) ≤ w7.heap.size := by have := block_lt (cell_block HKT7.out 0); exact this
                            clear hown7 hsp7 hb7 hs7 HDa HKTa HKIa HKRa HORa
                            go_wp2_with (at_builtin; go_must (refine wpList_appR w7 rfl (.tmp 144) (.tmp 148) 22 rfl Ybzm.underlying22 Ybzm.infoRange (wA.heap.size + 2) _ RS (by rfl) HOR7.out lo0 lo0 _ rfl (by simp) (by rw [HRL.out]; omega) hbR7 ?_); intro ao8 cp8 w8 hown8 hb8 hg8; have HD8 := hid (HD7.out.ranges hb8 (by omega) (by omega) (Stay.of_grown HOR7.out hg8)); have HKT8 := hid ((hb8.block (wA.heap.size + 1) (by omega)).trans HKT7.out); have HKI8 := hid ((hb8.block wA.heap.size (by omega)).trans HKI7.out); have z83 := cell_block HKT8.out 3; have f83 := frozen_block HKT8.out 3; simp only [List.getElem?_toArray, List.getElem?_cons_zero, List.getElem?_cons_succ] at z83; have HO8 := hid hown8; clear hown8 hg8 hb8)
                            have HDB := hid (HD8.out.set HKT8.out (by omega) (by omega) 3 (.slice ao8 (RS.length + 1) cp8))
                            have HKTB := hid (show (w8.setCell ⟨(wA.heap.size + 1), 3, none⟩ (.slice ao8 (RS.length + 1) cp8)).heap[(wA.heap.size + 1)]? = some (.cells #[.int .i64 3, .int .u8 0, .bool false, .slice ao8 (RS.length + 1) cp8] 26 (0, 0)) from setCell_block HKT8.out 3 _)
                            have HKIB := hid (show (w8.setCell ⟨(wA.heap.size + 1), 3, none⟩ (.slice ao8 (RS.length + 1) cp8)).heap[wA.heap.size]? = _ from (setCell_other (by omega) 3 _).trans HKI8.out)
                            have HORB := hid (show OwnR (w8.setCell ⟨(wA.heap.size + 1), 3, none⟩ (.slice ao8 (RS.length + 1) cp8)) (wA.heap.size + 2) (.slice ao8 (RS.length + 1) cp8) (RS ++ [(lo0, lo0)]) from ownsRow_setCell_below HO8.out (by simp) _)
                            have HBN : Hid (RS ++ [(lo0, lo0)] = bnds (its ++ [(lo0, lo0, l7)])) := by rw [Hid, HRS.out]; simp [bnds]
                            rw [HBN.out] at HORB
                            have HTX : Hid (Y ++ l7 = X ++ ([91] ++ bangs false ++ txts (its ++ [(lo0, lo0, l7)]))) := by rw [Hid, HY.out]; simp [txts]
                            rw [HTX.out] at HDB
                            have HFI : Hid (∀ it ∈ its ++ [(lo0, lo0, l7)], ItemTxt it.1 it.2.1 it.2.2) := by
                              intro it hit
                              rcases List.mem_append.1 hit with h | h
                              · exact HIT.out it h
                              · rw [List.mem_singleton] at h; subst h; exact .inl ⟨HSP7.out, rfl⟩
                            go_roundg (rs.length - (j + 1))
                            case rel => exact ⟨j + 1, its ++ [(lo0, lo0, l7)], _, rfl, by omega, by go_num, by simp [HIL.out], HFI.out, by have := HTXL.out; have := HL7.out; rw [txts_snoc]; simp; omega, HDB.out, HKIB.out, HKTB.out, HORB.out⟩
                            case measure => omega

                        | false =>
                          by_cases hsw : hi0.toNat < lo0.toNat
                          · have HDa := hid (HD.out.alloc (.cells #[.int .u8 lo0.toNat, .int .u8 hi0.toNat, .bool false] 58))
                            have HKTa := hid (block_alloc HKT.out (.cells #[.int .u8 lo0.toNat, .int .u8 hi0.toNat, .bool false] 58))
                            have HKIa := hid (block_alloc HKI.out (.cells #[.int .u8 lo0.toNat, .int .u8 hi0.toNat, .bool false] 58))
                            have HKRa := hid (block_new wr #[.int .u8 lo0.toNat, .int .u8 hi0.toNat, .bool false] 58)
                            have HORa := hid (HOR.out.alloc (.cells #[.int .u8 lo0.toNat, .int .u8 hi0.toNat, .bool false] 58))
                            have ya4 := cell_block HKIa.out 4
                            simp only [List.getElem?_toArray, List.getElem?_cons_zero, List.getElem?_cons_succ] at ya4
                            go_wp2_with fail
                            refine (dmember_any w.heap.size _ Y hi0 esc _ HDa.out.ownb (Nat.le_trans HDa.out.base HDa.out.size) (by have := HXL.out; have := HYL.out; omega)).mono ?_
                            rintro e w7 ⟨v7, l7, rfl, hown7, hsp7, hb7, hs7⟩
                            have HD7 := hid (HDa.out.bytes hown7 hb7 hs7)
                            have HKT7 := hid (hs7 _ _ _ _ HKTa.out (by decide))
                            have HKI7 := hid (hs7 _ _ _ _ HKIa.out (by decide))
                            have HKR7 := hid (hs7 _ _ _ _ HKRa.out (by decide))
                            have HOR7 : Hid (OwnR w7 (wA.heap.size + 2) (.slice aoR RS.length cpR) RS) := row_stay HORa.out hs7 (by decide)
                            have r72 := cell_block HKR7.out 2
                            have z73 := cell_block HKT7.out 3
                            have y74 := cell_block HKI7.out 4
                            simp only [List.getElem?_toArray, List.getElem?_cons_zero, List.getElem?_cons_succ] at r72 z73 y74
                            have HSP7 := hid hsp7
                            have HL7 := hid (spelt_len hsp7)
                            have hbR7 : (wA.heap.size + 2) ≤ w7.heap.size := by have := block_lt (cell_block HKT7.out 0); exact this
                            clear hown7 hsp7 hb7 hs7 HDa HKTa HKIa HKRa HORa
                            go_wp2_with (at_builtin; go_must (refine wpList_appB1k w7 rfl (.tmp 135) (.tmp 136) 30 rfl Ybzm.underlying30 Ybzm.info5 w.heap.size _ (Y ++ l7) (by rfl) HD7.out.ownb 45 _ rfl (by simp) (by have := HXL.out; have := HYL.out; have := HL7.out; simp; omega) (Nat.le_trans HD7.out.base HD7.out.size) ?_); intro vc wc hownc hbc hsc; have HDc := hid (HD7.out.bytes hownc hbc hsc); have HKTc := hid (hsc _ _ _ _ HKT7.out (by decide)); have HKIc := hid (hsc _ _ _ _ HKI7.out (by decide)); have HORc : Hid (OwnR wc (wA.heap.size + 2) (.slice aoR RS.length cpR) RS) := row_stay HOR7.out hsc (by decide); have zc3 := cell_block HKTc.out 3; have yc4 := cell_block HKIc.out 4; simp only [List.getElem?_toArray, List.getElem?_cons_zero, List.getElem?_cons_succ] at zc3 yc4; clear hownc)
                            refine (dmember_any w.heap.size _ ((Y ++ l7) ++ [45]) lo0 esc _ HDc.out.ownb (Nat.le_trans HDc.out.base HDc.out.size) (by have := HXL.out; have := HYL.out; have := HL7.out; simp; omega)).mono ?_
                            rintro e wd ⟨vd, ld, rfl, hownd, hspd, hbd, hsd⟩
                            have HDd := hid (HDc.out.bytes hownd hbd hsd)
                            have HKTd := hid (hsd _ _ _ _ HKTc.out (by decide))
                            have HKId := hid (hsd _ _ _ _ HKIc.out (by decide))
                            have HORd : Hid (OwnR wd (wA.heap.size + 2) (.slice aoR RS.length cpR) RS) := row_stay HORc.out hsd (by decide)
                            have zd3 := cell_block HKTd.out 3
                            simp only [List.getElem?_toArray, List.getElem?_cons_zero, List.getElem?_cons_succ] at zd3
                            have HSPd := hid hspd
                            have HLd := hid (spelt_len hspd)
                            have hbRd : (wA.heap.size + 2) ≤ wd.heap.size := by have := block_lt (cell_block HKTd.out 0); exact this
                            clear hownd hspd hbd hsd
                            go_wp2_with (at_builtin; go_must (refine wpList_appR wd rfl (.tmp 144) (.tmp 148) 22 rfl Ybzm.underlying22 Ybzm.infoRange (wA.heap.size + 2) _ RS (by rfl) HORd.out hi0 lo0 _ rfl (by simp) (by rw [HRL.out]; omega) hbRd ?_); intro ao8 cp8 w8 hown8 hb8 hg8; have HD8 := hid (HDd.out.ranges hb8 (by omega) (by omega) (Stay.of_grown HORd.out hg8)); have HKT8 := hid ((hb8.block (wA.heap.size + 1) (by omega)).trans HKTd.out); have HKI8 := hid ((hb8.block wA.heap.size (by omega)).trans HKId.out); have z83 := cell_block HKT8.out 3; have f83 := frozen_block HKT8.out 3; simp only [List.getElem?_toArray, List.getElem?_cons_zero, List.getElem?_cons_succ] at z83; have HO8 := hid hown8; clear hown8 hg8 hb8)
                            have HDB := hid (HD8.out.set HKT8.out (by omega) (by omega) 3 (.slice ao8 (RS.length + 1) cp8))
                            have HKTB := hid (show (w8.setCell ⟨(wA.heap.size + 1), 3, none⟩ (.slice ao8 (RS.length + 1) cp8)).heap[(wA.heap.size + 1)]? = some (.cells #[.int .i64 3, .int .u8 0, .bool false, .slice ao8 (RS.length + 1) cp8] 26 (0, 0)) from setCell_block HKT8.out 3 _)
                            have HKIB := hid (show (w8.setCell ⟨(wA.heap.size + 1), 3, none⟩ (.slice ao8 (RS.length + 1) cp8)).heap[wA.heap.size]? = _ from (setCell_other (by omega) 3 _).trans HKI8.out)
                            have HORB := hid (show OwnR (w8.setCell ⟨(wA.heap.size + 1), 3, none⟩ (.slice ao8 (RS.length + 1) cp8)) (wA.heap.size + 2) (.slice ao8 (RS.length + 1) cp8) (RS ++ [(hi0, lo0)]) from ownsRow_setCell_below HO8.out (by simp) _)
                            have HBN : Hid (RS ++ [(hi0, lo0)] = bnds (its ++ [(hi0, lo0, l7 ++ 45 :: ld)])) := by rw [Hid, HRS.out]; simp [bnds]
                            rw [HBN.out] at HORB
                            have HTX : Hid (((Y ++ l7) ++ [45]) ++ ld = X ++ ([91] ++ bangs false ++ txts (its ++ [(hi0, lo0, l7 ++ 45 :: ld)]))) := by rw [Hid, HY.out]; simp [txts]
                            rw [HTX.out] at HDB
                            have HFI : Hid (∀ it ∈ its ++ [(hi0, lo0, l7 ++ 45 :: ld)], ItemTxt it.1 it.2.1 it.2.2) := by
                              intro it hit
                              rcases List.mem_append.1 hit with h | h
                              · exact HIT.out it h
                              · rw [List.mem_singleton] at h; subst h; exact .inr ⟨l7, ld, HSP7.out, HSPd.out, rfl, by simp only; omega⟩
                            go_roundg (rs.length - (j + 1))
                            case rel => exact ⟨j + 1, its ++ [(hi0, lo0, l7 ++ 45 :: ld)], _, rfl, by omega, by go_num, by simp [HIL.out], HFI.out, by have := HTXL.out; have := HL7.out; have := HLd.out; rw [txts_snoc]; simp; omega, HDB.out, HKIB.out, HKTB.out, HORB.out⟩
                            case measure => omega

                          · have HDa := hid (HD.out.alloc (.cells #[.int .u8 lo0.toNat, .int .u8 hi0.toNat, .bool false] 58))
                            have HKTa := hid (block_alloc HKT.out (.cells #[.int .u8 lo0.toNat, .int .u8 hi0.toNat, .bool false] 58))
                            have HKIa := hid (block_alloc HKI.out (.cells #[.int .u8 lo0.toNat, .int .u8 hi0.toNat, .bool false] 58))
                            have HKRa := hid (block_new wr #[.int .u8 lo0.toNat, .int .u8 hi0.toNat, .bool false] 58)
                            have HORa := hid (HOR.out.alloc (.cells #[.int .u8 lo0.toNat, .int .u8 hi0.toNat, .bool false] 58))
                            have ya4 := cell_block HKIa.out 4
                            simp only [List.getElem?_toArray, List.getElem?_cons_zero, List.getElem?_cons_succ] at ya4
                            go_wp2_with fail
                            refine (dmember_any w.heap.size _ Y lo0 esc _ HDa.out.ownb (Nat.le_trans HDa.out.base HDa.out.size) (by have := HXL.out; have := HYL.out; omega)).mono ?_
                            rintro e w7 ⟨v7, l7, rfl, hown7, hsp7, hb7, hs7⟩
                            have HD7 := hid (HDa.out.bytes hown7 hb7 hs7)
                            have HKT7 := hid (hs7 _ _ _ _ HKTa.out (by decide))
                            have HKI7 := hid (hs7 _ _ _ _ HKIa.out (by decide))
                            have HKR7 := hid (hs7 _ _ _ _ HKRa.out (by decide))
                            have HOR7 : Hid (OwnR w7 (wA.heap.size + 2) (.slice aoR RS.length cpR) RS) := row_stay HORa.out hs7 (by decide)
                            have r72 := cell_block HKR7.out 2
                            have z73 := cell_block HKT7.out 3
                            have y74 := cell_block HKI7.out 4
                            simp only [List.getElem?_toArray, List.getElem?_cons_zero, List.getElem?_cons_succ] at r72 z73 y74
                            have HSP7 := hid hsp7
                            have HL7 := hid (spelt_len hsp7)
                            have hbR7 : (wA.heap.size + 2) ≤ w7.heap.size := by have := block_lt (cell_block HKT7.out 0); exact this
                            clear hown7 hsp7 hb7 hs7 HDa HKTa HKIa HKRa HORa
                            go_wp2_with (at_builtin; go_must (refine wpList_appB1k w7 rfl (.tmp 135) (.tmp 136) 30 rfl Ybzm.underlying30 Ybzm.info5 w.heap.size _ (Y ++ l7) (by rfl) HD7.out.ownb 45 _ rfl (by simp) (by have := HXL.out; have := HYL.out; have := HL7.out; simp; omega) (Nat.le_trans HD7.out.base HD7.out.size) ?_); intro vc wc hownc hbc hsc; have HDc := hid (HD7.out.bytes hownc hbc hsc); have HKTc := hid (hsc _ _ _ _ HKT7.out (by decide)); have HKIc := hid (hsc _ _ _ _ HKI7.out (by decide)); have HORc : Hid (OwnR wc (wA.heap.size + 2) (.slice aoR RS.length cpR) RS) := row_stay HOR7.out hsc (by decide); have zc3 := cell_block HKTc.out 3; have yc4 := cell_block HKIc.out 4; simp only [List.getElem?_toArray, List.getElem?_cons_zero, List.getElem?_cons_succ] at zc3 yc4; clear hownc)
                            refine (dmember_any w.heap.size _ ((Y ++ l7) ++ [45]) hi0 esc _ HDc.out.ownb (Nat.le_trans HDc.out.base HDc.out.size) (by have := HXL.out; have := HYL.out; have := HL7.out; simp; omega)).mono ?_
                            rintro e wd ⟨vd, ld, rfl, hownd, hspd, hbd, hsd⟩
                            have HDd := hid (HDc.out.bytes hownd hbd hsd)
                            have HKTd := hid (hsd _ _ _ _ HKTc.out (by decide))
                            have HKId := hid (hsd _ _ _ _ HKIc.out (by decide))
                            have HORd : Hid (OwnR wd (wA.heap.size + 2) (.slice aoR RS.length cpR) RS) := row_stay HORc.out hsd (by decide)
                            have zd3 := cell_block HKTd.out 3
                            simp only [List.getElem?_toArray, List.getElem?_cons_zero, List.getElem?_cons_succ] at zd3
                            have HSPd := hid hspd
                            have HLd := hid (spelt_len hspd)
                            have hbRd : (wA.heap.size + 2) ≤ wd.heap.size := by have := block_lt (cell_block HKTd.out 0); exact this
                            clear hownd hspd hbd hsd
                            go_wp2_with (at_builtin; go_must (refine wpList_appR wd rfl (.tmp 144) (.tmp 148) 22 rfl Ybzm.underlying22 Ybzm.infoRange (wA.heap.size + 2) _ RS (by rfl) HORd.out lo0 hi0 _ rfl (by simp) (by rw [HRL.out]; omega) hbRd ?_); intro ao8 cp8 w8 hown8 hb8 hg8; have HD8 := hid (HDd.out.ranges hb8 (by omega) (by omega) (Stay.of_grown HORd.out hg8)); have HKT8 := hid ((hb8.block (wA.heap.size + 1) (by omega)).trans HKTd.out); have HKI8 := hid ((hb8.block wA.heap.size (by omega)).trans HKId.out); have z83 := cell_block HKT8.out 3; have f83 := frozen_block HKT8.out 3; simp only [List.getElem?_toArray, List.getElem?_cons_zero, List.getElem?_cons_succ] at z83; have HO8 := hid hown8; clear hown8 hg8 hb8)
                            have HDB := hid (HD8.out.set HKT8.out (by omega) (by omega) 3 (.slice ao8 (RS.length + 1) cp8))
                            have HKTB := hid (show (w8.setCell ⟨(wA.heap.size + 1), 3, none⟩ (.slice ao8 (RS.length + 1) cp8)).heap[(wA.heap.size + 1)]? = some (.cells #[.int .i64 3, .int .u8 0, .bool false, .slice ao8 (RS.length + 1) cp8] 26 (0, 0)) from setCell_block HKT8.out 3 _)
                            have HKIB := hid (show (w8.setCell ⟨(wA.heap.size + 1), 3, none⟩ (.slice ao8 (RS.length + 1) cp8)).heap[wA.heap.size]? = _ from (setCell_other (by omega) 3 _).trans HKI8.out)
                            have HORB := hid (show OwnR (w8.setCell ⟨(wA.heap.size + 1), 3, none⟩ (.slice ao8 (RS.length + 1) cp8)) (wA.heap.size + 2) (.slice ao8 (RS.length + 1) cp8) (RS ++ [(lo0, hi0)]) from ownsRow_setCell_below HO8.out (by simp) _)
                            have HBN : Hid (RS ++ [(lo0, hi0)] = bnds (its ++ [(lo0, hi0, l7 ++ 45 :: ld)])) := by rw [Hid, HRS.out]; simp [bnds]
                            rw [HBN.out] at HORB
                            have HTX : Hid (((Y ++ l7) ++ [45]) ++ ld = X ++ ([91] ++ bangs false ++ txts (its ++ [(lo0, hi0, l7 ++ 45 :: ld)]))) := by rw [Hid, HY.out]; simp [txts]
                            rw [HTX.out] at HDB
                            have HFI : Hid (∀ it ∈ its ++ [(lo0, hi0, l7 ++ 45 :: ld)], ItemTxt it.1 it.2.1 it.2.2) := by
                              intro it hit
                              rcases List.mem_append.1 hit with h | h
                              · exact HIT.out it h
                              · rw [List.mem_singleton] at h; subst h; exact .inr ⟨l7, ld, HSP7.out, HSPd.out, rfl, by simp only; omega⟩
                            go_roundg (rs.length - (j + 1))
                            case rel => exact ⟨j + 1, its ++ [(lo0, hi0, l7 ++ 45 :: ld)], _, rfl, by omega, by go_num, by simp [HIL.out], HFI.out, by have := HTXL.out; have := HL7.out; have := HLd.out; rw [txts_snoc]; simp; omega, HDB.out, HKIB.out, HKTB.out, HORB.out⟩
                            case measure => omega


                      · go_wp2_with (first
                          | (at_builtin; refine wpList_appT we rfl (.tmp 154) (.tmp 156) 31 rfl Ybzm.underlying31 Ybzm.infoToken w.heap.size _ TS (by rfl) HDe.out.ownt ⟨3, 0, false, RS, aoR, cpR⟩ _ rfl (by simp) (by have := HTL.out; omega) (Nat.le_trans HDe.out.base HDe.out.size) ?_; intro ao9 cp9 w9 hown9 hb9 hg9; have HO9 := hid hown9; have HG9 := hid hg9; clear hown9 hg9)
                          | (at_builtin; refine wpList_appB1k wr rfl (.tmp 151) (.tmp 152) 30 rfl Ybzm.underlying30 Ybzm.info5 w.heap.size _ (Y) (by rfl) HD.out.ownb 93 _ rfl (by simp) (by have := HXL.out; have := HYL.out; omega) (Nat.le_trans HD.out.base HD.out.size) ?_; intro ve we howne hbe hse; have HDe := hid (HD.out.bytes howne hbe hse); have HKTe := hid (hse _ _ _ _ HKT.out (by decide)); have HORe : Hid (OwnR we (wA.heap.size + 2) (.slice aoR RS.length cpR) RS) := row_stay HOR.out hse (by decide); have x0 := cell_block HKTe.out 0; have x1 := cell_block HKTe.out 1; have x2 := cell_block HKTe.out 2; have x3 := cell_block HKTe.out 3; simp only [List.getElem?_toArray, List.getElem?_cons_zero, List.getElem?_cons_succ] at x0 x1 x2 x3; clear howne))
                        have HNE : Hid (its ≠ []) := fun h => by have := HIL.out; rw [h] at this; simp at this
                        have HSAY := hid (said_class HSA.out false HIT.out HNE.out)
                        rw [← HRS.out] at HSAY
                        have HTX : Hid (Y ++ [93] = X ++ ([91] ++ bangs false ++ txts its ++ [93])) := by rw [Hid, HY.out]; simp
                        rw [← HTX.out] at HSAY
                        go_roundg (k - (q + 1))
                        case rel => exact ⟨q + 1, _, _, rfl, by omega, by go_num, by have := HXL.out; have := HYL.out; simp; omega, by simp [HTL.out], by rw [List.map_append]; exact HSAY.out, DS.step HDS.out HDe.out (clean_own HORe.out 0 false).held HG9.out hb9 HO9.out⟩
                        case measure => omega

                  | true =>
                    have HDR := hid ((HDS.out.start.alloc (.cells #[.int .u8 kind.toNat, .int .u8 c.toNat, .bool false, .bool true, .bool esc, .slice ra rs.length cp] 55)).alloc (.cells #[.int .i64 3, .int .u8 0, .bool true, .slice none 0 0] 26))
                    have HKT : Hid (((wA.alloc (.cells #[.int .u8 kind.toNat, .int .u8 c.toNat, .bool false, .bool true, .bool esc, .slice ra rs.length cp] 55)).alloc (.cells #[.int .i64 3, .int .u8 0, .bool true, .slice none 0 0] 26)).heap[wA.heap.size + 1]? = some (.cells #[.int .i64 3, .int .u8 0, .bool true, .slice none 0 0] 26 (0, 0))) := by
                      have := block_new (wA.alloc (.cells #[.int .u8 kind.toNat, .int .u8 c.toNat, .bool false, .bool true, .bool esc, .slice ra rs.length cp] 55)) #[.int .i64 3, .int .u8 0, .bool true, .slice none 0 0] 26
                      simpa [Hid] using this
                    have HKI := hid (block_alloc (block_new wA #[.int .u8 kind.toNat, .int .u8 c.toNat, .bool false, .bool true, .bool esc, .slice ra rs.length cp] 55) (.cells #[.int .i64 3, .int .u8 0, .bool true, .slice none 0 0] 26))
                    go_wp2_with (first
                      | (at_builtin; refine wpList_appB1k w3 rfl (.tmp 85) (.tmp 86) 30 rfl Ybzm.underlying30 Ybzm.info5 w.heap.size _ (X ++ [91]) (by rfl) HD3.out.ownb 33 _ rfl (by simp) (by have := HXL.out; simp; omega) (Nat.le_trans HD3.out.base HD3.out.size) ?_; intro v4 w4 hown4 hb4 hs4; have HD4 := hid (HD3.out.bytes hown4 hb4 hs4); have HKT4 := hid (hs4 _ _ _ _ HKT3.out (by decide)); have HKI4 := hid (hs4 _ _ _ _ HKI3.out (by decide)); have z42 := cell_block HKT4.out 2; have z43 := cell_block HKT4.out 3; have y43 := cell_block HKI4.out 3; have y44 := cell_block HKI4.out 4; simp only [List.getElem?_toArray, List.getElem?_cons_zero, List.getElem?_cons_succ] at z42 z43 y43 y44; clear hown4)
                      | (at_builtin; refine wpList_appB1k ((wA.alloc (.cells #[.int .u8 kind.toNat, .int .u8 c.toNat, .bool false, .bool true, .bool esc, .slice ra rs.length cp] 55)).alloc (.cells #[.int .i64 3, .int .u8 0, .bool true, .slice none 0 0] 26)) rfl (.tmp 80) (.tmp 81) 30 rfl Ybzm.underlying30 Ybzm.info5 w.heap.size _ (X) (by rfl) HDR.out.ownb 91 _ rfl (by simp) (by have := HXL.out; simp; omega) (Nat.le_trans HDR.out.base HDR.out.size) ?_; intro v3 w3 hown3 hb3 hs3; have HD3 := hid (HDR.out.bytes hown3 hb3 hs3); have HKT3 := hid (hs3 _ _ _ _ HKT.out (by decide)); have HKI3 := hid (hs3 _ _ _ _ HKI.out (by decide)); have z32 := cell_block HKT3.out 2; have z33 := cell_block HKT3.out 3; have y33 := cell_block HKI3.out 3; have y34 := cell_block HKI3.out 4; simp only [List.getElem?_toArray, List.getElem?_cons_zero, List.getElem?_cons_succ] at z32 z33 y33 y34; clear hown3))
                    refine (dmember_any w.heap.size _ ((X ++ [91]) ++ [33]) c esc _ HD4.out.ownb (Nat.le_trans HD4.out.base HD4.out.size) (by have := HXL.out; simp; omega)).mono ?_
                    rintro e w5 ⟨v5, l, rfl, hown5, hsp, hb5, hs5⟩
                    have HD5 := hid (HD4.out.bytes hown5 hb5 hs5)
                    have HKT5 := hid (hs5 _ _ _ _ HKT4.out (by decide))
                    have HKI5 := hid (hs5 _ _ _ _ HKI4.out (by decide))
                    have z53 := cell_block HKT5.out 3
                    simp only [List.getElem?_toArray, List.getElem?_cons_zero, List.getElem?_cons_succ] at z53
                    have HSP := hid hsp
                    have hbr5 : (wA.heap.size + 2) ≤ w5.heap.size := by have := block_lt (cell_block HKT5.out 0); exact this
                    clear hown5 hb5 hs5 hsp
                    go_wp2_with (at_builtin; go_must (refine wpList_appR w5 rfl (.tmp 94) (.tmp 98) 22 rfl Ybzm.underlying22 Ybzm.infoRange (wA.heap.size + 2) _ [] (by rfl) (OwnR.nil _ _) c c _ rfl (by simp) (by simp) hbr5 ?_); intro ao6 cp6 w6 hown6 hb6 hg6; have HD6 := hid (HD5.out.ranges hb6 (by omega) (by omega) (Stay.of_grown (OwnR.nil w5 (wA.heap.size + 2)) hg6)); have HKT6 := hid ((hb6.block (wA.heap.size + 1) (by omega)).trans HKT5.out); have HKI6 := hid ((hb6.block wA.heap.size (by omega)).trans HKI5.out); have z63 := cell_block HKT6.out 3; have f63 := frozen_block HKT6.out 3; simp only [List.getElem?_toArray, List.getElem?_cons_zero, List.getElem?_cons_succ] at z63; have HO6 := hid hown6; clear hown6 hg6 hb6)
                    have HDB := hid (HD6.out.set HKT6.out (by omega) (by omega) 3 (.slice ao6 1 cp6))
                    have HKTB := hid (show (w6.setCell ⟨(wA.heap.size + 1), 3, none⟩ (.slice ao6 1 cp6)).heap[(wA.heap.size + 1)]? = some (.cells #[.int .i64 3, .int .u8 0, .bool true, .slice ao6 1 cp6] 26 (0, 0)) from setCell_block HKT6.out 3 _)
                    have HKIB := hid (show (w6.setCell ⟨(wA.heap.size + 1), 3, none⟩ (.slice ao6 1 cp6)).heap[wA.heap.size]? = _ from (setCell_other (by omega) 3 _).trans HKI6.out)
                    have HORB := hid (show OwnR (w6.setCell ⟨(wA.heap.size + 1), 3, none⟩ (.slice ao6 1 cp6)) (wA.heap.size + 2) (.slice ao6 1 cp6) (bnds [(c, c, l)]) from ownsRow_setCell_below HO6.out (by simp) _)
                    have HSTX : Hid (((X ++ [91]) ++ [33]) ++ l = X ++ ([91] ++ bangs true ++ txts [(c, c, l)])) := by simp [Hid, bangs, txts]
                    rw [HSTX.out] at HDB
                    have HFI : Hid (∀ it ∈ [(c, c, l)], ItemTxt it.1 it.2.1 it.2.2) := by
                      intro it hit
                      rw [List.mem_singleton] at hit
                      subst hit
                      exact .inl ⟨HSP.out, rfl⟩
                    have HFL : Hid ((txts [(c, c, l)]).length ≤ 5) := by
                      have := spelt_len HSP.out
                      simp [Hid, txts]; omega
                    rename World => w6
                    clear HD6 HKT6 HKI6 HO6 HSTX HSP HD3 HKT3 HKI3 HD4 HKT4 HKI4 HD5 HKT5 HKI5 HDR HKT HKI c0 c1 c2 c3 c4 c5 z63 f63 z53 z32 z33 y33 y34 z42 z43 y43 y44
                    go_loopg [4, 10] rs.length (fun g v jv wr => ∃ (j : Nat) (its : List (UInt8 × UInt8 × List UInt8)) (rv : Value), g = rs.length - j ∧ j ≤ rs.length ∧ jv = .int .i64 j ∧ its.length = j + 1 ∧ (∀ it ∈ its, ItemTxt it.1 it.2.1 it.2.2) ∧ (txts its).length ≤ 5 * (j + 1) ∧ DR w wA wr w.heap.size v (X ++ ([91] ++ bangs true ++ txts its)) u5 TS ∧ wr.heap[wA.heap.size]? = some (.cells #[.int .u8 kind.toNat, .int .u8 c.toNat, .bool false, .bool true, .bool esc, .slice ra rs.length cp] 55 (0, 0)) ∧ wr.heap[(wA.heap.size + 1)]? = some (.cells #[.int .i64 3, .int .u8 0, .bool true, rv] 26 (0, 0)) ∧ OwnR wr (wA.heap.size + 2) rv (bnds its))
                    case atStart => exact ⟨0, [(c, c, l)], _, rfl, Nat.zero_le _, rfl, rfl, HFI.out, HFL.out, HDB.out, HKIB.out, HKTB.out, HORB.out⟩
                    case round =>
                      clear HDB HKIB HKTB HORB HFI HFL
                      obtain ⟨j, its, rv, rfl, hj, rfl, hil, hit, htl, hDR, hki, hkt, hor⟩ := hrel
                      obtain ⟨RS, hRS⟩ : ∃ RS, RS = bnds its := ⟨_, rfl⟩
                      rw [← hRS] at hor
                      have HRS := hid hRS
                      have HIL := hid hil
                      have HIT := hid hit
                      have hrl : RS.length = j + 1 := by rw [hRS]; simp [bnds, hil]
                      obtain ⟨aoR, cpR, hvR, _⟩ := hor.shape
                      subst hvR
                      have HOR := hid hor
                      have HD := hid hDR
                      have HKI := hid hki
                      have HKT := hid hkt
                      have HRL := hid hrl
                      obtain ⟨Y, hY⟩ : ∃ Y, Y = X ++ ([91] ++ bangs true ++ txts its) := ⟨_, rfl⟩
                      rw [← hY] at HD
                      have HY := hid hY
                      have HYL : Hid (Y.length ≤ X.length + 2 + 5 * (j + 1)) := by
                        rw [Hid, hY]
                        simp only [List.length_append, bangs]
                        simp; omega
                      have HTXL := hid htl
                      have y5 := cell_block hki 5
                      simp only [List.getElem?_toArray, List.getElem?_cons_zero, List.getElem?_cons_succ] at y5
                      have hbr : w.heap.size ≤ wr.heap.size := Nat.le_trans hDR.base hDR.size
                      have hbBR : (wA.heap.size + 2) ≤ wr.heap.size := by have := block_lt (cell_block hkt 0); exact this
                      have hbw := hDR.below
                      clear hRS hil hit hrl hor hDR hki hkt hY htl
                      by_cases hjm : j < rs.length
                      · obtain ⟨b2, off2, rfl, g0, g1, g2⟩ := HCI.out j hjm
                        have e0 := (hbw.cell (p := ⟨b2, off2 + j * 3, none⟩) (block_lt g0)).trans g0
                        have e1 := (hbw.cell (p := ⟨b2, off2 + j * 3 + 1, none⟩) (block_lt g1)).trans g1
                        have e2 := (hbw.cell (p := ⟨b2, off2 + j * 3 + 2, none⟩) (block_lt g2)).trans g2
                        generalize rs.getD j (0, 0, false) = r at e0 e1 e2
                        obtain ⟨lo0, hi0, single⟩ := r
                        simp only at e0 e1 e2
                        clear g0 g1 g2
                        cases single with
                        | true =>
                          by_cases hsw : hi0.toNat < lo0.toNat
                          · have HDa := hid (HD.out.alloc (.cells #[.int .u8 lo0.toNat, .int .u8 hi0.toNat, .bool true] 58))
                            have HKTa := hid (block_alloc HKT.out (.cells #[.int .u8 lo0.toNat, .int .u8 hi0.toNat, .bool true] 58))
                            have HKIa := hid (block_alloc HKI.out (.cells #[.int .u8 lo0.toNat, .int .u8 hi0.toNat, .bool true] 58))
                            have HKRa := hid (block_new wr #[.int .u8 lo0.toNat, .int .u8 hi0.toNat, .bool true] 58)
                            have HORa := hid (HOR.out.alloc (.cells #[.int .u8 lo0.toNat, .int .u8 hi0.toNat, .bool true] 58))
                            have ya4 := cell_block HKIa.out 4
                            simp only [List.getElem?_toArray, List.getElem?_cons_zero, List.getElem?_cons_succ] at ya4
                            go_wp2_with fail
                            refine (dmember_any w.heap.size _ Y hi0 esc _ HDa.out.ownb (Nat.le_trans HDa.out.base HDa.out.size) (by have := HXL.out; have := HYL.out; omega)).mono ?_
                            rintro e w7 ⟨v7, l7, rfl, hown7, hsp7, hb7, hs7⟩
                            have HD7 := hid (HDa.out.bytes hown7 hb7 hs7)
                            have HKT7 := hid (hs7 _ _ _ _ HKTa.out (by decide))
                            have HKI7 := hid (hs7 _ _ _ _ HKIa.out (by decide))
                            have HKR7 := hid (hs7 _ _ _ _ HKRa.out (by decide))
                            have HOR7 : Hid (OwnR w7 (wA.heap.size + 2) (.slice aoR RS.length cpR) RS) := row_stay HORa.out hs7 (by decide)
                            have r72 := cell_block HKR7.out 2
                            have z73 := cell_block HKT7.out 3
                            have y74 := cell_block HKI7.out 4
                            simp only [List.getElem?_toArray, List.getElem?_cons_zero, List.getElem?_cons_succ] at r72 z73 y74
                            have HSP7 := hid hsp7
                            have HL7 := hid (spelt_len hsp7)
                            have hbR7 : (wA.heap.size + 2) ≤ w7.heap.size := by have := block_lt (cell_block HKT7.out 0); exact this
                            clear hown7 hsp7 hb7 hs7 HDa HKTa HKIa HKRa HORa
                            go_wp2_with (at_builtin; go_must (refine wpList_appR w7 rfl (.tmp 144) (.tmp 148) 22 rfl Ybzm.underlying22 Ybzm.infoRange (wA.heap.size + 2) _ RS (by rfl) HOR7.out hi0 hi0 _ rfl (by simp) (by rw [HRL.out]; omega) hbR7 ?_); intro ao8 cp8 w8 hown8 hb8 hg8; have HD8 := hid (HD7.out.ranges hb8 (by omega) (by omega) (Stay.of_grown HOR7.out hg8)); have HKT8 := hid ((hb8.block (wA.heap.size + 1) (by omega)).trans HKT7.out); have HKI8 := hid ((hb8.block wA.heap.size (by omega)).trans HKI7.out); have z83 := cell_block HKT8.out 3; have f83 := frozen_block HKT8.out 3; simp only [List.getElem?_toArray, List.getElem?_cons_zero, List.getElem?_cons_succ] at z83; have HO8 := hid hown8; clear hown8 hg8 hb8)
                            have HDB := hid (HD8.out.set HKT8.out (by omega) (by omega) 3 (.slice ao8 (RS.length + 1) cp8))
                            have HKTB := hid (show (w8.setCell ⟨(wA.heap.size + 1), 3, none⟩ (.slice ao8 (RS.length + 1) cp8)).heap[(wA.heap.size + 1)]? = some (.cells #[.int .i64 3, .int .u8 0, .bool true, .slice ao8 (RS.length + 1) cp8] 26 (0, 0)) from setCell_block HKT8.out 3 _)
                            have HKIB := hid (show (w8.setCell ⟨(wA.heap.size + 1), 3, none⟩ (.slice ao8 (RS.length + 1) cp8)).heap[wA.heap.size]? = _ from (setCell_other (by omega) 3 _).trans HKI8.out)
                            have HORB := hid (show OwnR (w8.setCell ⟨(wA.heap.size + 1), 3, none⟩ (.slice ao8 (RS.length + 1) cp8)) (wA.heap.size + 2) (.slice ao8 (RS.length + 1) cp8) (RS ++ [(hi0, hi0)]) from ownsRow_setCell_below HO8.out (by simp) _)
                            have HBN : Hid (RS ++ [(hi0, hi0)] = bnds (its ++ [(hi0, hi0, l7)])) := by rw [Hid, HRS.out]; simp [bnds]
                            rw [HBN.out] at HORB
                            have HTX : Hid (Y ++ l7 = X ++ ([91] ++ bangs true ++ txts (its ++ [(hi0, hi0, l7)]))) := by rw [Hid, HY.out]; simp [txts]
                            rw [HTX.out] at HDB
                            have HFI : Hid (∀ it ∈ its ++ [(hi0, hi0, l7)], ItemTxt it.1 it.2.1 it.2.2) := by
                              intro it hit
                              rcases List.mem_append.1 hit with h | h
                              · exact HIT.out it h
                              · rw [List.mem_singleton] at h; subst h; exact .inl ⟨HSP7.out, rfl⟩
                            go_roundg (rs.length - (j + 1))
                            case rel => exact ⟨j + 1, its ++ [(hi0, hi0, l7)], _, rfl, by omega, by go_num, by simp [HIL.out], HFI.out, by have := HTXL.out; have := HL7.out; rw [txts_snoc]; simp; omega, HDB.out, HKIB.out, HKTB.out, HORB.out⟩
                            case measure => omega

                          · have HDa := hid (HD.out.alloc (.cells #[.int .u8 lo0.toNat, .int .u8 hi0.toNat, .bool true] 58))
                            have HKTa := hid (block_alloc HKT.out (.cells #[.int .u8 lo0.toNat, .int .u8 hi0.toNat, .bool true] 58))
                            have HKIa := hid (block_alloc HKI.out (.cells #[.int .u8 lo0.toNat, .int .u8 hi0.toNat, .bool true] 58))
                            have HKRa := hid (block_new wr #[.int .u8 lo0.toNat, .int .u8 hi0.toNat, .bool true] 58)
                            have HORa := hid (HOR.out.alloc (.cells #[.int .u8 lo0.toNat, .int .u8 hi0.toNat, .bool true] 58))
                            have ya4 := cell_block HKIa.out 4
                            simp only [List.getElem?_toArray, List.getElem?_cons_zero, List.getElem?_cons_succ] at ya4
                            go_wp2_with fail
                            refine (dmember_any w.heap.size _ Y lo0 esc _ HDa.out.ownb (Nat.le_trans HDa.out.base HDa.out.size) (by have := HXL.out; have := HYL.out; omega)).mono ?_
                            rintro e w7 ⟨v7, l7, rfl, hown7, hsp7, hb7, hs7⟩
                            have HD7 := hid (HDa.out.bytes hown7 hb7 hs7)
                            have HKT7 := hid (hs7 _ _ _ _ HKTa.out (by decide))
                            have HKI7 := hid (hs7 _ _ _ _ HKIa.out (by decide))
                            have HKR7 := hid (hs7 _ _ _ _ HKRa.out (by decide))
                            have HOR7 : Hid (OwnR w7 (wA.heap.size + 2) (.slice aoR RS.length cpR) RS) := row_stay HORa.out hs7 (by decide)
                            have r72 := cell_block HKR7.out 2
                            have z73 := cell_block HKT7.out 3
                            have y74 := cell_block HKI7.out 4
                            simp only [List.getElem?_toArray, List.getElem?_cons_zero, List.getElem?_cons_succ] at r72 z73 y74
                            have HSP7 := hid hsp7
                            have HL7 := hid (spelt_len hsp7)
                            have hbR7 : (wA.heap.size + 2) ≤ w7.heap.size := by have := block_lt (cell_block HKT7.out 0); exact this
                            clear hown7 hsp7 hb7 hs7 HDa HKTa HKIa HKRa HORa
                            go_wp2_with (at_builtin; go_must (refine wpList_appR w7 rfl (.tmp 144) (.tmp 148) 22 rfl Ybzm.underlying22 Ybzm.infoRange (wA.heap.size + 2) _ RS (by rfl) HOR7.out lo0 lo0 _ rfl (by simp) (by rw [HRL.out]; omega) hbR7 ?_); intro ao8 cp8 w8 hown8 hb8 hg8; have HD8 := hid (HD7.out.ranges hb8 (by omega) (by omega) (Stay.of_grown HOR7.out hg8)); have HKT8 := hid ((hb8.block (wA.heap.size + 1) (by omega)).trans HKT7.out); have HKI8 := hid ((hb8.block wA.heap.size (by omega)).trans HKI7.out); have z83 := cell_block HKT8.out 3; have f83 := frozen_block HKT8.out 3; simp only [List.getElem?_toArray, List.getElem?_cons_zero, List.getElem?_cons_succ] at z83; have HO8 := hid hown8; clear hown8 hg8 hb8)
                            have HDB := hid (HD8.out.set HKT8.out (by omega) (by omega) 3 (.slice ao8 (RS.length + 1) cp8))
                            have HKTB := hid (show (w8.setCell ⟨(wA.heap.size + 1), 3, none⟩ (.slice ao8 (RS.length + 1) cp8)).heap[(wA.heap.size + 1)]? = some (.cells #[.int .i64 3, .int .u8 0, .bool true, .slice ao8 (RS.length + 1) cp8] 26 (0, 0)) from setCell_block HKT8.out 3 _)
                            have HKIB := hid (show (w8.setCell ⟨(wA.heap.size + 1), 3, none⟩ (.slice ao8 (RS.length + 1) cp8)).heap[wA.heap.size]? = _ from (setCell_other (by omega) 3 _).trans HKI8.out)
                            have HORB := hid (show OwnR (w8.setCell ⟨(wA.heap.size + 1), 3, none⟩ (.slice ao8 (RS.length + 1) cp8)) (wA.heap.size + 2) (.slice ao8 (RS.length + 1) cp8) (RS ++ [(lo0, lo0)]) from ownsRow_setCell_below HO8.out (by simp) _)
                            have HBN : Hid (RS ++ [(lo0, lo0)] = bnds (its ++ [(lo0, lo0, l7)])) := by rw [Hid, HRS.out]; simp [bnds]
                            rw [HBN.out] at HORB
                            have HTX : Hid (Y ++ l7 = X ++ ([91] ++ bangs true ++ txts (its ++ [(lo0, lo0, l7)]))) := by rw [Hid, HY.out]; simp [txts]
                            rw [HTX.out] at HDB
                            have HFI : Hid (∀ it ∈ its ++ [(lo0, lo0, l7)], ItemTxt it.1 it.2.1 it.2.2) := by
                              intro it hit
                              rcases List.mem_append.1 hit with h | h
                              · exact HIT.out it h
                              · rw [List.mem_singleton] at h; subst h; exact .inl ⟨HSP7.out, rfl⟩
                            go_roundg (rs.length - (j + 1))
                            case rel => exact ⟨j + 1, its ++ [(lo0, lo0, l7)], _, rfl, by omega, by go_num, by simp [HIL.out], HFI.out, by have := HTXL.out; have := HL7.out; rw [txts_snoc]; simp; omega, HDB.out, HKIB.out, HKTB.out, HORB.out⟩
                            case measure => omega

                        | false =>
                          by_cases hsw : hi0.toNat < lo0.toNat
                          · have HDa := hid (HD.out.alloc (.cells #[.int .u8 lo0.toNat, .int .u8 hi0.toNat, .bool false] 58))
                            have HKTa := hid (block_alloc HKT.out (.cells #[.int .u8 lo0.toNat, .int .u8 hi0.toNat, .bool false] 58))
                            have HKIa := hid (block_alloc HKI.out (.cells #[.int .u8 lo0.toNat, .int .u8 hi0.toNat, .bool false] 58))
                            have HKRa := hid (block_new wr #[.int .u8 lo0.toNat, .int .u8 hi0.toNat, .bool false] 58)
                            have HORa := hid (HOR.out.alloc (.cells #[.int .u8 lo0.toNat, .int .u8 hi0.toNat, .bool false] 58))
                            have ya4 := cell_block HKIa.out 4
                            simp only [List.getElem?_toArray, List.getElem?_cons_zero, List.getElem?_cons_succ] at ya4
                            go_wp2_with fail
                            refine (dmember_any w.heap.size _ Y hi0 esc _ HDa.out.ownb (Nat.le_trans HDa.out.base HDa.out.size) (by have := HXL.out; have := HYL.out; omega)).mono ?_
                            rintro e w7 ⟨v7, l7, rfl, hown7, hsp7, hb7, hs7⟩
                            have HD7 := hid (HDa.out.bytes hown7 hb7 hs7)
                            have HKT7 := hid (hs7 _ _ _ _ HKTa.out (by decide))
                            have HKI7 := hid (hs7 _ _ _ _ HKIa.out (by decide))
                            have HKR7 := hid (hs7 _ _ _ _ HKRa.out (by decide))
                            have HOR7 : Hid (OwnR w7 (wA.heap.size + 2) (.slice aoR RS.length cpR) RS) := row_stay HORa.out hs7 (by decide)
                            have r72 := cell_block HKR7.out 2
                            have z73 := cell_block HKT7.out 3
                            have y74 := cell_block HKI7.out 4
                            simp only [List.getElem?_toArray, List.getElem?_cons_zero, List.getElem?_cons_succ] at r72 z73 y74
                            have HSP7 := hid hsp7
                            have HL7 := hid (spelt_len hsp7)
                            have hbR7 : (wA.heap.size + 2) ≤ w7.heap.size := by have := block_lt (cell_block HKT7.out 0); exact this
                            clear hown7 hsp7 hb7 hs7 HDa HKTa HKIa HKRa HORa
                            go_wp2_with (at_builtin; go_must (refine wpList_appB1k w7 rfl (.tmp 135) (.tmp 136) 30 rfl Ybzm.underlying30 Ybzm.info5 w.heap.size _ (Y ++ l7) (by rfl) HD7.out.ownb 45 _ rfl (by simp) (by have := HXL.out; have := HYL.out; have := HL7.out; simp; omega) (Nat.le_trans HD7.out.base HD7.out.size) ?_); intro vc wc hownc hbc hsc; have HDc := hid (HD7.out.bytes hownc hbc hsc); have HKTc := hid (hsc _ _ _ _ HKT7.out (by decide)); have HKIc := hid (hsc _ _ _ _ HKI7.out (by decide)); have HORc : Hid (OwnR wc (wA.heap.size + 2) (.slice aoR RS.length cpR) RS) := row_stay HOR7.out hsc (by decide); have zc3 := cell_block HKTc.out 3; have yc4 := cell_block HKIc.out 4; simp only [List.getElem?_toArray, List.getElem?_cons_zero, List.getElem?_cons_succ] at zc3 yc4; clear hownc)
                            refine (dmember_any w.heap.size _ ((Y ++ l7) ++ [45]) lo0 esc _ HDc.out.ownb (Nat.le_trans HDc.out.base HDc.out.size) (by have := HXL.out; have := HYL.out; have := HL7.out; simp; omega)).mono ?_
                            rintro e wd ⟨vd, ld, rfl, hownd, hspd, hbd, hsd⟩
                            have HDd := hid (HDc.out.bytes hownd hbd hsd)
                            have HKTd := hid (hsd _ _ _ _ HKTc.out (by decide))
                            have HKId := hid (hsd _ _ _ _ HKIc.out (by decide))
                            have HORd : Hid (OwnR wd (wA.heap.size + 2) (.slice aoR RS.length cpR) RS) := row_stay HORc.out hsd (by decide)
                            have zd3 := cell_block HKTd.out 3
                            simp only [List.getElem?_toArray, List.getElem?_cons_zero, List.getElem?_cons_succ] at zd3
                            have HSPd := hid hspd
                            have HLd := hid (spelt_len hspd)
                            have hbRd : (wA.heap.size + 2) ≤ wd.heap.size := by have := block_lt (cell_block HKTd.out 0); exact this
                            clear hownd hspd hbd hsd
                            go_wp2_with (at_builtin; go_must (refine wpList_appR wd rfl (.tmp 144) (.tmp 148) 22 rfl Ybzm.underlying22 Ybzm.infoRange (wA.heap.size + 2) _ RS (by rfl) HORd.out hi0 lo0 _ rfl (by simp) (by rw [HRL.out]; omega) hbRd ?_); intro ao8 cp8 w8 hown8 hb8 hg8; have HD8 := hid (HDd.out.ranges hb8 (by omega) (by omega) (Stay.of_grown HORd.out hg8)); have HKT8 := hid ((hb8.block (wA.heap.size + 1) (by omega)).trans HKTd.out); have HKI8 := hid ((hb8.block wA.heap.size (by omega)).trans HKId.out); have z83 := cell_block HKT8.out 3; have f83 := frozen_block HKT8.out 3; simp only [List.getElem?_toArray, List.getElem?_cons_zero, List.getElem?_cons_succ] at z83; have HO8 := hid hown8; clear hown8 hg8 hb8)
                            have HDB := hid (HD8.out.set HKT8.out (by omega) (by omega) 3 (.slice ao8 (RS.length + 1) cp8))
                            have HKTB := hid (show (w8.setCell ⟨(wA.heap.size + 1), 3, none⟩ (.slice ao8 (RS.length + 1) cp8)).heap[(wA.heap.size + 1)]? = some (.cells #[.int .i64 3, .int .u8 0, .bool true, .slice ao8 (RS.length + 1) cp8] 26 (0, 0)) from setCell_block HKT8.out 3 _)
                            have HKIB := hid (show (w8.setCell ⟨(wA.heap.size + 1), 3, none⟩ (.slice ao8 (RS.length + 1) cp8)).heap[wA.heap.size]? = _ from (setCell_other (by omega) 3 _).trans HKI8.out)
                            have HORB := hid (show OwnR (w8.setCell ⟨(wA.heap.size + 1), 3, none⟩ (.slice ao8 (RS.length + 1) cp8)) (wA.heap.size + 2) (.slice ao8 (RS.length + 1) cp8) (RS ++ [(hi0, lo0)]) from ownsRow_setCell_below HO8.out (by simp) _)
                            have HBN : Hid (RS ++ [(hi0, lo0)] = bnds (its ++ [(hi0, lo0, l7 ++ 45 :: ld)])) := by rw [Hid, HRS.out]; simp [bnds]
                            rw [HBN.out] at HORB
                            have HTX : Hid (((Y ++ l7) ++ [45]) ++ ld = X ++ ([91] ++ bangs true ++ txts (its ++ [(hi0, lo0, l7 ++ 45 :: ld)]))) := by rw [Hid, HY.out]; simp [txts]
                            rw [HTX.out] at HDB
                            have HFI : Hid (∀ it ∈ its ++ [(hi0, lo0, l7 ++ 45 :: ld)], ItemTxt it.1 it.2.1 it.2.2) := by
                              intro it hit
                              rcases List.mem_append.1 hit with h | h
                              · exact HIT.out it h
                              · rw [List.mem_singleton] at h; subst h; exact .inr ⟨l7, ld, HSP7.out, HSPd.out, rfl, by simp only; omega⟩
                            go_roundg (rs.length - (j + 1))
                            case rel => exact ⟨j + 1, its ++ [(hi0, lo0, l7 ++ 45 :: ld)], _, rfl, by omega, by go_num, by simp [HIL.out], HFI.out, by have := HTXL.out; have := HL7.out; have := HLd.out; rw [txts_snoc]; simp; omega, HDB.out, HKIB.out, HKTB.out, HORB.out⟩
                            case measure => omega

                          · have HDa := hid (HD.out.alloc (.cells #[.int .u8 lo0.toNat, .int .u8 hi0.toNat, .bool false] 58))
                            have HKTa := hid (block_alloc HKT.out (.cells #[.int .u8 lo0.toNat, .int .u8 hi0.toNat, .bool false] 58))
                            have HKIa := hid (block_alloc HKI.out (.cells #[.int .u8 lo0.toNat, .int .u8 hi0.toNat, .bool false] 58))
                            have HKRa := hid (block_new wr #[.int .u8 lo0.toNat, .int .u8 hi0.toNat, .bool false] 58)
                            have HORa := hid (HOR.out.alloc (.cells #[.int .u8 lo0.toNat, .int .u8 hi0.toNat, .bool false] 58))
                            have ya4 := cell_block HKIa.out 4
                            simp only [List.getElem?_toArray, List.getElem?_cons_zero, List.getElem?_cons_succ] at ya4
                            go_wp2_with fail
                            refine (dmember_any w.heap.size _ Y lo0 esc _ HDa.out.ownb (Nat.le_trans HDa.out.base HDa.out.size) (by have := HXL.out; have := HYL.out; omega)).mono ?_
                            rintro e w7 ⟨v7, l7, rfl, hown7, hsp7, hb7, hs7⟩
                            have HD7 := hid (HDa.out.bytes hown7 hb7 hs7)
                            have HKT7 := hid (hs7 _ _ _ _ HKTa.out (by decide))
                            have HKI7 := hid (hs7 _ _ _ _ HKIa.out (by decide))
                            have HKR7 := hid (hs7 _ _ _ _ HKRa.out (by decide))
                            have HOR7 : Hid (OwnR w7 (wA.heap.size + 2) (.slice aoR RS.length cpR) RS) := row_stay HORa.out hs7 (by decide)
                            have r72 := cell_block HKR7.out 2
                            have z73 := cell_block HKT7.out 3
                            have y74 := cell_block HKI7.out 4
                            simp only [List.getElem?_toArray, List.getElem?_cons_zero, List.getElem?_cons_succ] at r72 z73 y74
                            have HSP7 := hid hsp7
                            have HL7 := hid (spelt_len hsp7)
                            have hbR7 : (wA.heap.size + 2) ≤ w7.heap.size := by have := block_lt (cell_block HKT7.out 0); exact this
                            clear hown7 hsp7 hb7 hs7 HDa HKTa HKIa HKRa HORa
                            go_wp2_with (at_builtin; go_must (refine wpList_appB1k w7 rfl (.tmp 135) (.tmp 136) 30 rfl Ybzm.underlying30 Ybzm.info5 w.heap.size _ (Y ++ l7) (by rfl) HD7.out.ownb 45 _ rfl (by simp) (by have := HXL.out; have := HYL.out; have := HL7.out; simp; omega) (Nat.le_trans HD7.out.base HD7.out.size) ?_); intro vc wc hownc hbc hsc; have HDc := hid (HD7.out.bytes hownc hbc hsc); have HKTc := hid (hsc _ _ _ _ HKT7.out (by decide)); have HKIc := hid (hsc _ _ _ _ HKI7.out (by decide)); have HORc : Hid (OwnR wc (wA.heap.size + 2) (.slice aoR RS.length cpR) RS) := row_stay HOR7.out hsc (by decide); have zc3 := cell_block HKTc.out 3; have yc4 := cell_block HKIc.out 4; simp only [List.getElem?_toArray, List.getElem?_cons_zero, List.getElem?_cons_succ] at zc3 yc4; clear hownc)
                            refine (dmember_any w.heap.size _ ((Y ++ l7) ++ [45]) hi0 esc _ HDc.out.ownb (Nat.le_trans HDc.out.base HDc.out.size) (by have := HXL.out; have := HYL.out; have := HL7.out; simp; omega)).mono ?_
                            rintro e wd ⟨vd, ld, rfl, hownd, hspd, hbd, hsd⟩
                            have HDd := hid (HDc.out.bytes hownd hbd hsd)
                            have HKTd := hid (hsd _ _ _ _ HKTc.out (by decide))
                            have HKId := hid (hsd _ _ _ _ HKIc.out (by decide))
                            have HORd : Hid (OwnR wd (wA.heap.size + 2) (.slice aoR RS.length cpR) RS) := row_stay HORc.out hsd (by decide)
                            have zd3 := cell_block HKTd.out 3
                            simp only [List.getElem?_toArray, List.getElem?_cons_zero, List.getElem?_cons_succ] at zd3
                            have HSPd := hid hspd
                            have HLd := hid (spelt_len hspd)
                            have hbRd : (wA.heap.size + 2) ≤ wd.heap.size := by have := block_lt (cell_block HKTd.out 0); exact this
                            clear hownd hspd hbd hsd
                            go_wp2_with (at_builtin; go_must (refine wpList_appR wd rfl (.tmp 144) (.tmp 148) 22 rfl Ybzm.underlying22 Ybzm.infoRange (wA.heap.size + 2) _ RS (by rfl) HORd.out lo0 hi0 _ rfl (by simp) (by rw [HRL.out]; omega) hbRd ?_); intro ao8 cp8 w8 hown8 hb8 hg8; have HD8 := hid (HDd.out.ranges hb8 (by omega) (by omega) (Stay.of_grown HORd.out hg8)); have HKT8 := hid ((hb8.block (wA.heap.size + 1) (by omega)).trans HKTd.out); have HKI8 := hid ((hb8.block wA.heap.size (by omega)).trans HKId.out); have z83 := cell_block HKT8.out 3; have f83 := frozen_block HKT8.out 3; simp only [List.getElem?_toArray, List.getElem?_cons_zero, List.getElem?_cons_succ] at z83; have HO8 := hid hown8; clear hown8 hg8 hb8)
                            have HDB := hid (HD8.out.set HKT8.out (by omega) (by omega) 3 (.slice ao8 (RS.length + 1) cp8))
                            have HKTB := hid (show (w8.setCell ⟨(wA.heap.size + 1), 3, none⟩ (.slice ao8 (RS.length + 1) cp8)).heap[(wA.heap.size + 1)]? = some (.cells #[.int .i64 3, .int .u8 0, .bool true, .slice ao8 (RS.length + 1) cp8] 26 (0, 0)) from setCell_block HKT8.out 3 _)
                            have HKIB := hid (show (w8.setCell ⟨(wA.heap.size + 1), 3, none⟩ (.slice ao8 (RS.length + 1) cp8)).heap[wA.heap.size]? = _ from (setCell_other (by omega) 3 _).trans HKI8.out)
                            have HORB := hid (show OwnR (w8.setCell ⟨(wA.heap.size + 1), 3, none⟩ (.slice ao8 (RS.length + 1) cp8)) (wA.heap.size + 2) (.slice ao8 (RS.length + 1) cp8) (RS ++ [(lo0, hi0)]) from ownsRow_setCell_below HO8.out (by simp) _)
                            have HBN : Hid (RS ++ [(lo0, hi0)] = bnds (its ++ [(lo0, hi0, l7 ++ 45 :: ld)])) := by rw [Hid, HRS.out]; simp [bnds]
                            rw [HBN.out] at HORB
                            have HTX : Hid (((Y ++ l7) ++ [45]) ++ ld = X ++ ([91] ++ bangs true ++ txts (its ++ [(lo0, hi0, l7 ++ 45 :: ld)]))) := by rw [Hid, HY.out]; simp [txts]
                            rw [HTX.out] at HDB
                            have HFI : Hid (∀ it ∈ its ++ [(lo0, hi0, l7 ++ 45 :: ld)], ItemTxt it.1 it.2.1 it.2.2) := by
                              intro it hit
                              rcases List.mem_append.1 hit with h | h
                              · exact HIT.out it h
                              · rw [List.mem_singleton] at h; subst h; exact .inr ⟨l7, ld, HSP7.out, HSPd.out, rfl, by simp only; omega⟩
                            go_roundg (rs.length - (j + 1))
                            case rel => exact ⟨j + 1, its ++ [(lo0, hi0, l7 ++ 45 :: ld)], _, rfl, by omega, by go_num, by simp [HIL.out], HFI.out, by have := HTXL.out; have := HL7.out; have := HLd.out; rw [txts_snoc]; simp; omega, HDB.out, HKIB.out, HKTB.out, HORB.out⟩
                            case measure => omega


                      · go_wp2_with (first
                          | (at_builtin; refine wpList_appT we rfl (.tmp 154) (.tmp 156) 31 rfl Ybzm.underlying31 Ybzm.infoToken w.heap.size _ TS (by rfl) HDe.out.ownt ⟨3, 0, true, RS, aoR, cpR⟩ _ rfl (by simp) (by have := HTL.out; omega) (Nat.le_trans HDe.out.base HDe.out.size) ?_; intro ao9 cp9 w9 hown9 hb9 hg9; have HO9 := hid hown9; have HG9 := hid hg9; clear hown9 hg9)
                          | (at_builtin; refine wpList_appB1k wr rfl (.tmp 151) (.tmp 152) 30 rfl Ybzm.underlying30 Ybzm.info5 w.heap.size _ (Y) (by rfl) HD.out.ownb 93 _ rfl (by simp) (by have := HXL.out; have := HYL.out; omega) (Nat.le_trans HD.out.base HD.out.size) ?_; intro ve we howne hbe hse; have HDe := hid (HD.out.bytes howne hbe hse); have HKTe := hid (hse _ _ _ _ HKT.out (by decide)); have HORe : Hid (OwnR we (wA.heap.size + 2) (.slice aoR RS.length cpR) RS) := row_stay HOR.out hse (by decide); have x0 := cell_block HKTe.out 0; have x1 := cell_block HKTe.out 1; have x2 := cell_block HKTe.out 2; have x3 := cell_block HKTe.out 3; simp only [List.getElem?_toArray, List.getElem?_cons_zero, List.getElem?_cons_succ] at x0 x1 x2 x3; clear howne))
                        have HNE : Hid (its ≠ []) := fun h => by have := HIL.out; rw [h] at this; simp at this
                        have HSAY := hid (said_class HSA.out true HIT.out HNE.out)
                        rw [← HRS.out] at HSAY
                        have HTX : Hid (Y ++ [93] = X ++ ([91] ++ bangs true ++ txts its ++ [93])) := by rw [Hid, HY.out]; simp
                        rw [← HTX.out] at HSAY
                        go_roundg (k - (q + 1))
                        case rel => exact ⟨q + 1, _, _, rfl, by omega, by go_num, by have := HXL.out; have := HYL.out; simp; omega, by simp [HTL.out], by rw [List.map_append]; exact HSAY.out, DS.step HDS.out HDe.out (clean_own HORe.out 0 true).held HG9.out hb9 HO9.out⟩
                        case measure => omega


          | true =>
            obtain ⟨cc, hcc⟩ : ∃ cc, ({ data := #[42, 63, 91, 93, 92, 45, 33, 97, 98] } : ByteArray)[((wrap64 (c.toNat : Int)).tmod 9).toNat]'(tab_lt c) = cc := ⟨_, rfl⟩
            have j0 := (tab_in c).1
            have j1 := (tab_in c).2
            by_cases hd2 : d = 2
            · subst hd2
              have HDR := hid ((HDS.out.start.alloc (.cells #[.int .u8 kind.toNat, .int .u8 c.toNat, .bool true, .bool neg, .bool esc, .slice ra rs.length cp] 55)).alloc (.cells #[.int .i64 2, .int .u8 0, .bool false, .slice none 0 0] 26))
              have HKT : Hid (((wA.alloc (.cells #[.int .u8 kind.toNat, .int .u8 c.toNat, .bool true, .bool neg, .bool esc, .slice ra rs.length cp] 55)).alloc (.cells #[.int .i64 2, .int .u8 0, .bool false, .slice none 0 0] 26)).heap[wA.heap.size + 1]? = some (.cells #[.int .i64 2, .int .u8 0, .bool false, .slice none 0 0] 26 (0, 0))) := by
                have := block_new (wA.alloc (.cells #[.int .u8 kind.toNat, .int .u8 c.toNat, .bool true, .bool neg, .bool esc, .slice ra rs.length cp] 55)) #[.int .i64 2, .int .u8 0, .bool false, .slice none 0 0] 26
                simpa [Hid] using this
              have HKI := hid (block_alloc (block_new wA #[.int .u8 kind.toNat, .int .u8 c.toNat, .bool true, .bool neg, .bool esc, .slice ra rs.length cp] 55) (.cells #[.int .i64 2, .int .u8 0, .bool false, .slice none 0 0] 26))
              go_wp2_with (first
                | (at_builtin; refine wpList_appT w3 rfl (.tmp 154) (.tmp 156) 31 rfl Ybzm.underlying31 Ybzm.infoToken w.heap.size _ TS (by rfl) HD3.out.ownt ⟨2, 0, false, [], none, 0⟩ _ rfl (by simp) (by have := HTL.out; omega) (Nat.le_trans HD3.out.base HD3.out.size) ?_; intro ao9 cp9 w9 hown9 hb9 hg9; have HO9 := hid hown9; have HG9 := hid hg9; clear hown9 hg9)
                | (at_builtin; refine wpList_appB1k ((wA.alloc (.cells #[.int .u8 kind.toNat, .int .u8 c.toNat, .bool true, .bool neg, .bool esc, .slice ra rs.length cp] 55)).alloc (.cells #[.int .i64 2, .int .u8 0, .bool false, .slice none 0 0] 26)) rfl (.tmp 58) (.tmp 59) 30 rfl Ybzm.underlying30 Ybzm.info5 w.heap.size _ (X) (by rfl) HDR.out.ownb 42 _ rfl (by simp) (by have := HXL.out; simp; omega) (Nat.le_trans HDR.out.base HDR.out.size) ?_; intro v3 w3 hown3 hb3 hs3; have HD3 := hid (HDR.out.bytes hown3 hb3 hs3); have hk3 := hs3 _ _ _ _ HKT.out (by decide); have z0 := cell_block hk3 0; have z1 := cell_block hk3 1; have z2 := cell_block hk3 2; have z3 := cell_block hk3 3; simp only [List.getElem?_toArray, List.getElem?_cons_zero, List.getElem?_cons_succ] at z0 z1 z2 z3; clear hk3; clear hown3))
              go_roundg (k - (q + 1))
              case rel => exact ⟨q + 1, _, _, rfl, by omega, by go_num, by have := HXL.out; simp; omega, by simp [HTL.out], by rw [List.map_append]; exact said_star HSA.out, DS.step HDS.out HD3.out (held_none _ _ 2 0 (by omega) (by omega)) HG9.out hb9 HO9.out⟩
              case measure => omega
            · by_cases hd1 : d = 1
              · subst hd1
                have HDR := hid ((HDS.out.start.alloc (.cells #[.int .u8 kind.toNat, .int .u8 c.toNat, .bool true, .bool neg, .bool esc, .slice ra rs.length cp] 55)).alloc (.cells #[.int .i64 1, .int .u8 0, .bool false, .slice none 0 0] 26))
                have HKT : Hid (((wA.alloc (.cells #[.int .u8 kind.toNat, .int .u8 c.toNat, .bool true, .bool neg, .bool esc, .slice ra rs.length cp] 55)).alloc (.cells #[.int .i64 1, .int .u8 0, .bool false, .slice none 0 0] 26)).heap[wA.heap.size + 1]? = some (.cells #[.int .i64 1, .int .u8 0, .bool false, .slice none 0 0] 26 (0, 0))) := by
                  have := block_new (wA.alloc (.cells #[.int .u8 kind.toNat, .int .u8 c.toNat, .bool true, .bool neg, .bool esc, .slice ra rs.length cp] 55)) #[.int .i64 1, .int .u8 0, .bool false, .slice none 0 0] 26
                  simpa [Hid] using this
                have HKI := hid (block_alloc (block_new wA #[.int .u8 kind.toNat, .int .u8 c.toNat, .bool true, .bool neg, .bool esc, .slice ra rs.length cp] 55) (.cells #[.int .i64 1, .int .u8 0, .bool false, .slice none 0 0] 26))
                go_wp2_with (first
                  | (at_builtin; refine wpList_appT w3 rfl (.tmp 154) (.tmp 156) 31 rfl Ybzm.underlying31 Ybzm.infoToken w.heap.size _ TS (by rfl) HD3.out.ownt ⟨1, 0, false, [], none, 0⟩ _ rfl (by simp) (by have := HTL.out; omega) (Nat.le_trans HD3.out.base HD3.out.size) ?_; intro ao9 cp9 w9 hown9 hb9 hg9; have HO9 := hid hown9; have HG9 := hid hg9; clear hown9 hg9)
                  | (at_builtin; refine wpList_appB1k ((wA.alloc (.cells #[.int .u8 kind.toNat, .int .u8 c.toNat, .bool true, .bool neg, .bool esc, .slice ra rs.length cp] 55)).alloc (.cells #[.int .i64 1, .int .u8 0, .bool false, .slice none 0 0] 26)) rfl (.tmp 64) (.tmp 65) 30 rfl Ybzm.underlying30 Ybzm.info5 w.heap.size _ (X) (by rfl) HDR.out.ownb 63 _ rfl (by simp) (by have := HXL.out; simp; omega) (Nat.le_trans HDR.out.base HDR.out.size) ?_; intro v3 w3 hown3 hb3 hs3; have HD3 := hid (HDR.out.bytes hown3 hb3 hs3); have hk3 := hs3 _ _ _ _ HKT.out (by decide); have z0 := cell_block hk3 0; have z1 := cell_block hk3 1; have z2 := cell_block hk3 2; have z3 := cell_block hk3 3; simp only [List.getElem?_toArray, List.getElem?_cons_zero, List.getElem?_cons_succ] at z0 z1 z2 z3; clear hk3; clear hown3))
                go_roundg (k - (q + 1))
                case rel => exact ⟨q + 1, _, _, rfl, by omega, by go_num, by have := HXL.out; simp; omega, by simp [HTL.out], by rw [List.map_append]; exact said_any HSA.out, DS.step HDS.out HD3.out (held_none _ _ 1 0 (by omega) (by omega)) HG9.out hb9 HO9.out⟩
                case measure => omega
              · by_cases hd0 : d = 0
                · subst hd0
                  have HDR := hid ((HDS.out.start.alloc (.cells #[.int .u8 kind.toNat, .int .u8 c.toNat, .bool true, .bool neg, .bool esc, .slice ra rs.length cp] 55)).alloc (.cells #[.int .i64 0, .int .u8 cc.toNat, .bool false, .slice none 0 0] 26))
                  have HKT : Hid (((wA.alloc (.cells #[.int .u8 kind.toNat, .int .u8 c.toNat, .bool true, .bool neg, .bool esc, .slice ra rs.length cp] 55)).alloc (.cells #[.int .i64 0, .int .u8 cc.toNat, .bool false, .slice none 0 0] 26)).heap[wA.heap.size + 1]? = some (.cells #[.int .i64 0, .int .u8 cc.toNat, .bool false, .slice none 0 0] 26 (0, 0))) := by
                    have := block_new (wA.alloc (.cells #[.int .u8 kind.toNat, .int .u8 c.toNat, .bool true, .bool neg, .bool esc, .slice ra rs.length cp] 55)) #[.int .i64 0, .int .u8 cc.toNat, .bool false, .slice none 0 0] 26
                    simpa [Hid] using this
                  have HKI := hid (block_alloc (block_new wA #[.int .u8 kind.toNat, .int .u8 c.toNat, .bool true, .bool neg, .bool esc, .slice ra rs.length cp] 55) (.cells #[.int .i64 0, .int .u8 cc.toNat, .bool false, .slice none 0 0] 26))
                  go_wp2_with fail
                  refine (dlit_any w.heap.size _ X cc esc _ HDR.out.ownb (Nat.le_trans HDR.out.base HDR.out.size) (by have := HXL.out; omega)).mono ?_
                  rintro e w3 ⟨v3, l, rfl, hown3, hl, hb3, hs3⟩
                  have HD3 := hid (HDR.out.bytes hown3 hb3 hs3)
                  have hk3 := hs3 _ _ _ _ HKT.out (by decide)
                  have z0 := cell_block hk3 0
                  have z1 := cell_block hk3 1
                  have z2 := cell_block hk3 2
                  have z3 := cell_block hk3 3
                  simp only [List.getElem?_toArray, List.getElem?_cons_zero, List.getElem?_cons_succ] at z0 z1 z2 z3
                  have HLL := hid hl
                  clear hk3 hown3 hl hb3 hs3
                  go_wp2_with (at_builtin; go_must (refine wpList_appT w3 rfl (.tmp 154) (.tmp 156) 31 rfl Ybzm.underlying31 Ybzm.infoToken w.heap.size _ TS (by rfl) HD3.out.ownt ⟨0, cc, false, [], none, 0⟩ _ rfl (by simp) (by have := HTL.out; omega) (Nat.le_trans HD3.out.base HD3.out.size) ?_); intro ao9 cp9 w9 hown9 hb9 hg9; have HO9 := hid hown9; have HG9 := hid hg9; clear hown9 hg9)
                  go_roundg (k - (q + 1))
                  case rel => exact ⟨q + 1, _, _, rfl, by omega, by go_num, by have := HXL.out; have := lit_len HLL.out; simp; omega, by simp [HTL.out], by rw [List.map_append]; exact said_lit HSA.out HLL.out, DS.step HDS.out HD3.out (held_none _ _ 0 cc (by omega) (by omega)) HG9.out hb9 HO9.out⟩
                  case measure => omega
                · have hd3 : d = 3 := by omega
                  subst hd3
                  clear hd0 hd1 hd2
                  cases neg with
                  | false =>
                    have HDR := hid ((HDS.out.start.alloc (.cells #[.int .u8 kind.toNat, .int .u8 c.toNat, .bool true, .bool false, .bool esc, .slice ra rs.length cp] 55)).alloc (.cells #[.int .i64 3, .int .u8 0, .bool false, .slice none 0 0] 26))
                    have HKT : Hid (((wA.alloc (.cells #[.int .u8 kind.toNat, .int .u8 c.toNat, .bool true, .bool false, .bool esc, .slice ra rs.length cp] 55)).alloc (.cells #[.int .i64 3, .int .u8 0, .bool false, .slice none 0 0] 26)).heap[wA.heap.size + 1]? = some (.cells #[.int .i64 3, .int .u8 0, .bool false, .slice none 0 0] 26 (0, 0))) := by
                      have := block_new (wA.alloc (.cells #[.int .u8 kind.toNat, .int .u8 c.toNat, .bool true, .bool false, .bool esc, .slice ra rs.length cp] 55)) #[.int .i64 3, .int .u8 0, .bool false, .slice none 0 0] 26
                      simpa [Hid] using this
                    have HKI := hid (block_alloc (block_new wA #[.int .u8 kind.toNat, .int .u8 c.toNat, .bool true, .bool false, .bool esc, .slice ra rs.length cp] 55) (.cells #[.int .i64 3, .int .u8 0, .bool false, .slice none 0 0] 26))
                    go_wp2_with (at_builtin; go_must (refine wpList_appB1k ((wA.alloc (.cells #[.int .u8 kind.toNat, .int .u8 c.toNat, .bool true, .bool false, .bool esc, .slice ra rs.length cp] 55)).alloc (.cells #[.int .i64 3, .int .u8 0, .bool false, .slice none 0 0] 26)) rfl (.tmp 80) (.tmp 81) 30 rfl Ybzm.underlying30 Ybzm.info5 w.heap.size _ (X) (by rfl) HDR.out.ownb 91 _ rfl (by simp) (by have := HXL.out; simp; omega) (Nat.le_trans HDR.out.base HDR.out.size) ?_); intro v3 w3 hown3 hb3 hs3; have HD3 := hid (HDR.out.bytes hown3 hb3 hs3); have HKT3 := hid (hs3 _ _ _ _ HKT.out (by decide)); have HKI3 := hid (hs3 _ _ _ _ HKI.out (by decide)); have z32 := cell_block HKT3.out 2; have z33 := cell_block HKT3.out 3; have y33 := cell_block HKI3.out 3; have y34 := cell_block HKI3.out 4; simp only [List.getElem?_toArray, List.getElem?_cons_zero, List.getElem?_cons_succ] at z32 z33 y33 y34; clear hown3)
                    refine (dmember_any w.heap.size _ (X ++ [91]) cc esc _ HD3.out.ownb (Nat.le_trans HD3.out.base HD3.out.size) (by have := HXL.out; simp; omega)).mono ?_
                    rintro e w5 ⟨v5, l, rfl, hown5, hsp, hb5, hs5⟩
                    have HD5 := hid (HD3.out.bytes hown5 hb5 hs5)
                    have HKT5 := hid (hs5 _ _ _ _ HKT3.out (by decide))
                    have HKI5 := hid (hs5 _ _ _ _ HKI3.out (by decide))
                    have z53 := cell_block HKT5.out 3
                    simp only [List.getElem?_toArray, List.getElem?_cons_zero, List.getElem?_cons_succ] at z53
                    have HSP := hid hsp
                    have hbr5 : (wA.heap.size + 2) ≤ w5.heap.size := by have := block_lt (cell_block HKT5.out 0); exact this
                    clear hown5 hb5 hs5 hsp
                    go_wp2_with (at_builtin; go_must (refine wpList_appR w5 rfl (.tmp 94) (.tmp 98) 22 rfl Ybzm.underlying22 Ybzm.infoRange (wA.heap.size + 2) _ [] (by rfl) (OwnR.nil _ _) cc cc _ rfl (by simp) (by simp) hbr5 ?_); intro ao6 cp6 w6 hown6 hb6 hg6; have HD6 := hid (HD5.out.ranges hb6 (by omega) (by omega) (Stay.of_grown (OwnR.nil w5 (wA.heap.size + 2)) hg6)); have HKT6 := hid ((hb6.block (wA.heap.size + 1) (by omega)).trans HKT5.out); have HKI6 := hid ((hb6.block wA.heap.size (by omega)).trans HKI5.out); have z63 := cell_block HKT6.out 3; have f63 := frozen_block HKT6.out 3; simp only [List.getElem?_toArray, List.getElem?_cons_zero, List.getElem?_cons_succ] at z63; have HO6 := hid hown6; clear hown6 hg6 hb6)
                    have HDB := hid (HD6.out.set HKT6.out (by omega) (by omega) 3 (.slice ao6 1 cp6))
                    have HKTB := hid (show (w6.setCell ⟨(wA.heap.size + 1), 3, none⟩ (.slice ao6 1 cp6)).heap[(wA.heap.size + 1)]? = some (.cells #[.int .i64 3, .int .u8 0, .bool false, .slice ao6 1 cp6] 26 (0, 0)) from setCell_block HKT6.out 3 _)
                    have HKIB := hid (show (w6.setCell ⟨(wA.heap.size + 1), 3, none⟩ (.slice ao6 1 cp6)).heap[wA.heap.size]? = _ from (setCell_other (by omega) 3 _).trans HKI6.out)
                    have HORB := hid (show OwnR (w6.setCell ⟨(wA.heap.size + 1), 3, none⟩ (.slice ao6 1 cp6)) (wA.heap.size + 2) (.slice ao6 1 cp6) (bnds [(cc, cc, l)]) from ownsRow_setCell_below HO6.out (by simp) _)
                    have HSTX : Hid ((X ++ [91]) ++ l = X ++ ([91] ++ bangs false ++ txts [(cc, cc, l)])) := by simp [Hid, bangs, txts]
                    rw [HSTX.out] at HDB
                    have HFI : Hid (∀ it ∈ [(cc, cc, l)], ItemTxt it.1 it.2.1 it.2.2) := by
                      intro it hit
                      rw [List.mem_singleton] at hit
                      subst hit
                      exact .inl ⟨HSP.out, rfl⟩
                    have HFL : Hid ((txts [(cc, cc, l)]).length ≤ 5) := by
                      have := spelt_len HSP.out
                      simp [Hid, txts]; omega
                    rename World => w6
                    clear HD6 HKT6 HKI6 HO6 HSTX HSP HD3 HKT3 HKI3 HD5 HKT5 HKI5 HDR HKT HKI c0 c1 c2 c3 c4 c5 z63 f63 z53 z32 z33 y33 y34
                    go_loopg [4, 10] rs.length (fun g v jv wr => ∃ (j : Nat) (its : List (UInt8 × UInt8 × List UInt8)) (rv : Value), g = rs.length - j ∧ j ≤ rs.length ∧ jv = .int .i64 j ∧ its.length = j + 1 ∧ (∀ it ∈ its, ItemTxt it.1 it.2.1 it.2.2) ∧ (txts its).length ≤ 5 * (j + 1) ∧ DR w wA wr w.heap.size v (X ++ ([91] ++ bangs false ++ txts its)) u5 TS ∧ wr.heap[wA.heap.size]? = some (.cells #[.int .u8 kind.toNat, .int .u8 c.toNat, .bool true, .bool false, .bool esc, .slice ra rs.length cp] 55 (0, 0)) ∧ wr.heap[(wA.heap.size + 1)]? = some (.cells #[.int .i64 3, .int .u8 0, .bool false, rv] 26 (0, 0)) ∧ OwnR wr (wA.heap.size + 2) rv (bnds its))
                    case atStart => exact ⟨0, [(cc, cc, l)], _, rfl, Nat.zero_le _, rfl, rfl, HFI.out, HFL.out, HDB.out, HKIB.out, HKTB.out, HORB.out⟩
                    case round =>
                      clear HDB HKIB HKTB HORB HFI HFL
                      obtain ⟨j, its, rv, rfl, hj, rfl, hil, hit, htl, hDR, hki, hkt, hor⟩ := hrel
                      obtain ⟨RS, hRS⟩ : ∃ RS, RS = bnds its := ⟨_, rfl⟩
                      rw [← hRS] at hor
                      have HRS := hid hRS
                      have HIL := hid hil
                      have HIT := hid hit
                      have hrl : RS.length = j + 1 := by rw [hRS]; simp [bnds, hil]
                      obtain ⟨aoR, cpR, hvR, _⟩ := hor.shape
                      subst hvR
                      have HOR := hid hor
                      have HD := hid hDR
                      have HKI := hid hki
                      have HKT := hid hkt
                      have HRL := hid hrl
                      obtain ⟨Y, hY⟩ : ∃ Y, Y = X ++ ([91] ++ bangs false ++ txts its) := ⟨_, rfl⟩
                      rw [← hY] at HD
                      have HY := hid hY
                      have HYL : Hid (Y.length ≤ X.length + 2 + 5 * (j + 1)) := by
                        rw [Hid, hY]
                        simp only [List.length_append, bangs]
                        simp; omega
                      have HTXL := hid htl
                      have y5 := cell_block hki 5
                      simp only [List.getElem?_toArray, List.getElem?_cons_zero, List.getElem?_cons_succ] at y5
                      have hbr : w.heap.size ≤ wr.heap.size := Nat.le_trans hDR.base hDR.size
                      have hbBR : (wA.heap.size + 2) ≤ wr.heap.size := by have := block_lt (cell_block hkt 0); exact this
                      have hbw := hDR.below
                      clear hRS hil hit hrl hor hDR hki hkt hY htl
                      by_cases hjm : j < rs.length
                      · obtain ⟨b2, off2, rfl, g0, g1, g2⟩ := HCI.out j hjm
                        have e0 := (hbw.cell (p := ⟨b2, off2 + j * 3, none⟩) (block_lt g0)).trans g0
                        have e1 := (hbw.cell (p := ⟨b2, off2 + j * 3 + 1, none⟩) (block_lt g1)).trans g1
                        have e2 := (hbw.cell (p := ⟨b2, off2 + j * 3 + 2, none⟩) (block_lt g2)).trans g2
                        generalize rs.getD j (0, 0, false) = r at e0 e1 e2
                        obtain ⟨lo0, hi0, single⟩ := r
                        simp only at e0 e1 e2
                        clear g0 g1 g2
                        cases single with
                        | true =>
                          by_cases hsw : hi0.toNat < lo0.toNat
                          · have HDa := hid (HD.out.alloc (.cells #[.int .u8 lo0.toNat, .int .u8 hi0.toNat, .bool true] 58))
                            have HKTa := hid (block_alloc HKT.out (.cells #[.int .u8 lo0.toNat, .int .u8 hi0.toNat, .bool true] 58))
                            have HKIa := hid (block_alloc HKI.out (.cells #[.int .u8 lo0.toNat, .int .u8 hi0.toNat, .bool true] 58))
                            have HKRa := hid (block_new wr #[.int .u8 lo0.toNat, .int .u8 hi0.toNat, .bool true] 58)
                            have HORa := hid (HOR.out.alloc (.cells #[.int .u8 lo0.toNat, .int .u8 hi0.toNat, .bool true] 58))
                            have ya4 := cell_block HKIa.out 4
                            simp only [List.getElem?_toArray, List.getElem?_cons_zero, List.getElem?_cons_succ] at ya4
                            go_wp2_with fail
                            refine (dmember_any w.heap.size _ Y hi0 esc _ HDa.out.ownb (Nat.le_trans HDa.out.base HDa.out.size) (by have := HXL.out; have := HYL.out; omega)).mono ?_
                            rintro e w7 ⟨v7, l7, rfl, hown7, hsp7, hb7, hs7⟩
                            have HD7 := hid (HDa.out.bytes hown7 hb7 hs7)
                            have HKT7 := hid (hs7 _ _ _ _ HKTa.out (by decide))
                            have HKI7 := hid (hs7 _ _ _ _ HKIa.out (by decide))
                            have HKR7 := hid (hs7 _ _ _ _ HKRa.out (by decide))
                            have HOR7 : Hid (OwnR w7 (wA.heap.size + 2) (.slice aoR RS.length cpR) RS) := row_stay HORa.out hs7 (by decide)
                            have r72 := cell_block HKR7.out 2
                            have z73 := cell_block HKT7.out 3
                            have y74 := cell_block HKI7.out 4
                            simp only [List.getElem?_toArray, List.getElem?_cons_zero, List.getElem?_cons_succ] at r72 z73 y74
                            have HSP7 := hid hsp7
                            have HL7 := hid (spelt_len hsp7)
                            have hbR7 : (wA.heap.size + 2) ≤ w7.heap.size := by have := block_lt (cell_block HKT7.out 0); exact this
                            clear hown7 hsp7 hb7 hs7 HDa HKTa HKIa HKRa HORa
                            go_wp2_with (at_builtin; go_must (refine wpList_appR w7 rfl (.tmp 144) (.tmp 148) 22 rfl Ybzm.underlying22 Ybzm.infoRange (wA.heap.size + 2) _ RS (by rfl) HOR7.out hi0 hi0 _ rfl (by simp) (by rw [HRL.out]; omega) hbR7 ?_); intro ao8 cp8 w8 hown8 hb8 hg8; have HD8 := hid (HD7.out.ranges hb8 (by omega) (by omega) (Stay.of_grown HOR7.out hg8)); have HKT8 := hid ((hb8.block (wA.heap.size + 1) (by omega)).trans HKT7.out); have HKI8 := hid ((hb8.block wA.heap.size (by omega)).trans HKI7.out); have z83 := cell_block HKT8.out 3; have f83 := frozen_block HKT8.out 3; simp only [List.getElem?_toArray, List.getElem?_cons_zero, List.getElem?_cons_succ] at z83; have HO8 := hid hown8; clear hown8 hg8 hb8)
                            have HDB := hid (HD8.out.set HKT8.out (by omega) (by omega) 3 (.slice ao8 (RS.length + 1) cp8))
                            have HKTB := hid (show (w8.setCell ⟨(wA.heap.size + 1), 3, none⟩ (.slice ao8 (RS.length + 1) cp8)).heap[(wA.heap.size + 1)]? = some (.cells #[.int .i64 3, .int .u8 0, .bool false, .slice ao8 (RS.length + 1) cp8] 26 (0, 0)) from setCell_block HKT8.out 3 _)
                            have HKIB := hid (show (w8.setCell ⟨(wA.heap.size + 1), 3, none⟩ (.slice ao8 (RS.length + 1) cp8)).heap[wA.heap.size]? = _ from (setCell_other (by omega) 3 _).trans HKI8.out)
                            have HORB := hid (show OwnR (w8.setCell ⟨(wA.heap.size + 1), 3, none⟩ (.slice ao8 (RS.length + 1) cp8)) (wA.heap.size + 2) (.slice ao8 (RS.length + 1) cp8) (RS ++ [(hi0, hi0)]) from ownsRow_setCell_below HO8.out (by simp) _)
                            have HBN : Hid (RS ++ [(hi0, hi0)] = bnds (its ++ [(hi0, hi0, l7)])) := by rw [Hid, HRS.out]; simp [bnds]
                            rw [HBN.out] at HORB
                            have HTX : Hid (Y ++ l7 = X ++ ([91] ++ bangs false ++ txts (its ++ [(hi0, hi0, l7)]))) := by rw [Hid, HY.out]; simp [txts]
                            rw [HTX.out] at HDB
                            have HFI : Hid (∀ it ∈ its ++ [(hi0, hi0, l7)], ItemTxt it.1 it.2.1 it.2.2) := by
                              intro it hit
                              rcases List.mem_append.1 hit with h | h
                              · exact HIT.out it h
                              · rw [List.mem_singleton] at h; subst h; exact .inl ⟨HSP7.out, rfl⟩
                            go_roundg (rs.length - (j + 1))
                            case rel => exact ⟨j + 1, its ++ [(hi0, hi0, l7)], _, rfl, by omega, by go_num, by simp [HIL.out], HFI.out, by have := HTXL.out; have := HL7.out; rw [txts_snoc]; simp; omega, HDB.out, HKIB.out, HKTB.out, HORB.out⟩
                            case measure => omega

                          · have HDa := hid (HD.out.alloc (.cells #[.int .u8 lo0.toNat, .int .u8 hi0.toNat, .bool true] 58))
                            have HKTa := hid (block_alloc HKT.out (.cells #[.int .u8 lo0.toNat, .int .u8 hi0.toNat, .bool true] 58))
                            have HKIa := hid (block_alloc HKI.out (.cells #[.int .u8 lo0.toNat, .int .u8 hi0.toNat, .bool true] 58))
                            have HKRa := hid (block_new wr #[.int .u8 lo0.toNat, .int .u8 hi0.toNat, .bool true] 58)
                            have HORa := hid (HOR.out.alloc (.cells #[.int .u8 lo0.toNat, .int .u8 hi0.toNat, .bool true] 58))
                            have ya4 := cell_block HKIa.out 4
                            simp only [List.getElem?_toArray, List.getElem?_cons_zero, List.getElem?_cons_succ] at ya4
                            go_wp2_with fail
                            refine (dmember_any w.heap.size _ Y lo0 esc _ HDa.out.ownb (Nat.le_trans HDa.out.base HDa.out.size) (by have := HXL.out; have := HYL.out; omega)).mono ?_
                            rintro e w7 ⟨v7, l7, rfl, hown7, hsp7, hb7, hs7⟩
                            have HD7 := hid (HDa.out.bytes hown7 hb7 hs7)
                            have HKT7 := hid (hs7 _ _ _ _ HKTa.out (by decide))
                            have HKI7 := hid (hs7 _ _ _ _ HKIa.out (by decide))
                            have HKR7 := hid (hs7 _ _ _ _ HKRa.out (by decide))
                            have HOR7 : Hid (OwnR w7 (wA.heap.size + 2) (.slice aoR RS.length cpR) RS) := row_stay HORa.out hs7 (by decide)
                            have r72 := cell_block HKR7.out 2
                            have z73 := cell_block HKT7.out 3
                            have y74 := cell_block HKI7.out 4
                            simp only [List.getElem?_toArray, List.getElem?_cons_zero, List.getElem?_cons_succ] at r72 z73 y74
                            have HSP7 := hid hsp7
                            have HL7 := hid (spelt_len hsp7)
                            have hbR7 : (wA.heap.size + 2) ≤ w7.heap.size := by have := block_lt (cell_block HKT7.out 0); exact this
                            clear hown7 hsp7 hb7 hs7 HDa HKTa HKIa HKRa HORa
                            go_wp2_with (at_builtin; go_must (refine wpList_appR w7 rfl (.tmp 144) (.tmp 148) 22 rfl Ybzm.underlying22 Ybzm.infoRange (wA.heap.size + 2) _ RS (by rfl) HOR7.out lo0 lo0 _ rfl (by simp) (by rw [HRL.out]; omega) hbR7 ?_); intro ao8 cp8 w8 hown8 hb8 hg8; have HD8 := hid (HD7.out.ranges hb8 (by omega) (by omega) (Stay.of_grown HOR7.out hg8)); have HKT8 := hid ((hb8.block (wA.heap.size + 1) (by omega)).trans HKT7.out); have HKI8 := hid ((hb8.block wA.heap.size (by omega)).trans HKI7.out); have z83 := cell_block HKT8.out 3; have f83 := frozen_block HKT8.out 3; simp only [List.getElem?_toArray, List.getElem?_cons_zero, List.getElem?_cons_succ] at z83; have HO8 := hid hown8; clear hown8 hg8 hb8)
                            have HDB := hid (HD8.out.set HKT8.out (by omega) (by omega) 3 (.slice ao8 (RS.length + 1) cp8))
                            have HKTB := hid (show (w8.setCell ⟨(wA.heap.size + 1), 3, none⟩ (.slice ao8 (RS.length + 1) cp8)).heap[(wA.heap.size + 1)]? = some (.cells #[.int .i64 3, .int .u8 0, .bool false, .slice ao8 (RS.length + 1) cp8] 26 (0, 0)) from setCell_block HKT8.out 3 _)
                            have HKIB := hid (show (w8.setCell ⟨(wA.heap.size + 1), 3, none⟩ (.slice ao8 (RS.length + 1) cp8)).heap[wA.heap.size]? = _ from (setCell_other (by omega) 3 _).trans HKI8.out)
                            have HORB := hid (show OwnR (w8.setCell ⟨(wA.heap.size + 1), 3, none⟩ (.slice ao8 (RS.length + 1) cp8)) (wA.heap.size + 2) (.slice ao8 (RS.length + 1) cp8) (RS ++ [(lo0, lo0)]) from ownsRow_setCell_below HO8.out (by simp) _)
                            have HBN : Hid (RS ++ [(lo0, lo0)] = bnds (its ++ [(lo0, lo0, l7)])) := by rw [Hid, HRS.out]; simp [bnds]
                            rw [HBN.out] at HORB
                            have HTX : Hid (Y ++ l7 = X ++ ([91] ++ bangs false ++ txts (its ++ [(lo0, lo0, l7)]))) := by rw [Hid, HY.out]; simp [txts]
                            rw [HTX.out] at HDB
                            have HFI : Hid (∀ it ∈ its ++ [(lo0, lo0, l7)], ItemTxt it.1 it.2.1 it.2.2) := by
                              intro it hit
                              rcases List.mem_append.1 hit with h | h
                              · exact HIT.out it h
                              · rw [List.mem_singleton] at h; subst h; exact .inl ⟨HSP7.out, rfl⟩
                            go_roundg (rs.length - (j + 1))
                            case rel => exact ⟨j + 1, its ++ [(lo0, lo0, l7)], _, rfl, by omega, by go_num, by simp [HIL.out], HFI.out, by have := HTXL.out; have := HL7.out; rw [txts_snoc]; simp; omega, HDB.out, HKIB.out, HKTB.out, HORB.out⟩
                            case measure => omega

                        | false =>
                          by_cases hsw : hi0.toNat < lo0.toNat
                          · have HDa := hid (HD.out.alloc (.cells #[.int .u8 lo0.toNat, .int .u8 hi0.toNat, .bool false] 58))
                            have HKTa := hid (block_alloc HKT.out (.cells #[.int .u8 lo0.toNat, .int .u8 hi0.toNat, .bool false] 58))
                            have HKIa := hid (block_alloc HKI.out (.cells #[.int .u8 lo0.toNat, .int .u8 hi0.toNat, .bool false] 58))
                            have HKRa := hid (block_new wr #[.int .u8 lo0.toNat, .int .u8 hi0.toNat, .bool false] 58)
                            have HORa := hid (HOR.out.alloc (.cells #[.int .u8 lo0.toNat, .int .u8 hi0.toNat, .bool false] 58))
                            have ya4 := cell_block HKIa.out 4
                            simp only [List.getElem?_toArray, List.getElem?_cons_zero, List.getElem?_cons_succ] at ya4
                            go_wp2_with fail
                            refine (dmember_any w.heap.size _ Y hi0 esc _ HDa.out.ownb (Nat.le_trans HDa.out.base HDa.out.size) (by have := HXL.out; have := HYL.out; omega)).mono ?_
                            rintro e w7 ⟨v7, l7, rfl, hown7, hsp7, hb7, hs7⟩
                            have HD7 := hid (HDa.out.bytes hown7 hb7 hs7)
                            have HKT7 := hid (hs7 _ _ _ _ HKTa.out (by decide))
                            have HKI7 := hid (hs7 _ _ _ _ HKIa.out (by decide))
                            have HKR7 := hid (hs7 _ _ _ _ HKRa.out (by decide))
                            have HOR7 : Hid (OwnR w7 (wA.heap.size + 2) (.slice aoR RS.length cpR) RS) := row_stay HORa.out hs7 (by decide)
                            have r72 := cell_block HKR7.out 2
                            have z73 := cell_block HKT7.out 3
                            have y74 := cell_block HKI7.out 4
                            simp only [List.getElem?_toArray, List.getElem?_cons_zero, List.getElem?_cons_succ] at r72 z73 y74
                            have HSP7 := hid hsp7
                            have HL7 := hid (spelt_len hsp7)
                            have hbR7 : (wA.heap.size + 2) ≤ w7.heap.size := by have := block_lt (cell_block HKT7.out 0); exact this
                            clear hown7 hsp7 hb7 hs7 HDa HKTa HKIa HKRa HORa
                            go_wp2_with (at_builtin; go_must (refine wpList_appB1k w7 rfl (.tmp 135) (.tmp 136) 30 rfl Ybzm.underlying30 Ybzm.info5 w.heap.size _ (Y ++ l7) (by rfl) HD7.out.ownb 45 _ rfl (by simp) (by have := HXL.out; have := HYL.out; have := HL7.out; simp; omega) (Nat.le_trans HD7.out.base HD7.out.size) ?_); intro vc wc hownc hbc hsc; have HDc := hid (HD7.out.bytes hownc hbc hsc); have HKTc := hid (hsc _ _ _ _ HKT7.out (by decide)); have HKIc := hid (hsc _ _ _ _ HKI7.out (by decide)); have HORc : Hid (OwnR wc (wA.heap.size + 2) (.slice aoR RS.length cpR) RS) := row_stay HOR7.out hsc (by decide); have zc3 := cell_block HKTc.out 3; have yc4 := cell_block HKIc.out 4; simp only [List.getElem?_toArray, List.getElem?_cons_zero, List.getElem?_cons_succ] at zc3 yc4; clear hownc)
                            refine (dmember_any w.heap.size _ ((Y ++ l7) ++ [45]) lo0 esc _ HDc.out.ownb (Nat.le_trans HDc.out.base HDc.out.size) (by have := HXL.out; have := HYL.out; have := HL7.out; simp; omega)).mono ?_
                            rintro e wd ⟨vd, ld, rfl, hownd, hspd, hbd, hsd⟩
                            have HDd := hid (HDc.out.bytes hownd hbd hsd)
                            have HKTd := hid (hsd _ _ _ _ HKTc.out (by decide))
                            have HKId := hid (hsd _ _ _ _ HKIc.out (by decide))
                            have HORd : Hid (OwnR wd (wA.heap.size + 2) (.slice aoR RS.length cpR) RS) := row_stay HORc.out hsd (by decide)
                            have zd3 := cell_block HKTd.out 3
                            simp only [List.getElem?_toArray, List.getElem?_cons_zero, List.getElem?_cons_succ] at zd3
                            have HSPd := hid hspd
                            have HLd := hid (spelt_len hspd)
                            have hbRd : (wA.heap.size + 2) ≤ wd.heap.size := by have := block_lt (cell_block HKTd.out 0); exact this
                            clear hownd hspd hbd hsd
                            go_wp2_with (at_builtin; go_must (refine wpList_appR wd rfl (.tmp 144) (.tmp 148) 22 rfl Ybzm.underlying22 Ybzm.infoRange (wA.heap.size + 2) _ RS (by rfl) HORd.out hi0 lo0 _ rfl (by simp) (by rw [HRL.out]; omega) hbRd ?_); intro ao8 cp8 w8 hown8 hb8 hg8; have HD8 := hid (HDd.out.ranges hb8 (by omega) (by omega) (Stay.of_grown HORd.out hg8)); have HKT8 := hid ((hb8.block (wA.heap.size + 1) (by omega)).trans HKTd.out); have HKI8 := hid ((hb8.block wA.heap.size (by omega)).trans HKId.out); have z83 := cell_block HKT8.out 3; have f83 := frozen_block HKT8.out 3; simp only [List.getElem?_toArray, List.getElem?_cons_zero, List.getElem?_cons_succ] at z83; have HO8 := hid hown8; clear hown8 hg8 hb8)
                            have HDB := hid (HD8.out.set HKT8.out (by omega) (by omega) 3 (.slice ao8 (RS.length + 1) cp8))
                            have HKTB := hid (show (w8.setCell ⟨(wA.heap.size + 1), 3, none⟩ (.slice ao8 (RS.length + 1) cp8)).heap[(wA.heap.size + 1)]? = some (.cells #[.int .i64 3, .int .u8 0, .bool false, .slice ao8 (RS.length + 1) cp8] 26 (0, 0)) from setCell_block HKT8.out 3 _)
                            have HKIB := hid (show (w8.setCell ⟨(wA.heap.size + 1), 3, none⟩ (.slice ao8 (RS.length + 1) cp8)).heap[wA.heap.size]? = _ from (setCell_other (by omega) 3 _).trans HKI8.out)
                            have HORB := hid (show OwnR (w8.setCell ⟨(wA.heap.size + 1), 3, none⟩ (.slice ao8 (RS.length + 1) cp8)) (wA.heap.size + 2) (.slice ao8 (RS.length + 1) cp8) (RS ++ [(hi0, lo0)]) from ownsRow_setCell_below HO8.out (by simp) _)
                            have HBN : Hid (RS ++ [(hi0, lo0)] = bnds (its ++ [(hi0, lo0, l7 ++ 45 :: ld)])) := by rw [Hid, HRS.out]; simp [bnds]
                            rw [HBN.out] at HORB
                            have HTX : Hid (((Y ++ l7) ++ [45]) ++ ld = X ++ ([91] ++ bangs false ++ txts (its ++ [(hi0, lo0, l7 ++ 45 :: ld)]))) := by rw [Hid, HY.out]; simp [txts]
                            rw [HTX.out] at HDB
                            have HFI : Hid (∀ it ∈ its ++ [(hi0, lo0, l7 ++ 45 :: ld)], ItemTxt it.1 it.2.1 it.2.2) := by
                              intro it hit
                              rcases List.mem_append.1 hit with h | h
                              · exact HIT.out it h
                              · rw [List.mem_singleton] at h; subst h; exact .inr ⟨l7, ld, HSP7.out, HSPd.out, rfl, by simp only; omega⟩
                            go_roundg (rs.length - (j + 1))
                            case rel => exact ⟨j + 1, its ++ [(hi0, lo0, l7 ++ 45 :: ld)], _, rfl, by omega, by go_num, by simp [HIL.out], HFI.out, by have := HTXL.out; have := HL7.out; have := HLd.out; rw [txts_snoc]; simp; omega, HDB.out, HKIB.out, HKTB.out, HORB.out⟩
                            case measure => omega

                          · have HDa := hid (HD.out.alloc (.cells #[.int .u8 lo0.toNat, .int .u8 hi0.toNat, .bool false] 58))
                            have HKTa := hid (block_alloc HKT.out (.cells #[.int .u8 lo0.toNat, .int .u8 hi0.toNat, .bool false] 58))
                            have HKIa := hid (block_alloc HKI.out (.cells #[.int .u8 lo0.toNat, .int .u8 hi0.toNat, .bool false] 58))
                            have HKRa := hid (block_new wr #[.int .u8 lo0.toNat, .int .u8 hi0.toNat, .bool false] 58)
                            have HORa := hid (HOR.out.alloc (.cells #[.int .u8 lo0.toNat, .int .u8 hi0.toNat, .bool false] 58))
                            have ya4 := cell_block HKIa.out 4
                            simp only [List.getElem?_toArray, List.getElem?_cons_zero, List.getElem?_cons_succ] at ya4
                            go_wp2_with fail
                            refine (dmember_any w.heap.size _ Y lo0 esc _ HDa.out.ownb (Nat.le_trans HDa.out.base HDa.out.size) (by have := HXL.out; have := HYL.out; omega)).mono ?_
                            rintro e w7 ⟨v7, l7, rfl, hown7, hsp7, hb7, hs7⟩
                            have HD7 := hid (HDa.out.bytes hown7 hb7 hs7)
                            have HKT7 := hid (hs7 _ _ _ _ HKTa.out (by decide))
                            have HKI7 := hid (hs7 _ _ _ _ HKIa.out (by decide))
                            have HKR7 := hid (hs7 _ _ _ _ HKRa.out (by decide))
                            have HOR7 : Hid (OwnR w7 (wA.heap.size + 2) (.slice aoR RS.length cpR) RS) := row_stay HORa.out hs7 (by decide)
                            have r72 := cell_block HKR7.out 2
                            have z73 := cell_block HKT7.out 3
                            have y74 := cell_block HKI7.out 4
                            simp only [List.getElem?_toArray, List.getElem?_cons_zero, List.getElem?_cons_succ] at r72 z73 y74
                            have HSP7 := hid hsp7
                            have HL7 := hid (spelt_len hsp7)
                            have hbR7 : (wA.heap.size + 2) ≤ w7.heap.size := by have := block_lt (cell_block HKT7.out 0); exact this
                            clear hown7 hsp7 hb7 hs7 HDa HKTa HKIa HKRa HORa
                            go_wp2_with (at_builtin; go_must (refine wpList_appB1k w7 rfl (.tmp 135) (.tmp 136) 30 rfl Ybzm.underlying30 Ybzm.info5 w.heap.size _ (Y ++ l7) (by rfl) HD7.out.ownb 45 _ rfl (by simp) (by have := HXL.out; have := HYL.out; have := HL7.out; simp; omega) (Nat.le_trans HD7.out.base HD7.out.size) ?_); intro vc wc hownc hbc hsc; have HDc := hid (HD7.out.bytes hownc hbc hsc); have HKTc := hid (hsc _ _ _ _ HKT7.out (by decide)); have HKIc := hid (hsc _ _ _ _ HKI7.out (by decide)); have HORc : Hid (OwnR wc (wA.heap.size + 2) (.slice aoR RS.length cpR) RS) := row_stay HOR7.out hsc (by decide); have zc3 := cell_block HKTc.out 3; have yc4 := cell_block HKIc.out 4; simp only [List.getElem?_toArray, List.getElem?_cons_zero, List.getElem?_cons_succ] at zc3 yc4; clear hownc)
                            refine (dmember_any w.heap.size _ ((Y ++ l7) ++ [45]) hi0 esc _ HDc.out.ownb (Nat.le_trans HDc.out.base HDc.out.size) (by have := HXL.out; have := HYL.out; have := HL7.out; simp; omega)).mono ?_
                            rintro e wd ⟨vd, ld, rfl, hownd, hspd, hbd, hsd⟩
                            have HDd := hid (HDc.out.bytes hownd hbd hsd)
                            have HKTd := hid (hsd _ _ _ _ HKTc.out (by decide))
                            have HKId := hid (hsd _ _ _ _ HKIc.out (by decide))
                            have HORd : Hid (OwnR wd (wA.heap.size + 2) (.slice aoR RS.length cpR) RS) := row_stay HORc.out hsd (by decide)
                            have zd3 := cell_block HKTd.out 3
                            simp only [List.getElem?_toArray, List.getElem?_cons_zero, List.getElem?_cons_succ] at zd3
                            have HSPd := hid hspd
                            have HLd := hid (spelt_len hspd)
                            have hbRd : (wA.heap.size + 2) ≤ wd.heap.size := by have := block_lt (cell_block HKTd.out 0); exact this
                            clear hownd hspd hbd hsd
                            go_wp2_with (at_builtin; go_must (refine wpList_appR wd rfl (.tmp 144) (.tmp 148) 22 rfl Ybzm.underlying22 Ybzm.infoRange (wA.heap.size + 2) _ RS (by rfl) HORd.out lo0 hi0 _ rfl (by simp) (by rw [HRL.out]; omega) hbRd ?_); intro ao8 cp8 w8 hown8 hb8 hg8; have HD8 := hid (HDd.out.ranges hb8 (by omega) (by omega) (Stay.of_grown HORd.out hg8)); have HKT8 := hid ((hb8.block (wA.heap.size + 1) (by omega)).trans HKTd.out); have HKI8 := hid ((hb8.block wA.heap.size (by omega)).trans HKId.out); have z83 := cell_block HKT8.out 3; have f83 := frozen_block HKT8.out 3; simp only [List.getElem?_toArray, List.getElem?_cons_zero, List.getElem?_cons_succ] at z83; have HO8 := hid hown8; clear hown8 hg8 hb8)
                            have HDB := hid (HD8.out.set HKT8.out (by omega) (by omega) 3 (.slice ao8 (RS.length + 1) cp8))
                            have HKTB := hid (show (w8.setCell ⟨(wA.heap.size + 1), 3, none⟩ (.slice ao8 (RS.length + 1) cp8)).heap[(wA.heap.size + 1)]? = some (.cells #[.int .i64 3, .int .u8 0, .bool false, .slice ao8 (RS.length + 1) cp8] 26 (0, 0)) from setCell_block HKT8.out 3 _)
                            have HKIB := hid (show (w8.setCell ⟨(wA.heap.size + 1), 3, none⟩ (.slice ao8 (RS.length + 1) cp8)).heap[wA.heap.size]? = _ from (setCell_other (by omega) 3 _).trans HKI8.out)
                            have HORB := hid (show OwnR (w8.setCell ⟨(wA.heap.size + 1), 3, none⟩ (.slice ao8 (RS.length + 1) cp8)) (wA.heap.size + 2) (.slice ao8 (RS.length + 1) cp8) (RS ++ [(lo0, hi0)]) from ownsRow_setCell_below HO8.out (by simp) _)
                            have HBN : Hid (RS ++ [(lo0, hi0)] = bnds (its ++ [(lo0, hi0, l7 ++ 45 :: ld)])) := by rw [Hid, HRS.out]; simp [bnds]
                            rw [HBN.out] at HORB
                            have HTX : Hid (((Y ++ l7) ++ [45]) ++ ld = X ++ ([91] ++ bangs false ++ txts (its ++ [(lo0, hi0, l7 ++ 45 :: ld)]))) := by rw [Hid, HY.out]; simp [txts]
                            rw [HTX.out] at HDB
                            have HFI : Hid (∀ it ∈ its ++ [(lo0, hi0, l7 ++ 45 :: ld)], ItemTxt it.1 it.2.1 it.2.2) := by
                              intro it hit
                              rcases List.mem_append.1 hit with h | h
                              · exact HIT.out it h
                              · rw [List.mem_singleton] at h; subst h; exact .inr ⟨l7, ld, HSP7.out, HSPd.out, rfl, by simp only; omega⟩
                            go_roundg (rs.length - (j + 1))
                            case rel => exact ⟨j + 1, its ++ [(lo0, hi0, l7 ++ 45 :: ld)], _, rfl, by omega, by go_num, by simp [HIL.out], HFI.out, by have := HTXL.out; have := HL7.out; have := HLd.out; rw [txts_snoc]; simp; omega, HDB.out, HKIB.out, HKTB.out, HORB.out⟩
                            case measure => omega


                      · go_wp2_with (first
                          | (at_builtin; refine wpList_appT we rfl (.tmp 154) (.tmp 156) 31 rfl Ybzm.underlying31 Ybzm.infoToken w.heap.size _ TS (by rfl) HDe.out.ownt ⟨3, 0, false, RS, aoR, cpR⟩ _ rfl (by simp) (by have := HTL.out; omega) (Nat.le_trans HDe.out.base HDe.out.size) ?_; intro ao9 cp9 w9 hown9 hb9 hg9; have HO9 := hid hown9; have HG9 := hid hg9; clear hown9 hg9)
                          | (at_builtin; refine wpList_appB1k wr rfl (.tmp 151) (.tmp 152) 30 rfl Ybzm.underlying30 Ybzm.info5 w.heap.size _ (Y) (by rfl) HD.out.ownb 93 _ rfl (by simp) (by have := HXL.out; have := HYL.out; omega) (Nat.le_trans HD.out.base HD.out.size) ?_; intro ve we howne hbe hse; have HDe := hid (HD.out.bytes howne hbe hse); have HKTe := hid (hse _ _ _ _ HKT.out (by decide)); have HORe : Hid (OwnR we (wA.heap.size + 2) (.slice aoR RS.length cpR) RS) := row_stay HOR.out hse (by decide); have x0 := cell_block HKTe.out 0; have x1 := cell_block HKTe.out 1; have x2 := cell_block HKTe.out 2; have x3 := cell_block HKTe.out 3; simp only [List.getElem?_toArray, List.getElem?_cons_zero, List.getElem?_cons_succ] at x0 x1 x2 x3; clear howne))
                        have HNE : Hid (its ≠ []) := fun h => by have := HIL.out; rw [h] at this; simp at this
                        have HSAY := hid (said_class HSA.out false HIT.out HNE.out)
                        rw [← HRS.out] at HSAY
                        have HTX : Hid (Y ++ [93] = X ++ ([91] ++ bangs false ++ txts its ++ [93])) := by rw [Hid, HY.out]; simp
                        rw [← HTX.out] at HSAY
                        go_roundg (k - (q + 1))
                        case rel => exact ⟨q + 1, _, _, rfl, by omega, by go_num, by have := HXL.out; have := HYL.out; simp; omega, by simp [HTL.out], by rw [List.map_append]; exact HSAY.out, DS.step HDS.out HDe.out (clean_own HORe.out 0 false).held HG9.out hb9 HO9.out⟩
                        case measure => omega

                  | true =>
                    have HDR := hid ((HDS.out.start.alloc (.cells #[.int .u8 kind.toNat, .int .u8 c.toNat, .bool true, .bool true, .bool esc, .slice ra rs.length cp] 55)).alloc (.cells #[.int .i64 3, .int .u8 0, .bool true, .slice none 0 0] 26))
                    have HKT : Hid (((wA.alloc (.cells #[.int .u8 kind.toNat, .int .u8 c.toNat, .bool true, .bool true, .bool esc, .slice ra rs.length cp] 55)).alloc (.cells #[.int .i64 3, .int .u8 0, .bool true, .slice none 0 0] 26)).heap[wA.heap.size + 1]? = some (.cells #[.int .i64 3, .int .u8 0, .bool true, .slice none 0 0] 26 (0, 0))) := by
                      have := block_new (wA.alloc (.cells #[.int .u8 kind.toNat, .int .u8 c.toNat, .bool true, .bool true, .bool esc, .slice ra rs.length cp] 55)) #[.int .i64 3, .int .u8 0, .bool true, .slice none 0 0] 26
                      simpa [Hid] using this
                    have HKI := hid (block_alloc (block_new wA #[.int .u8 kind.toNat, .int .u8 c.toNat, .bool true, .bool true, .bool esc, .slice ra rs.length cp] 55) (.cells #[.int .i64 3, .int .u8 0, .bool true, .slice none 0 0] 26))
                    go_wp2_with (first
                      | (at_builtin; refine wpList_appB1k w3 rfl (.tmp 85) (.tmp 86) 30 rfl Ybzm.underlying30 Ybzm.info5 w.heap.size _ (X ++ [91]) (by rfl) HD3.out.ownb 33 _ rfl (by simp) (by have := HXL.out; simp; omega) (Nat.le_trans HD3.out.base HD3.out.size) ?_; intro v4 w4 hown4 hb4 hs4; have HD4 := hid (HD3.out.bytes hown4 hb4 hs4); have HKT4 := hid (hs4 _ _ _ _ HKT3.out (by decide)); have HKI4 := hid (hs4 _ _ _ _ HKI3.out (by decide)); have z42 := cell_block HKT4.out 2; have z43 := cell_block HKT4.out 3; have y43 := cell_block HKI4.out 3; have y44 := cell_block HKI4.out 4; simp only [List.getElem?_toArray, List.getElem?_cons_zero, List.getElem?_cons_succ] at z42 z43 y43 y44; clear hown4)
                      | (at_builtin; refine wpList_appB1k ((wA.alloc (.cells #[.int .u8 kind.toNat, .int .u8 c.toNat, .bool true, .bool true, .bool esc, .slice ra rs.length cp] 55)).alloc (.cells #[.int .i64 3, .int .u8 0, .bool true, .slice none 0 0] 26)) rfl (.tmp 80) (.tmp 81) 30 rfl Ybzm.underlying30 Ybzm.info5 w.heap.size _ (X) (by rfl) HDR.out.ownb 91 _ rfl (by simp) (by have := HXL.out; simp; omega) (Nat.le_trans HDR.out.base HDR.out.size) ?_; intro v3 w3 hown3 hb3 hs3; have HD3 := hid (HDR.out.bytes hown3 hb3 hs3); have HKT3 := hid (hs3 _ _ _ _ HKT.out (by decide)); have HKI3 := hid (hs3 _ _ _ _ HKI.out (by decide)); have z32 := cell_block HKT3.out 2; have z33 := cell_block HKT3.out 3; have y33 := cell_block HKI3.out 3; have y34 := cell_block HKI3.out 4; simp only [List.getElem?_toArray, List.getElem?_cons_zero, List.getElem?_cons_succ] at z32 z33 y33 y34; clear hown3))
                    refine (dmember_any w.heap.size _ ((X ++ [91]) ++ [33]) cc esc _ HD4.out.ownb (Nat.le_trans HD4.out.base HD4.out.size) (by have := HXL.out; simp; omega)).mono ?_
                    rintro e w5 ⟨v5, l, rfl, hown5, hsp, hb5, hs5⟩
                    have HD5 := hid (HD4.out.bytes hown5 hb5 hs5)
                    have HKT5 := hid (hs5 _ _ _ _ HKT4.out (by decide))
                    have HKI5 := hid (hs5 _ _ _ _ HKI4.out (by decide))
                    have z53 := cell_block HKT5.out 3
                    simp only [List.getElem?_toArray, List.getElem?_cons_zero, List.getElem?_cons_succ] at z53
                    have HSP := hid hsp
                    have hbr5 : (wA.heap.size + 2) ≤ w5.heap.size := by have := block_lt (cell_block HKT5.out 0); exact this
                    clear hown5 hb5 hs5 hsp
                    go_wp2_with (at_builtin; go_must (refine wpList_appR w5 rfl (.tmp 94) (.tmp 98) 22 rfl Ybzm.underlying22 Ybzm.infoRange (wA.heap.size + 2) _ [] (by rfl) (OwnR.nil _ _) cc cc _ rfl (by simp) (by simp) hbr5 ?_); intro ao6 cp6 w6 hown6 hb6 hg6; have HD6 := hid (HD5.out.ranges hb6 (by omega) (by omega) (Stay.of_grown (OwnR.nil w5 (wA.heap.size + 2)) hg6)); have HKT6 := hid ((hb6.block (wA.heap.size + 1) (by omega)).trans HKT5.out); have HKI6 := hid ((hb6.block wA.heap.size (by omega)).trans HKI5.out); have z63 := cell_block HKT6.out 3; have f63 := frozen_block HKT6.out 3; simp only [List.getElem?_toArray, List.getElem?_cons_zero, List.getElem?_cons_succ] at z63; have HO6 := hid hown6; clear hown6 hg6 hb6)
                    have HDB := hid (HD6.out.set HKT6.out (by omega) (by omega) 3 (.slice ao6 1 cp6))
                    have HKTB := hid (show (w6.setCell ⟨(wA.heap.size + 1), 3, none⟩ (.slice ao6 1 cp6)).heap[(wA.heap.size + 1)]? = some (.cells #[.int .i64 3, .int .u8 0, .bool true, .slice ao6 1 cp6] 26 (0, 0)) from setCell_block HKT6.out 3 _)
                    have HKIB := hid (show (w6.setCell ⟨(wA.heap.size + 1), 3, none⟩ (.slice ao6 1 cp6)).heap[wA.heap.size]? = _ from (setCell_other (by omega) 3 _).trans HKI6.out)
                    have HORB := hid (show OwnR (w6.setCell ⟨(wA.heap.size + 1), 3, none⟩ (.slice ao6 1 cp6)) (wA.heap.size + 2) (.slice ao6 1 cp6) (bnds [(cc, cc, l)]) from ownsRow_setCell_below HO6.out (by simp) _)
                    have HSTX : Hid (((X ++ [91]) ++ [33]) ++ l = X ++ ([91] ++ bangs true ++ txts [(cc, cc, l)])) := by simp [Hid, bangs, txts]
                    rw [HSTX.out] at HDB
                    have HFI : Hid (∀ it ∈ [(cc, cc, l)], ItemTxt it.1 it.2.1 it.2.2) := by
                      intro it hit
                      rw [List.mem_singleton] at hit
                      subst hit
                      exact .inl ⟨HSP.out, rfl⟩
                    have HFL : Hid ((txts [(cc, cc, l)]).length ≤ 5) := by
                      have := spelt_len HSP.out
                      simp [Hid, txts]; omega
                    rename World => w6
                    clear HD6 HKT6 HKI6 HO6 HSTX HSP HD3 HKT3 HKI3 HD4 HKT4 HKI4 HD5 HKT5 HKI5 HDR HKT HKI c0 c1 c2 c3 c4 c5 z63 f63 z53 z32 z33 y33 y34 z42 z43 y43 y44
                    go_loopg [4, 10] rs.length (fun g v jv wr => ∃ (j : Nat) (its : List (UInt8 × UInt8 × List UInt8)) (rv : Value), g = rs.length - j ∧ j ≤ rs.length ∧ jv = .int .i64 j ∧ its.length = j + 1 ∧ (∀ it ∈ its, ItemTxt it.1 it.2.1 it.2.2) ∧ (txts its).length ≤ 5 * (j + 1) ∧ DR w wA wr w.heap.size v (X ++ ([91] ++ bangs true ++ txts its)) u5 TS ∧ wr.heap[wA.heap.size]? = some (.cells #[.int .u8 kind.toNat, .int .u8 c.toNat, .bool true, .bool true, .bool esc, .slice ra rs.length cp] 55 (0, 0)) ∧ wr.heap[(wA.heap.size + 1)]? = some (.cells #[.int .i64 3, .int .u8 0, .bool true, rv] 26 (0, 0)) ∧ OwnR wr (wA.heap.size + 2) rv (bnds its))
                    case atStart => exact ⟨0, [(cc, cc, l)], _, rfl, Nat.zero_le _, rfl, rfl, HFI.out, HFL.out, HDB.out, HKIB.out, HKTB.out, HORB.out⟩
                    case round =>
                      clear HDB HKIB HKTB HORB HFI HFL
                      obtain ⟨j, its, rv, rfl, hj, rfl, hil, hit, htl, hDR, hki, hkt, hor⟩ := hrel
                      obtain ⟨RS, hRS⟩ : ∃ RS, RS = bnds its := ⟨_, rfl⟩
                      rw [← hRS] at hor
                      have HRS := hid hRS
                      have HIL := hid hil
                      have HIT := hid hit
                      have hrl : RS.length = j + 1 := by rw [hRS]; simp [bnds, hil]
                      obtain ⟨aoR, cpR, hvR, _⟩ := hor.shape
                      subst hvR
                      have HOR := hid hor
                      have HD := hid hDR
                      have HKI := hid hki
                      have HKT := hid hkt
                      have HRL := hid hrl
                      obtain ⟨Y, hY⟩ : ∃ Y, Y = X ++ ([91] ++ bangs true ++ txts its) := ⟨_, rfl⟩
                      rw [← hY] at HD
                      have HY := hid hY
                      have HYL : Hid (Y.length ≤ X.length + 2 + 5 * (j + 1)) := by
                        rw [Hid, hY]
                        simp only [List.length_append, bangs]
                        simp; omega
                      have HTXL := hid htl
                      have y5 := cell_block hki 5
                      simp only [List.getElem?_toArray, List.getElem?_cons_zero, List.getElem?_cons_succ] at y5
                      have hbr : w.heap.size ≤ wr.heap.size := Nat.le_trans hDR.base hDR.size
                      have hbBR : (wA.heap.size + 2) ≤ wr.heap.size := by have := block_lt (cell_block hkt 0); exact this
                      have hbw := hDR.below
                      clear hRS hil hit hrl hor hDR hki hkt hY htl
                      by_cases hjm : j < rs.length
                      · obtain ⟨b2, off2, rfl, g0, g1, g2⟩ := HCI.out j hjm
                        have e0 := (hbw.cell (p := ⟨b2, off2 + j * 3, none⟩) (block_lt g0)).trans g0
                        have e1 := (hbw.cell (p := ⟨b2, off2 + j * 3 + 1, none⟩) (block_lt g1)).trans g1
                        have e2 := (hbw.cell (p := ⟨b2, off2 + j * 3 + 2, none⟩) (block_lt g2)).trans g2
                        generalize rs.getD j (0, 0, false) = r at e0 e1 e2
                        obtain ⟨lo0, hi0, single⟩ := r
                        simp only at e0 e1 e2
                        clear g0 g1 g2
                        cases single with
                        | true =>
                          by_cases hsw : hi0.toNat < lo0.toNat
                          · have HDa := hid (HD.out.alloc (.cells #[.int .u8 lo0.toNat, .int .u8 hi0.toNat, .bool true] 58))
                            have HKTa := hid (block_alloc HKT.out (.cells #[.int .u8 lo0.toNat, .int .u8 hi0.toNat, .bool true] 58))
                            have HKIa := hid (block_alloc HKI.out (.cells #[.int .u8 lo0.toNat, .int .u8 hi0.toNat, .bool true] 58))
                            have HKRa := hid (block_new wr #[.int .u8 lo0.toNat, .int .u8 hi0.toNat, .bool true] 58)
                            have HORa := hid (HOR.out.alloc (.cells #[.int .u8 lo0.toNat, .int .u8 hi0.toNat, .bool true] 58))
                            have ya4 := cell_block HKIa.out 4
                            simp only [List.getElem?_toArray, List.getElem?_cons_zero, List.getElem?_cons_succ] at ya4
                            go_wp2_with fail
                            refine (dmember_any w.heap.size _ Y hi0 esc _ HDa.out.ownb (Nat.le_trans HDa.out.base HDa.out.size) (by have := HXL.out; have := HYL.out; omega)).mono ?_
                            rintro e w7 ⟨v7, l7, rfl, hown7, hsp7, hb7, hs7⟩
                            have HD7 := hid (HDa.out.bytes hown7 hb7 hs7)
                            have HKT7 := hid (hs7 _ _ _ _ HKTa.out (by decide))
                            have HKI7 := hid (hs7 _ _ _ _ HKIa.out (by decide))
                            have HKR7 := hid (hs7 _ _ _ _ HKRa.out (by decide))
                            have HOR7 : Hid (OwnR w7 (wA.heap.size + 2) (.slice aoR RS.length cpR) RS) := row_stay HORa.out hs7 (by decide)
                            have r72 := cell_block HKR7.out 2
                            have z73 := cell_block HKT7.out 3
                            have y74 := cell_block HKI7.out 4
                            simp only [List.getElem?_toArray, List.getElem?_cons_zero, List.getElem?_cons_succ] at r72 z73 y74
                            have HSP7 := hid hsp7
                            have HL7 := hid (spelt_len hsp7)
                            have hbR7 : (wA.heap.size + 2) ≤ w7.heap.size := by have := block_lt (cell_block HKT7.out 0); exact this
                            clear hown7 hsp7 hb7 hs7 HDa HKTa HKIa HKRa HORa
                            go_wp2_with (at_builtin; go_must (refine wpList_appR w7 rfl (.tmp 144) (.tmp 148) 22 rfl Ybzm.underlying22 Ybzm.infoRange (wA.heap.size + 2) _ RS (by rfl) HOR7.out hi0 hi0 _ rfl (by simp) (by rw [HRL.out]; omega) hbR7 ?_); intro ao8 cp8 w8 hown8 hb8 hg8; have HD8 := hid (HD7.out.ranges hb8 (by omega) (by omega) (Stay.of_grown HOR7.out hg8)); have HKT8 := hid ((hb8.block (wA.heap.size + 1) (by omega)).trans HKT7.out); have HKI8 := hid ((hb8.block wA.heap.size (by omega)).trans HKI7.out); have z83 := cell_block HKT8.out 3; have f83 := frozen_block HKT8.out 3; simp only [List.getElem?_toArray, List.getElem?_cons_zero, List.getElem?_cons_succ] at z83; have HO8 := hid hown8; clear hown8 hg8 hb8)
                            have HDB := hid (HD8.out.set HKT8.out (by omega) (by omega) 3 (.slice ao8 (RS.length + 1) cp8))
                            have HKTB := hid (show (w8.setCell ⟨(wA.heap.size + 1), 3, none⟩ (.slice ao8 (RS.length + 1) cp8)).heap[(wA.heap.size + 1)]? = some (.cells #[.int .i64 3, .int .u8 0, .bool true, .slice ao8 (RS.length + 1) cp8] 26 (0, 0)) from setCell_block HKT8.out 3 _)
                            have HKIB := hid (show (w8.setCell ⟨(wA.heap.size + 1), 3, none⟩ (.slice ao8 (RS.length + 1) cp8)).heap[wA.heap.size]? = _ from (setCell_other (by omega) 3 _).trans HKI8.out)
                            have HORB := hid (show OwnR (w8.setCell ⟨(wA.heap.size + 1), 3, none⟩ (.slice ao8 (RS.length + 1) cp8)) (wA.heap.size + 2) (.slice ao8 (RS.length + 1) cp8) (RS ++ [(hi0, hi0)]) from ownsRow_setCell_below HO8.out (by simp) _)
                            have HBN : Hid (RS ++ [(hi0, hi0)] = bnds (its ++ [(hi0, hi0, l7)])) := by rw [Hid, HRS.out]; simp [bnds]
                            rw [HBN.out] at HORB
                            have HTX : Hid (Y ++ l7 = X ++ ([91] ++ bangs true ++ txts (its ++ [(hi0, hi0, l7)]))) := by rw [Hid, HY.out]; simp [txts]
                            rw [HTX.out] at HDB
                            have HFI : Hid (∀ it ∈ its ++ [(hi0, hi0, l7)], ItemTxt it.1 it.2.1 it.2.2) := by
                              intro it hit
                              rcases List.mem_append.1 hit with h | h
                              · exact HIT.out it h
                              · rw [List.mem_singleton] at h; subst h; exact .inl ⟨HSP7.out, rfl⟩
                            go_roundg (rs.length - (j + 1))
                            case rel => exact ⟨j + 1, its ++ [(hi0, hi0, l7)], _, rfl, by omega, by go_num, by simp [HIL.out], HFI.out, by have := HTXL.out; have := HL7.out; rw [txts_snoc]; simp; omega, HDB.out, HKIB.out, HKTB.out, HORB.out⟩
                            case measure => omega

                          · have HDa := hid (HD.out.alloc (.cells #[.int .u8 lo0.toNat, .int .u8 hi0.toNat, .bool true] 58))
                            have HKTa := hid (block_alloc HKT.out (.cells #[.int .u8 lo0.toNat, .int .u8 hi0.toNat, .bool true] 58))
                            have HKIa := hid (block_alloc HKI.out (.cells #[.int .u8 lo0.toNat, .int .u8 hi0.toNat, .bool true] 58))
                            have HKRa := hid (block_new wr #[.int .u8 lo0.toNat, .int .u8 hi0.toNat, .bool true] 58)
                            have HORa := hid (HOR.out.alloc (.cells #[.int .u8 lo0.toNat, .int .u8 hi0.toNat, .bool true] 58))
                            have ya4 := cell_block HKIa.out 4
                            simp only [List.getElem?_toArray, List.getElem?_cons_zero, List.getElem?_cons_succ] at ya4
                            go_wp2_with fail
                            refine (dmember_any w.heap.size _ Y lo0 esc _ HDa.out.ownb (Nat.le_trans HDa.out.base HDa.out.size) (by have := HXL.out; have := HYL.out; omega)).mono ?_
                            rintro e w7 ⟨v7, l7, rfl, hown7, hsp7, hb7, hs7⟩
                            have HD7 := hid (HDa.out.bytes hown7 hb7 hs7)
                            have HKT7 := hid (hs7 _ _ _ _ HKTa.out (by decide))
                            have HKI7 := hid (hs7 _ _ _ _ HKIa.out (by decide))
                            have HKR7 := hid (hs7 _ _ _ _ HKRa.out (by decide))
                            have HOR7 : Hid (OwnR w7 (wA.heap.size + 2) (.slice aoR RS.length cpR) RS) := row_stay HORa.out hs7 (by decide)
                            have r72 := cell_block HKR7.out 2
                            have z73 := cell_block HKT7.out 3
                            have y74 := cell_block HKI7.out 4
                            simp only [List.getElem?_toArray, List.getElem?_cons_zero, List.getElem?_cons_succ] at r72 z73 y74
                            have HSP7 := hid hsp7
                            have HL7 := hid (spelt_len hsp7)
                            have hbR7 : (wA.heap.size + 2) ≤ w7.heap.size := by have := block_lt (cell_block HKT7.out 0); exact this
                            clear hown7 hsp7 hb7 hs7 HDa HKTa HKIa HKRa HORa
                            go_wp2_with (at_builtin; go_must (refine wpList_appR w7 rfl (.tmp 144) (.tmp 148) 22 rfl Ybzm.underlying22 Ybzm.infoRange (wA.heap.size + 2) _ RS (by rfl) HOR7.out lo0 lo0 _ rfl (by simp) (by rw [HRL.out]; omega) hbR7 ?_); intro ao8 cp8 w8 hown8 hb8 hg8; have HD8 := hid (HD7.out.ranges hb8 (by omega) (by omega) (Stay.of_grown HOR7.out hg8)); have HKT8 := hid ((hb8.block (wA.heap.size + 1) (by omega)).trans HKT7.out); have HKI8 := hid ((hb8.block wA.heap.size (by omega)).trans HKI7.out); have z83 := cell_block HKT8.out 3; have f83 := frozen_block HKT8.out 3; simp only [List.getElem?_toArray, List.getElem?_cons_zero, List.getElem?_cons_succ] at z83; have HO8 := hid hown8; clear hown8 hg8 hb8)
                            have HDB := hid (HD8.out.set HKT8.out (by omega) (by omega) 3 (.slice ao8 (RS.length + 1) cp8))
                            have HKTB := hid (show (w8.setCell ⟨(wA.heap.size + 1), 3, none⟩ (.slice ao8 (RS.length + 1) cp8)).heap[(wA.heap.size + 1)]? = some (.cells #[.int .i64 3, .int .u8 0, .bool true, .slice ao8 (RS.length + 1) cp8] 26 (0, 0)) from setCell_block HKT8.out 3 _)
                            have HKIB := hid (show (w8.setCell ⟨(wA.heap.size + 1), 3, none⟩ (.slice ao8 (RS.length + 1) cp8)).heap[wA.heap.size]? = _ from (setCell_other (by omega) 3 _).trans HKI8.out)
                            have HORB := hid (show OwnR (w8.setCell ⟨(wA.heap.size + 1), 3, none⟩ (.slice ao8 (RS.length + 1) cp8)) (wA.heap.size + 2) (.slice ao8 (RS.length + 1) cp8) (RS ++ [(lo0, lo0)]) from ownsRow_setCell_below HO8.out (by simp) _)
                            have HBN : Hid (RS ++ [(lo0, lo0)] = bnds (its ++ [(lo0, lo0, l7)])) := by rw [Hid, HRS.out]; simp [bnds]
                            rw [HBN.out] at HORB
                            have HTX : Hid (Y ++ l7 = X ++ ([91] ++ bangs true ++ txts (its ++ [(lo0, lo0, l7)]))) := by rw [Hid, HY.out]; simp [txts]
                            rw [HTX.out] at HDB
                            have HFI : Hid (∀ it ∈ its ++ [(lo0, lo0, l7)], ItemTxt it.1 it.2.1 it.2.2) := by
                              intro it hit
                              rcases List.mem_append.1 hit with h | h
                              · exact HIT.out it h
                              · rw [List.mem_singleton] at h; subst h; exact .inl ⟨HSP7.out, rfl⟩
                            go_roundg (rs.length - (j + 1))
                            case rel => exact ⟨j + 1, its ++ [(lo0, lo0, l7)], _, rfl, by omega, by go_num, by simp [HIL.out], HFI.out, by have := HTXL.out; have := HL7.out; rw [txts_snoc]; simp; omega, HDB.out, HKIB.out, HKTB.out, HORB.out⟩
                            case measure => omega

                        | false =>
                          by_cases hsw : hi0.toNat < lo0.toNat
                          · have HDa := hid (HD.out.alloc (.cells #[.int .u8 lo0.toNat, .int .u8 hi0.toNat, .bool false] 58))
                            have HKTa := hid (block_alloc HKT.out (.cells #[.int .u8 lo0.toNat, .int .u8 hi0.toNat, .bool false] 58))
                            have HKIa := hid (block_alloc HKI.out (.cells #[.int .u8 lo0.toNat, .int .u8 hi0.toNat, .bool false] 58))
                            have HKRa := hid (block_new wr #[.int .u8 lo0.toNat, .int .u8 hi0.toNat, .bool false] 58)
                            have HORa := hid (HOR.out.alloc (.cells #[.int .u8 lo0.toNat, .int .u8 hi0.toNat, .bool false] 58))
                            have ya4 := cell_block HKIa.out 4
                            simp only [List.getElem?_toArray, List.getElem?_cons_zero, List.getElem?_cons_succ] at ya4
                            go_wp2_with fail
                            refine (dmember_any w.heap.size _ Y hi0 esc _ HDa.out.ownb (Nat.le_trans HDa.out.base HDa.out.size) (by have := HXL.out; have := HYL.out; omega)).mono ?_
                            rintro e w7 ⟨v7, l7, rfl, hown7, hsp7, hb7, hs7⟩
                            have HD7 := hid (HDa.out.bytes hown7 hb7 hs7)
                            have HKT7 := hid (hs7 _ _ _ _ HKTa.out (by decide))
                            have HKI7 := hid (hs7 _ _ _ _ HKIa.out (by decide))
                            have HKR7 := hid (hs7 _ _ _ _ HKRa.out (by decide))
                            have HOR7 : Hid (OwnR w7 (wA.heap.size + 2) (.slice aoR RS.length cpR) RS) := row_stay HORa.out hs7 (by decide)
                            have r72 := cell_block HKR7.out 2
                            have z73 := cell_block HKT7.out 3
                            have y74 := cell_block HKI7.out 4
                            simp only [List.getElem?_toArray, List.getElem?_cons_zero, List.getElem?_cons_succ] at r72 z73 y74
                            have HSP7 := hid hsp7
                            have HL7 := hid (spelt_len hsp7)
                            have hbR7 : (wA.heap.size + 2) ≤ w7.heap.size := by have := block_lt (cell_block HKT7.out 0); exact this
                            clear hown7 hsp7 hb7 hs7 HDa HKTa HKIa HKRa HORa
                            go_wp2_with (at_builtin; go_must (refine wpList_appB1k w7 rfl (.tmp 135) (.tmp 136) 30 rfl Ybzm.underlying30 Ybzm.info5 w.heap.size _ (Y ++ l7) (by rfl) HD7.out.ownb 45 _ rfl (by simp) (by have := HXL.out; have := HYL.out; have := HL7.out; simp; omega) (Nat.le_trans HD7.out.base HD7.out.size) ?_); intro vc wc hownc hbc hsc; have HDc := hid (HD7.out.bytes hownc hbc hsc); have HKTc := hid (hsc _ _ _ _ HKT7.out (by decide)); have HKIc := hid (hsc _ _ _ _ HKI7.out (by decide)); have HORc : Hid (OwnR wc (wA.heap.size + 2) (.slice aoR RS.length cpR) RS) := row_stay HOR7.out hsc (by decide); have zc3 := cell_block HKTc.out 3; have yc4 := cell_block HKIc.out 4; simp only [List.getElem?_toArray, List.getElem?_cons_zero, List.getElem?_cons_succ] at zc3 yc4; clear hownc)
                            refine (dmember_any w.heap.size _ ((Y ++ l7) ++ [45]) lo0 esc _ HDc.out.ownb (Nat.le_trans HDc.out.base HDc.out.size) (by have := HXL.out; have := HYL.out; have := HL7.out; simp; omega)).mono ?_
                            rintro e wd ⟨vd, ld, rfl, hownd, hspd, hbd, hsd⟩
                            have HDd := hid (HDc.out.bytes hownd hbd hsd)
                            have HKTd := hid (hsd _ _ _ _ HKTc.out (by decide))
                            have HKId := hid (hsd _ _ _ _ HKIc.out (by decide))
                            have HORd : Hid (OwnR wd (wA.heap.size + 2) (.slice aoR RS.length cpR) RS) := row_stay HORc.out hsd (by decide)
                            have zd3 := cell_block HKTd.out 3
                            simp only [List.getElem?_toArray, List.getElem?_cons_zero, List.getElem?_cons_succ] at zd3
                            have HSPd := hid hspd
                            have HLd := hid (spelt_len hspd)
                            have hbRd : (wA.heap.size + 2) ≤ wd.heap.size := by have := block_lt (cell_block HKTd.out 0); exact this
                            clear hownd hspd hbd hsd
                            go_wp2_with (at_builtin; go_must (refine wpList_appR wd rfl (.tmp 144) (.tmp 148) 22 rfl Ybzm.underlying22 Ybzm.infoRange (wA.heap.size + 2) _ RS (by rfl) HORd.out hi0 lo0 _ rfl (by simp) (by rw [HRL.out]; omega) hbRd ?_); intro ao8 cp8 w8 hown8 hb8 hg8; have HD8 := hid (HDd.out.ranges hb8 (by omega) (by omega) (Stay.of_grown HORd.out hg8)); have HKT8 := hid ((hb8.block (wA.heap.size + 1) (by omega)).trans HKTd.out); have HKI8 := hid ((hb8.block wA.heap.size (by omega)).trans HKId.out); have z83 := cell_block HKT8.out 3; have f83 := frozen_block HKT8.out 3; simp only [List.getElem?_toArray, List.getElem?_cons_zero, List.getElem?_cons_succ] at z83; have HO8 := hid hown8; clear hown8 hg8 hb8)
                            have HDB := hid (HD8.out.set HKT8.out (by omega) (by omega) 3 (.slice ao8 (RS.length + 1) cp8))
                            have HKTB := hid (show (w8.setCell ⟨(wA.heap.size + 1), 3, none⟩ (.slice ao8 (RS.length + 1) cp8)).heap[(wA.heap.size + 1)]? = some (.cells #[.int .i64 3, .int .u8 0, .bool true, .slice ao8 (RS.length + 1) cp8] 26 (0, 0)) from setCell_block HKT8.out 3 _)
                            have HKIB := hid (show (w8.setCell ⟨(wA.heap.size + 1), 3, none⟩ (.slice ao8 (RS.length + 1) cp8)).heap[wA.heap.size]? = _ from (setCell_other (by omega) 3 _).trans HKI8.out)
                            have HORB := hid (show OwnR (w8.setCell ⟨(wA.heap.size + 1), 3, none⟩ (.slice ao8 (RS.length + 1) cp8)) (wA.heap.size + 2) (.slice ao8 (RS.length + 1) cp8) (RS ++ [(hi0, lo0)]) from ownsRow_setCell_below HO8.out (by simp) _)
                            have HBN : Hid (RS ++ [(hi0, lo0)] = bnds (its ++ [(hi0, lo0, l7 ++ 45 :: ld)])) := by rw [Hid, HRS.out]; simp [bnds]
                            rw [HBN.out] at HORB
                            have HTX : Hid (((Y ++ l7) ++ [45]) ++ ld = X ++ ([91] ++ bangs true ++ txts (its ++ [(hi0, lo0, l7 ++ 45 :: ld)]))) := by rw [Hid, HY.out]; simp [txts]
                            rw [HTX.out] at HDB
                            have HFI : Hid (∀ it ∈ its ++ [(hi0, lo0, l7 ++ 45 :: ld)], ItemTxt it.1 it.2.1 it.2.2) := by
                              intro it hit
                              rcases List.mem_append.1 hit with h | h
                              · exact HIT.out it h
                              · rw [List.mem_singleton] at h; subst h; exact .inr ⟨l7, ld, HSP7.out, HSPd.out, rfl, by simp only; omega⟩
                            go_roundg (rs.length - (j + 1))
                            case rel => exact ⟨j + 1, its ++ [(hi0, lo0, l7 ++ 45 :: ld)], _, rfl, by omega, by go_num, by simp [HIL.out], HFI.out, by have := HTXL.out; have := HL7.out; have := HLd.out; rw [txts_snoc]; simp; omega, HDB.out, HKIB.out, HKTB.out, HORB.out⟩
                            case measure => omega

                          · have HDa := hid (HD.out.alloc (.cells #[.int .u8 lo0.toNat, .int .u8 hi0.toNat, .bool false] 58))
                            have HKTa := hid (block_alloc HKT.out (.cells #[.int .u8 lo0.toNat, .int .u8 hi0.toNat, .bool false] 58))
                            have HKIa := hid (block_alloc HKI.out (.cells #[.int .u8 lo0.toNat, .int .u8 hi0.toNat, .bool false] 58))
                            have HKRa := hid (block_new wr #[.int .u8 lo0.toNat, .int .u8 hi0.toNat, .bool false] 58)
                            have HORa := hid (HOR.out.alloc (.cells #[.int .u8 lo0.toNat, .int .u8 hi0.toNat, .bool false] 58))
                            have ya4 := cell_block HKIa.out 4
                            simp only [List.getElem?_toArray, List.getElem?_cons_zero, List.getElem?_cons_succ] at ya4
                            go_wp2_with fail
                            refine (dmember_any w.heap.size _ Y lo0 esc _ HDa.out.ownb (Nat.le_trans HDa.out.base HDa.out.size) (by have := HXL.out; have := HYL.out; omega)).mono ?_
                            rintro e w7 ⟨v7, l7, rfl, hown7, hsp7, hb7, hs7⟩
                            have HD7 := hid (HDa.out.bytes hown7 hb7 hs7)
                            have HKT7 := hid (hs7 _ _ _ _ HKTa.out (by decide))
                            have HKI7 := hid (hs7 _ _ _ _ HKIa.out (by decide))
                            have HKR7 := hid (hs7 _ _ _ _ HKRa.out (by decide))
                            have HOR7 : Hid (OwnR w7 (wA.heap.size + 2) (.slice aoR RS.length cpR) RS) := row_stay HORa.out hs7 (by decide)
                            have r72 := cell_block HKR7.out 2
                            have z73 := cell_block HKT7.out 3
                            have y74 := cell_block HKI7.out 4
                            simp only [List.getElem?_toArray, List.getElem?_cons_zero, List.getElem?_cons_succ] at r72 z73 y74
                            have HSP7 := hid hsp7
                            have HL7 := hid (spelt_len hsp7)
                            have hbR7 : (wA.heap.size + 2) ≤ w7.heap.size := by have := block_lt (cell_block HKT7.out 0); exact this
                            clear hown7 hsp7 hb7 hs7 HDa HKTa HKIa HKRa HORa
                            go_wp2_with (at_builtin; go_must (refine wpList_appB1k w7 rfl (.tmp 135) (.tmp 136) 30 rfl Ybzm.underlying30 Ybzm.info5 w.heap.size _ (Y ++ l7) (by rfl) HD7.out.ownb 45 _ rfl (by simp) (by have := HXL.out; have := HYL.out; have := HL7.out; simp; omega) (Nat.le_trans HD7.out.base HD7.out.size) ?_); intro vc wc hownc hbc hsc; have HDc := hid (HD7.out.bytes hownc hbc hsc); have HKTc := hid (hsc _ _ _ _ HKT7.out (by decide)); have HKIc := hid (hsc _ _ _ _ HKI7.out (by decide)); have HORc : Hid (OwnR wc (wA.heap.size + 2) (.slice aoR RS.length cpR) RS) := row_stay HOR7.out hsc (by decide); have zc3 := cell_block HKTc.out 3; have yc4 := cell_block HKIc.out 4; simp only [List.getElem?_toArray, List.getElem?_cons_zero, List.getElem?_cons_succ] at zc3 yc4; clear hownc)
                            refine (dmember_any w.heap.size _ ((Y ++ l7) ++ [45]) hi0 esc _ HDc.out.ownb (Nat.le_trans HDc.out.base HDc.out.size) (by have := HXL.out; have := HYL.out; have := HL7.out; simp; omega)).mono ?_
                            rintro e wd ⟨vd, ld, rfl, hownd, hspd, hbd, hsd⟩
                            have HDd := hid (HDc.out.bytes hownd hbd hsd)
                            have HKTd := hid (hsd _ _ _ _ HKTc.out (by decide))
                            have HKId := hid (hsd _ _ _ _ HKIc.out (by decide))
                            have HORd : Hid (OwnR wd (wA.heap.size + 2) (.slice aoR RS.length cpR) RS) := row_stay HORc.out hsd (by decide)
                            have zd3 := cell_block HKTd.out 3
                            simp only [List.getElem?_toArray, List.getElem?_cons_zero, List.getElem?_cons_succ] at zd3
                            have HSPd := hid hspd
                            have HLd := hid (spelt_len hspd)
                            have hbRd : (wA.heap.size + 2) ≤ wd.heap.size := by have := block_lt (cell_block HKTd.out 0); exact this
                            clear hownd hspd hbd hsd
                            go_wp2_with (at_builtin; go_must (refine wpList_appR wd rfl (.tmp 144) (.tmp 148) 22 rfl Ybzm.underlying22 Ybzm.infoRange (wA.heap.size + 2) _ RS (by rfl) HORd.out lo0 hi0 _ rfl (by simp) (by rw [HRL.out]; omega) hbRd ?_); intro ao8 cp8 w8 hown8 hb8 hg8; have HD8 := hid (HDd.out.ranges hb8 (by omega) (by omega) (Stay.of_grown HORd.out hg8)); have HKT8 := hid ((hb8.block (wA.heap.size + 1) (by omega)).trans HKTd.out); have HKI8 := hid ((hb8.block wA.heap.size (by omega)).trans HKId.out); have z83 := cell_block HKT8.out 3; have f83 := frozen_block HKT8.out 3; simp only [List.getElem?_toArray, List.getElem?_cons_zero, List.getElem?_cons_succ] at z83; have HO8 := hid hown8; clear hown8 hg8 hb8)
                            have HDB := hid (HD8.out.set HKT8.out (by omega) (by omega) 3 (.slice ao8 (RS.length + 1) cp8))
                            have HKTB := hid (show (w8.setCell ⟨(wA.heap.size + 1), 3, none⟩ (.slice ao8 (RS.length + 1) cp8)).heap[(wA.heap.size + 1)]? = some (.cells #[.int .i64 3, .int .u8 0, .bool true, .slice ao8 (RS.length + 1) cp8] 26 (0, 0)) from setCell_block HKT8.out 3 _)
                            have HKIB := hid (show (w8.setCell ⟨(wA.heap.size + 1), 3, none⟩ (.slice ao8 (RS.length + 1) cp8)).heap[wA.heap.size]? = _ from (setCell_other (by omega) 3 _).trans HKI8.out)
                            have HORB := hid (show OwnR (w8.setCell ⟨(wA.heap.size + 1), 3, none⟩ (.slice ao8 (RS.length + 1) cp8)) (wA.heap.size + 2) (.slice ao8 (RS.length + 1) cp8) (RS ++ [(lo0, hi0)]) from ownsRow_setCell_below HO8.out (by simp) _)
                            have HBN : Hid (RS ++ [(lo0, hi0)] = bnds (its ++ [(lo0, hi0, l7 ++ 45 :: ld)])) := by rw [Hid, HRS.out]; simp [bnds]
                            rw [HBN.out] at HORB
                            have HTX : Hid (((Y ++ l7) ++ [45]) ++ ld = X ++ ([91] ++ bangs true ++ txts (its ++ [(lo0, hi0, l7 ++ 45 :: ld)]))) := by rw [Hid, HY.out]; simp [txts]
                            rw [HTX.out] at HDB
                            have HFI : Hid (∀ it ∈ its ++ [(lo0, hi0, l7 ++ 45 :: ld)], ItemTxt it.1 it.2.1 it.2.2) := by
                              intro it hit
                              rcases List.mem_append.1 hit with h | h
                              · exact HIT.out it h
                              · rw [List.mem_singleton] at h; subst h; exact .inr ⟨l7, ld, HSP7.out, HSPd.out, rfl, by simp only; omega⟩
                            go_roundg (rs.length - (j + 1))
                            case rel => exact ⟨j + 1, its ++ [(lo0, hi0, l7 ++ 45 :: ld)], _, rfl, by omega, by go_num, by simp [HIL.out], HFI.out, by have := HTXL.out; have := HL7.out; have := HLd.out; rw [txts_snoc]; simp; omega, HDB.out, HKIB.out, HKTB.out, HORB.out⟩
                            case measure => omega


                      · go_wp2_with (first
                          | (at_builtin; refine wpList_appT we rfl (.tmp 154) (.tmp 156) 31 rfl Ybzm.underlying31 Ybzm.infoToken w.heap.size _ TS (by rfl) HDe.out.ownt ⟨3, 0, true, RS, aoR, cpR⟩ _ rfl (by simp) (by have := HTL.out; omega) (Nat.le_trans HDe.out.base HDe.out.size) ?_; intro ao9 cp9 w9 hown9 hb9 hg9; have HO9 := hid hown9; have HG9 := hid hg9; clear hown9 hg9)
                          | (at_builtin; refine wpList_appB1k wr rfl (.tmp 151) (.tmp 152) 30 rfl Ybzm.underlying30 Ybzm.info5 w.heap.size _ (Y) (by rfl) HD.out.ownb 93 _ rfl (by simp) (by have := HXL.out; have := HYL.out; omega) (Nat.le_trans HD.out.base HD.out.size) ?_; intro ve we howne hbe hse; have HDe := hid (HD.out.bytes howne hbe hse); have HKTe := hid (hse _ _ _ _ HKT.out (by decide)); have HORe : Hid (OwnR we (wA.heap.size + 2) (.slice aoR RS.length cpR) RS) := row_stay HOR.out hse (by decide); have x0 := cell_block HKTe.out 0; have x1 := cell_block HKTe.out 1; have x2 := cell_block HKTe.out 2; have x3 := cell_block HKTe.out 3; simp only [List.getElem?_toArray, List.getElem?_cons_zero, List.getElem?_cons_succ] at x0 x1 x2 x3; clear howne))
                        have HNE : Hid (its ≠ []) := fun h => by have := HIL.out; rw [h] at this; simp at this
                        have HSAY := hid (said_class HSA.out true HIT.out HNE.out)
                        rw [← HRS.out] at HSAY
                        have HTX : Hid (Y ++ [93] = X ++ ([91] ++ bangs true ++ txts its ++ [93])) := by rw [Hid, HY.out]; simp
                        rw [← HTX.out] at HSAY
                        go_roundg (k - (q + 1))
                        case rel => exact ⟨q + 1, _, _, rfl, by omega, by go_num, by have := HXL.out; have := HYL.out; simp; omega, by simp [HTL.out], by rw [List.map_append]; exact HSAY.out, DS.step HDS.out HDe.out (clean_own HORe.out 0 true).held HG9.out hb9 HO9.out⟩
                        case measure => omega

        · have hqq : q = k := by omega
          have HTK := hid (show TS.length = k by rw [HTL.out, hqq])
          have hconv := OwnB.conv (P := Ybzm.prog) HDS.out.ownb 30 Ybzm.underlying30 Ybzm.underlying5 9 Ybzm.underlying9
          obtain ⟨ao9, cp9, hv9, _⟩ := HDS.out.ownt.shape
          rw [HTK.out] at hv9
          subst hv9
          have HTA := hid (HDS.out.ownt.tokensAt (fun t ht => (HDS.out.held t ht).ok))
          have hXs : X.length ≤ 600000 := by have := HXL.out; omega
          have HXS := hid hXs
          clear hqq hXs
          go_wp2_with fail
          refine (parse_any (strOf X) (by rw [strOf_size]; have := HXS.out; omega) _).mono ?_
          rw [strOf_data]
          rintro e w8 (⟨hbad, rfl, _⟩ | ⟨BS, ao, cp, hpar, rfl, _, hPB⟩)
          · rw [HSA.out.parse] at hbad; cases hbad
          have hBN : BS.map Tk.pk = TS.map Tk.pk := by rw [HSA.out.parse] at hpar; exact (Option.some.inj hpar).symm
          have hbl : BS.length = k := by have := congrArg List.length hBN; simp only [List.length_map] at this; rw [this]; exact HTK.out
          have HB8 := hid (hPB.own.tokensAt (fun t ht => (hPB.fine t ht).held.ok))
          have HT8 := hid (HTA.out.below hPB.below)
          have hb8 := hb.trans (hPB.below.mono hb.size)
          have HBN := hid hBN
          have HBL := hid hbl
          rw [hbl]
          clear hBN hbl hpar hPB hconv
          go_wp2_with fail
          refine (dsame_same ao ao9 k cp cp9 BS TS (by omega) HBL.out HTK.out HBN.out _ HB8.out HT8.out).mono ?_
          rintro e w9 ⟨rfl, hb9⟩
          go_wp2_with fail
          go_ret
          exact ⟨rfl, hb8.trans (hb9.mono hb8.size)⟩
end Go.Proofs.Ymbrbz

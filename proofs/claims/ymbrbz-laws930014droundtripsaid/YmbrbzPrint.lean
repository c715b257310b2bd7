import Derived.Test.YmbrbzTokRow
import Derived.Test.YmbrbzStay
import Derived.Test.YmbrbzAid
import Derived.Deep.LoopGhost
import Derived.WalkKit
import Derived.WalkSpells
import Derived.WalkLawsBesides
namespace Go.Proofs.Ymbrbz
open Go.RowKit

def okR (r : UInt8 × UInt8) : Bool := decide (r.1.toNat ≤ r.2.toNat)
def prR (r : UInt8 × UInt8) : List UInt8 := esc r.1 ++ (if r.1.toNat < r.2.toNat then 45 :: esc r.2 else [])
def prRs (rs : List (UInt8 × UInt8)) : List UInt8 := rs.flatMap prR
def bangs (neg : Bool) : List UInt8 := if neg then [33] else []
/-- Can the token be printed, and what is its text? -/
def okT (t : Tk) : Bool := if t.kind = 3 then (!t.rs.isEmpty && t.rs.all okR) else decide (t.kind = 0 ∨ t.kind = 1 ∨ t.kind = 2)
def prT (t : Tk) : List UInt8 := if t.kind = 0 then esc t.char else if t.kind = 1 then [63] else if t.kind = 2 then [42] else [91] ++ bangs t.neg ++ prRs t.rs ++ [93]
def prA (ts : List Tk) : List UInt8 := ts.flatMap prT

theorem prR_len (r : UInt8 × UInt8) : (prR r).length ≤ 5 := by
  have h1 := esc_length r.1
  have h2 := esc_length r.2
  unfold prR
  split <;> simp <;> omega
theorem prRs_len (rs : List (UInt8 × UInt8)) : (prRs rs).length ≤ 5 * rs.length := by
  induction rs with
  | nil => simp [prRs]
  | cons r t ih =>
    have := prR_len r
    simp only [prRs, List.flatMap_cons, List.length_append, List.length_cons] at *
    omega
theorem prT_len (t : Tk) (h : t.rs.length ≤ 1025) : (prT t).length ≤ 5200 := by
  have h1 := esc_length t.char
  have h2 := prRs_len t.rs
  have h3 : (bangs t.neg).length ≤ 1 := by unfold bangs; split <;> simp
  unfold prT
  split
  · omega
  · split
    · simp
    · split
      · simp
      · simp only [List.length_append, List.length_cons, List.length_nil]; omega
theorem prA_len (ts : List Tk) (h : ∀ t ∈ ts, t.rs.length ≤ 1025) : (prA ts).length ≤ 5200 * ts.length := by
  induction ts with
  | nil => simp [prA]
  | cons t l ih =>
    have h1 := prT_len t (h t (by simp))
    have h2 := ih (fun x hx => h x (by simp [hx]))
    simp only [prA, List.flatMap_cons, List.length_append, List.length_cons] at *
    omega

theorem getD_mem_tk {ts : List Tk} {k : Nat} (hk : k < ts.length) : ts.getD k tk0 ∈ ts := by
  rw [List.getD_eq_getElem?_getD, List.getElem?_eq_getElem hk]; exact List.getElem_mem hk
theorem take_tk (ts : List Tk) (k : Nat) (hk : k < ts.length) : ts.take (k + 1) = ts.take k ++ [ts.getD k tk0] := by
  rw [List.take_succ_eq_append_getElem hk]
  simp [List.getD_eq_getElem?_getD, List.getElem?_eq_getElem hk]
theorem take_rg (rs : List (UInt8 × UInt8)) (k : Nat) (hk : k < rs.length) : rs.take (k + 1) = rs.take k ++ [rs.getD k (0, 0)] := by
  rw [List.take_succ_eq_append_getElem hk]
  simp [List.getD_eq_getElem?_getD, List.getElem?_eq_getElem hk]
theorem all_bad {ts : List Tk} {k : Nat} (hk : k < ts.length) (h : okT (ts.getD k tk0) = false) : ts.all okT = false := by
  rw [List.all_eq_false]
  exact ⟨_, getD_mem_tk hk, by rw [h]; exact Bool.false_ne_true⟩
theorem rs_bad {rs : List (UInt8 × UInt8)} {k : Nat} (hk : k < rs.length) (h : okR (rs.getD k (0, 0)) = false) : rs.all okR = false := by
  rw [List.all_eq_false]
  refine ⟨rs.getD k (0, 0), ?_, by rw [h]; exact Bool.false_ne_true⟩
  rw [List.getD_eq_getElem?_getD, List.getElem?_eq_getElem hk]; exact List.getElem_mem hk

/-- What Print leaves. -/
def PrintPost (ts : List Tk) (w : World) (e : Ending) (w' : World) : Prop :=
  Below w.heap.size w w' ∧ ((ts.all okT = true ∧ e = .returned (.tuple #[.string (strOf (prA ts)), .bool true])) ∨ (ts.all okT = false ∧ e = .returned (.tuple #[.string ⟨#[]⟩, .bool false])))

set_option maxHeartbeats 8000000 in
set_option maxRecDepth 4000 in
theorem print_any (a : Option Addr) (n cap : Nat) (ts : List Tk) (hn : n ≤ 1024) (hl : ts.length = n) (hrl : ∀ t ∈ ts, t.rs.length ≤ 1025) (w : World) (hr : TokensAt w a ts) :
    Calls Ybzm.prog 20 #[.slice a n cap] w (PrintPost ts w) := by
  have HR := hid hr
  have HL := hid hl
  have HRL := hid hrl
  have finBad : Hid (∀ (W : World) (k : Nat), k < n → okT (ts.getD k tk0) = false → Below w.heap.size w W → PrintPost ts w (.returned (.tuple #[.string ⟨#[]⟩, .bool false])) W) := fun W k hk h hb => ⟨hb, .inr ⟨all_bad (by rw [hl]; exact hk) h, rfl⟩⟩
  have finOk : Hid (∀ W : World, ts.all okT = true → Below w.heap.size w W → PrintPost ts w (.returned (.tuple #[.string (strOf (prA ts)), .bool true])) W) := fun W h hb => ⟨hb, .inl ⟨h, rfl⟩⟩
  obtain ⟨P, hP⟩ : ∃ P, P = PrintPost ts w := ⟨_, rfl⟩
  rw [← hP] at finBad finOk ⊢
  clear hr hl hrl hP
  go_enter Ybzm.func20, Ybzm.ntmps20
  go_wp2_with fail
  go_loopg [4, 11] n (fun g v i wr => ∃ k : Nat, g = n - k ∧ k ≤ n ∧ i = .int .i64 k ∧ (ts.take k).all okT = true ∧ OwnB wr w.heap.size v (prA (ts.take k)) ∧ Below w.heap.size w wr)
  case atStart => exact ⟨0, rfl, Nat.zero_le _, rfl, rfl, OwnB.nil _ _, Below.refl _ _⟩
  case round =>
    obtain ⟨k, rfl, hk, rfl, hall, hown, hb⟩ := hrel
    have HA := hid hall
    have hol : (prA (ts.take k)).length ≤ 6000000 := by
      have h1 := prA_len (ts.take k) (fun t h => HRL.out t (List.mem_of_mem_take h))
      have h2 := List.length_take_le k ts
      omega
    by_cases hkn : k < n
    · obtain ⟨b, off, rfl, ta, tr⟩ := HR.out k (by rw [HL.out]; exact hkn)
      have tw := ta.below hb ta.lt
      have hts := take_tk ts k (by rw [HL.out]; exact hkn)
      have hmem : (ts.getD k tk0).rs.length ≤ 1025 := HRL.out _ (getD_mem_tk (by rw [HL.out]; exact hkn))
      have HFB : Hid (∀ W : World, okT (ts.getD k tk0) = false → Below w.heap.size w W → P (.returned (.tuple #[.string ⟨#[]⟩, .bool false])) W) := fun W h hb => finBad.out W k hkn h hb
      generalize ts.getD k tk0 = t at tw tr hts hmem HFB
      obtain ⟨X, hX⟩ : ∃ X, X = prA (ts.take k) := ⟨_, rfl⟩
      rw [← hX] at hown hol
      have HNX : Hid (∀ Y, okT t = true → Y = X ++ prT t → (ts.take (k + 1)).all okT = true ∧ Y = prA (ts.take (k + 1))) := by
        intro Y h1 h2
        rw [hts, List.all_append, HA.out]
        refine ⟨by simp [h1], ?_⟩
        rw [h2, hX]
        simp [prA]
      have HO := hid hown
      have HOL := hid hol
      have hra : RangesAt w t.ra t.rs := tr.at_
      have HRA := hid hra
      have HME := hid hmem
      have c0 := tw.c0
      have c1 := tw.c1
      have c2 := tw.c2
      have c3 := tw.c3
      have hbt := hb.alloc hb.size (.cells #[.int .i64 t.kind, .int .u8 t.char.toNat, .bool t.neg, .slice t.ra t.rs.length t.cap] 26)
      have HOT := hid (HO.out.alloc (.cells #[.int .i64 t.kind, .int .u8 t.char.toNat, .bool t.neg, .slice t.ra t.rs.length t.cap] 26))
      clear ta tr tw hts hown hol hX hmem hra hall HA HO
      by_cases h0 : t.kind = 0
      · have hok : okT t = true := by simp [okT, h0]
        have hpr : prT t = esc t.char := by simp [prT, h0]
        have HN2 := hid (HNX.out _ hok (by rw [hpr]))
        rw [h0] at c0 HOT hbt
        clear hok hpr h0 HNX
        go_wp2_with fail
        refine (appendChar_any w.heap.size _ X t.char _ HOT.out hbt.size (by have := HOL.out; omega)).mono ?_
        rintro e w1 ⟨v1, rfl, hown1, hb1⟩
        rw [HN2.out.2] at hown1
        have HO1 := hid hown1
        clear hown1
        go_wp2_with fail
        go_roundg (n - (k + 1))
        case rel => exact ⟨k + 1, rfl, by omega, by go_num, HN2.out.1, HO1.out, hbt.trans hb1⟩
        case measure => omega
      · by_cases h1 : t.kind = 1
        · have hok : okT t = true := by simp [okT, h1]
          have hpr : prT t = [63] := by simp [prT, h1]
          have HN2 := hid (HNX.out _ hok (by rw [hpr]))
          rw [h1] at c0 HOT hbt
          clear hok hpr h0 h1 HNX
          go_wp2_with (at_builtin; go_must (refine wpList_appB1k _ rfl (.tmp 25) (.tmp 26) 30 rfl Ybzm.underlying30 Ybzm.info5 w.heap.size _ (X) (by rfl) HOT.out 63 _ rfl (by simp) (by have := HOL.out; omega) hbt.size ?_); intro v1 w1 hown1 hb1 _; have HO1 := hid hown1; clear hown1)
          rw [HN2.out.2] at HO1
          go_roundg (n - (k + 1))
          case rel => exact ⟨k + 1, rfl, by omega, by go_num, HN2.out.1, HO1.out, hbt.trans hb1⟩
          case measure => omega
        · by_cases h2 : t.kind = 2
          · have hok : okT t = true := by simp [okT, h2]
            have hpr : prT t = [42] := by simp [prT, h2]
            have HN2 := hid (HNX.out _ hok (by rw [hpr]))
            rw [h2] at c0 HOT hbt
            clear hok hpr h0 h1 h2 HNX
            go_wp2_with (at_builtin; go_must (refine wpList_appB1k _ rfl (.tmp 30) (.tmp 31) 30 rfl Ybzm.underlying30 Ybzm.info5 w.heap.size _ (X) (by rfl) HOT.out 42 _ rfl (by simp) (by have := HOL.out; omega) hbt.size ?_); intro v1 w1 hown1 hb1 _; have HO1 := hid hown1; clear hown1)
            rw [HN2.out.2] at HO1
            go_roundg (n - (k + 1))
            case rel => exact ⟨k + 1, rfl, by omega, by go_num, HN2.out.1, HO1.out, hbt.trans hb1⟩
            case measure => omega
          · by_cases h3 : t.kind = 3
            · have hpr : prT t = [91] ++ bangs t.neg ++ prRs t.rs ++ [93] := by simp [prT, h3]
              have hokv : okT t = (!t.rs.isEmpty && t.rs.all okR) := by simp [okT, h3]
              have HPR := hid hpr
              have HOK := hid hokv
              rw [h3] at c0 HOT hbt
              obtain ⟨kind, ch, neg, rs, ra, cp⟩ := t
              simp only at *
              clear hpr hokv h0 h1 h2 h3
              by_cases hr0 : rs = []
              · subst hr0
                have HF : Hid (okT ⟨kind, ch, neg, [], ra, cp⟩ = false) := HOK.out
                go_wp2_with fail
                first | exact HFB.out _ HF.out hbt | (go_ret; exact HFB.out _ HF.out hbt)
              · have hpos : 0 < rs.length := List.length_pos_iff.2 hr0
                have hnz : ((rs.length : Int) == 0) = false := beq_eq_false_iff_ne.2 (by omega)
                have HPOS := hid hr0
                clear hr0
                cases neg
                · go_wp2_with (at_builtin; go_must (refine wpList_appB1k _ rfl (.tmp 39) (.tmp 40) 30 rfl Ybzm.underlying30 Ybzm.info5 w.heap.size _ X (by rfl) HOT.out 91 _ rfl (by simp) (by have := HOL.out; omega) hbt.size ?_); intro v1 w1 hown1 hb1 hst1; have HO1 := hid hown1; have hbw1 := hbt.trans hb1; have B1 := hst1 _ _ _ _ (block_new wr #[.int .i64 3, .int .u8 ch.toNat, .bool false, .slice ra rs.length cp] 26) (by decide); have HB1 := hid B1; have t2 := cell_block B1 2; have t3 := cell_block B1 3; simp only [List.getElem?_toArray, List.getElem?_cons_zero, List.getElem?_cons_succ] at t2 t3; clear hown1 B1)
                  have HO3 : Hid (OwnB w1 w.heap.size v1 (X ++ [91] ++ bangs false ++ prRs (rs.take 0))) := hid (by simpa [prRs, bangs] using HO1.out)
                  have hbw := hbw1
                  clear HO1
                  go_loopg [4, 50] rs.length (fun g v i wr => ∃ j : Nat, g = rs.length - j ∧ j ≤ rs.length ∧ i = .int .i64 j ∧ (rs.take j).all okR = true ∧ OwnB wr w.heap.size v (X ++ [91] ++ bangs false ++ prRs (rs.take j)) ∧ Below w.heap.size w wr)
                  case atStart => exact ⟨0, rfl, Nat.zero_le _, rfl, rfl, HO3.out, hbw⟩
                  case round =>
                    clear HO3 hbw
                    obtain ⟨j, rfl, hj, rfl, hall, hown, hb⟩ := hrel
                    have HAL := hid hall
                    have hrm : rs.length ≤ 1025 := HME.out
                    have hlen : (X ++ [91] ++ bangs false ++ prRs (rs.take j)).length ≤ 7000000 := by
                      have h1 := HOL.out
                      have h2 := prRs_len (rs.take j)
                      have h3 := List.length_take_le j rs
                      have h4 := HME.out
                      have h5 : (bangs false).length ≤ 1 := by simp [bangs]
                      simp only [List.length_append, List.length_cons, List.length_nil]
                      omega
                    by_cases hjm : j < rs.length
                    · obtain ⟨b', off', rfl, g0, g1⟩ := HRA.out j hjm
                      have d0 := (hb.cell (p := ⟨b', off' + j * 2, none⟩) (block_lt g0)).trans g0
                      have d1 := (hb.cell (p := ⟨b', off' + j * 2 + 1, none⟩) (block_lt g1)).trans g1
                      have htr := take_rg rs j hjm
                      have HBADR : Hid (okR (rs.getD j (0, 0)) = false → okT ⟨kind, ch, false, rs, some ⟨b', off', none⟩, cp⟩ = false) := fun h => by rw [HOK.out, rs_bad hjm h]; simp
                      generalize rs.getD j (0, 0) = r at d0 d1 htr HBADR
                      obtain ⟨lo, hi⟩ := r
                      simp only at d0 d1
                      obtain ⟨Y, hY⟩ : ∃ Y, Y = X ++ [91] ++ bangs false ++ prRs (rs.take j) := ⟨_, rfl⟩
                      rw [← hY] at hown hlen
                      have HNR : Hid (okR (lo, hi) = true → (rs.take (j + 1)).all okR = true ∧ X ++ [91] ++ bangs false ++ prRs (rs.take (j + 1)) = Y ++ prR (lo, hi)) := by
                        intro h
                        rw [htr, List.all_append, HAL.out]
                        refine ⟨by simp [h], ?_⟩
                        rw [hY]
                        simp [prRs]
                      have HLEN := hid hlen
                      have hba := hb.alloc hb.size (.cells #[.int .u8 lo.toNat, .int .u8 hi.toNat] 29)
                      have HOA := hid (hown.alloc (.cells #[.int .u8 lo.toNat, .int .u8 hi.toNat] 29))
                      have HBN := hid (block_new wr #[.int .u8 lo.toNat, .int .u8 hi.toNat] 29)
                      clear g0 g1 htr hY hown hlen hall HAL
                      by_cases hlh : hi.toNat < lo.toNat
                      · have HF := hid (HBADR.out (by simp [okR]; omega))
                        go_wp2_with fail
                        first | exact HFB.out _ HF.out hba | (go_ret; exact HFB.out _ HF.out hba)
                      · have HNR2 := hid (HNR.out (by simp [okR]; omega))
                        clear HNR HBADR
                        by_cases hlt : lo.toNat < hi.toNat
                        · have hpr : prR (lo, hi) = esc lo ++ [45] ++ esc hi := by simp [prR, hlt]
                          have HPR2 := hid hpr
                          have q0 : decide (hi.toNat < lo.toNat) = false := decide_eq_false hlh
                          clear hpr
                          go_wp2_with fail
                          refine (appendChar_keep w.heap.size _ Y lo _ HOA.out hba.size (by have := HLEN.out; omega)).mono ?_
                          rintro e w5 ⟨v5, rfl, hown5, hb5, hst5⟩
                          have hel := esc_length lo
                          have HEL := hid hel
                          have B5 := hst5 _ _ _ _ HBN.out (by decide)
                          have HB5 := hid B5
                          have HO5 := hid hown5
                          have t0 := cell_block B5 0
                          have t1 := cell_block B5 1
                          simp only [List.getElem?_toArray, List.getElem?_cons_zero, List.getElem?_cons_succ] at t0 t1
                          have hb6 := hba.trans hb5
                          clear hown5 B5 hel
                          go_wp2_with (at_builtin; go_must (refine wpList_appB1k w5 rfl (.tmp 68) (.tmp 69) 30 rfl Ybzm.underlying30 Ybzm.info5 w.heap.size _ (Y ++ esc lo) (by rfl) HO5.out 45 _ rfl (by simp) (by rw [List.length_append]; have := HLEN.out; have := HEL.out; omega) hb6.size ?_); intro v7 w7 hown7 hb7 hst7; have HO7 := hid hown7; have B7 := hst7 _ _ _ _ HB5.out (by decide); have u0 := cell_block B7 0; have u1 := cell_block B7 1; simp only [List.getElem?_toArray, List.getElem?_cons_zero, List.getElem?_cons_succ] at u0 u1; clear hown7 B7)
                          have hb8 := hb6.trans hb7
                          refine (appendChar_any w.heap.size _ _ hi _ HO7.out hb8.size (by rw [List.length_append, List.length_append]; have := HLEN.out; have := HEL.out; simp only [List.length_cons, List.length_nil]; omega)).mono ?_
                          rintro e w9 ⟨v9, rfl, hown9, hb9⟩
                          have HO9 : Hid (OwnB w9 w.heap.size v9 (X ++ [91] ++ bangs false ++ prRs (rs.take (j + 1)))) := hid (by rw [HNR2.out.2, HPR2.out]; simpa using hown9)
                          have hb10 := hb8.trans hb9
                          clear hown9 u0 u1 t0 t1
                          go_wp2_with fail
                          go_roundg (rs.length - (j + 1))
                          case rel => exact ⟨j + 1, rfl, by omega, by go_num, HNR2.out.1, HO9.out, hb10⟩
                          case measure => omega
                        · have hpr : prR (lo, hi) = esc lo := by simp [prR, hlt]
                          have HPR2 := hid hpr
                          have q0 : decide (hi.toNat < lo.toNat) = false := decide_eq_false hlh
                          have q1 : decide (lo.toNat < hi.toNat) = false := decide_eq_false hlt
                          clear hpr
                          go_wp2_with fail
                          refine (appendChar_keep w.heap.size _ Y lo _ HOA.out hba.size (by have := HLEN.out; omega)).mono ?_
                          rintro e w5 ⟨v5, rfl, hown5, hb5, hst5⟩
                          have B5 := hst5 _ _ _ _ HBN.out (by decide)
                          have t0 := cell_block B5 0
                          have t1 := cell_block B5 1
                          simp only [List.getElem?_toArray, List.getElem?_cons_zero, List.getElem?_cons_succ] at t0 t1
                          have HO9 : Hid (OwnB w5 w.heap.size v5 (X ++ [91] ++ bangs false ++ prRs (rs.take (j + 1)))) := hid (by rw [HNR2.out.2, HPR2.out]; exact hown5)
                          have hb10 := hba.trans hb5
                          clear hown5 B5
                          go_wp2_with fail
                          go_roundg (rs.length - (j + 1))
                          case rel => exact ⟨j + 1, rfl, by omega, by go_num, HNR2.out.1, HO9.out, hb10⟩
                          case measure => omega
                    · have hkk : rs.take j = rs := List.take_of_length_le (by omega)
                      rw [hkk] at hown hall hlen
                      have hok : okT ⟨kind, ch, false, rs, ra, cp⟩ = true := by rw [HOK.out, hall]; simp [HPOS.out]
                      have HN2 := hid (HNX.out (X ++ [91] ++ bangs false ++ prRs rs ++ [93]) hok (by rw [HPR.out]; simp))
                      have HO := hid hown
                      have HLEN := hid hlen
                      clear hown hall hlen hkk hok HAL
                      go_wp2_with (at_builtin; go_must (refine wpList_appB1k wr rfl (.tmp 76) (.tmp 77) 30 rfl Ybzm.underlying30 Ybzm.info5 w.heap.size _ (X ++ [91] ++ bangs false ++ prRs rs) (by rfl) HO.out 93 _ rfl (by simp) (by have := HLEN.out; omega) hb.size ?_); intro v93 w93 hown93 hb93 _; have HO93 := hid hown93; clear hown93)
                      rw [HN2.out.2] at HO93
                      go_roundg (n - (k + 1))
                      case rel => exact ⟨k + 1, rfl, by omega, by go_num, HN2.out.1, HO93.out, hb.trans hb93⟩
                      case measure => omega
                · go_wp2_with (first | (at_builtin; (refine wpList_appB1k w1 rfl (.tmp 44) (.tmp 45) 30 rfl Ybzm.underlying30 Ybzm.info5 w.heap.size _ (X ++ [91]) (by rfl) HO1.out 33 _ rfl (by simp) (by rw [List.length_append]; have := HOL.out; simp only [List.length_cons, List.length_nil]; omega) hbw1.size ?_); intro v2 w2 hown2 hb2 hst2; have HO2 := hid hown2; have hbw2 := hbw1.trans hb2; have B2 := hst2 _ _ _ _ HB1.out (by decide); have s2 := cell_block B2 2; have s3 := cell_block B2 3; simp only [List.getElem?_toArray, List.getElem?_cons_zero, List.getElem?_cons_succ] at s2 s3; clear hown2 B2) | (at_builtin; go_must (refine wpList_appB1k _ rfl (.tmp 39) (.tmp 40) 30 rfl Ybzm.underlying30 Ybzm.info5 w.heap.size _ X (by rfl) HOT.out 91 _ rfl (by simp) (by have := HOL.out; omega) hbt.size ?_); intro v1 w1 hown1 hb1 hst1; have HO1 := hid hown1; have hbw1 := hbt.trans hb1; have B1 := hst1 _ _ _ _ (block_new wr #[.int .i64 3, .int .u8 ch.toNat, .bool true, .slice ra rs.length cp] 26) (by decide); have HB1 := hid B1; have t2 := cell_block B1 2; have t3 := cell_block B1 3; simp only [List.getElem?_toArray, List.getElem?_cons_zero, List.getElem?_cons_succ] at t2 t3; clear hown1 B1))
                  have HO3 : Hid (OwnB w2 w.heap.size v2 (X ++ [91] ++ bangs true ++ prRs (rs.take 0))) := hid (by simpa [prRs, bangs] using HO2.out)
                  have hbw := hbw2
                  clear HO2
                  go_loopg [4, 50] rs.length (fun g v i wr => ∃ j : Nat, g = rs.length - j ∧ j ≤ rs.length ∧ i = .int .i64 j ∧ (rs.take j).all okR = true ∧ OwnB wr w.heap.size v (X ++ [91] ++ bangs true ++ prRs (rs.take j)) ∧ Below w.heap.size w wr)
                  case atStart => exact ⟨0, rfl, Nat.zero_le _, rfl, rfl, HO3.out, hbw⟩
                  case round =>
                    clear HO3 hbw
                    obtain ⟨j, rfl, hj, rfl, hall, hown, hb⟩ := hrel
                    have HAL := hid hall
                    have hrm : rs.length ≤ 1025 := HME.out
                    have hlen : (X ++ [91] ++ bangs true ++ prRs (rs.take j)).length ≤ 7000000 := by
                      have h1 := HOL.out
                      have h2 := prRs_len (rs.take j)
                      have h3 := List.length_take_le j rs
                      have h4 := HME.out
                      have h5 : (bangs true).length ≤ 1 := by simp [bangs]
                      simp only [List.length_append, List.length_cons, List.length_nil]
                      omega
                    by_cases hjm : j < rs.length
                    · obtain ⟨b', off', rfl, g0, g1⟩ := HRA.out j hjm
                      have d0 := (hb.cell (p := ⟨b', off' + j * 2, none⟩) (block_lt g0)).trans g0
                      have d1 := (hb.cell (p := ⟨b', off' + j * 2 + 1, none⟩) (block_lt g1)).trans g1
                      have htr := take_rg rs j hjm
                      have HBADR : Hid (okR (rs.getD j (0, 0)) = false → okT ⟨kind, ch, true, rs, some ⟨b', off', none⟩, cp⟩ = false) := fun h => by rw [HOK.out, rs_bad hjm h]; simp
                      generalize rs.getD j (0, 0) = r at d0 d1 htr HBADR
                      obtain ⟨lo, hi⟩ := r
                      simp only at d0 d1
                      obtain ⟨Y, hY⟩ : ∃ Y, Y = X ++ [91] ++ bangs true ++ prRs (rs.take j) := ⟨_, rfl⟩
                      rw [← hY] at hown hlen
                      have HNR : Hid (okR (lo, hi) = true → (rs.take (j + 1)).all okR = true ∧ X ++ [91] ++ bangs true ++ prRs (rs.take (j + 1)) = Y ++ prR (lo, hi)) := by
                        intro h
                        rw [htr, List.all_append, HAL.out]
                        refine ⟨by simp [h], ?_⟩
                        rw [hY]
                        simp [prRs]
                      have HLEN := hid hlen
                      have hba := hb.alloc hb.size (.cells #[.int .u8 lo.toNat, .int .u8 hi.toNat] 29)
                      have HOA := hid (hown.alloc (.cells #[.int .u8 lo.toNat, .int .u8 hi.toNat] 29))
                      have HBN := hid (block_new wr #[.int .u8 lo.toNat, .int .u8 hi.toNat] 29)
                      clear g0 g1 htr hY hown hlen hall HAL
                      by_cases hlh : hi.toNat < lo.toNat
                      · have HF := hid (HBADR.out (by simp [okR]; omega))
                        go_wp2_with fail
                        first | exact HFB.out _ HF.out hba | (go_ret; exact HFB.out _ HF.out hba)
                      · have HNR2 := hid (HNR.out (by simp [okR]; omega))
                        clear HNR HBADR
                        by_cases hlt : lo.toNat < hi.toNat
                        · have hpr : prR (lo, hi) = esc lo ++ [45] ++ esc hi := by simp [prR, hlt]
                          have HPR2 := hid hpr
                          have q0 : decide (hi.toNat < lo.toNat) = false := decide_eq_false hlh
                          clear hpr
                          go_wp2_with fail
                          refine (appendChar_keep w.heap.size _ Y lo _ HOA.out hba.size (by have := HLEN.out; omega)).mono ?_
                          rintro e w5 ⟨v5, rfl, hown5, hb5, hst5⟩
                          have hel := esc_length lo
                          have HEL := hid hel
                          have B5 := hst5 _ _ _ _ HBN.out (by decide)
                          have HB5 := hid B5
                          have HO5 := hid hown5
                          have t0 := cell_block B5 0
                          have t1 := cell_block B5 1
                          simp only [List.getElem?_toArray, List.getElem?_cons_zero, List.getElem?_cons_succ] at t0 t1
                          have hb6 := hba.trans hb5
                          clear hown5 B5 hel
                          go_wp2_with (at_builtin; go_must (refine wpList_appB1k w5 rfl (.tmp 68) (.tmp 69) 30 rfl Ybzm.underlying30 Ybzm.info5 w.heap.size _ (Y ++ esc lo) (by rfl) HO5.out 45 _ rfl (by simp) (by rw [List.length_append]; have := HLEN.out; have := HEL.out; omega) hb6.size ?_); intro v7 w7 hown7 hb7 hst7; have HO7 := hid hown7; have B7 := hst7 _ _ _ _ HB5.out (by decide); have u0 := cell_block B7 0; have u1 := cell_block B7 1; simp only [List.getElem?_toArray, List.getElem?_cons_zero, List.getElem?_cons_succ] at u0 u1; clear hown7 B7)
                          have hb8 := hb6.trans hb7
                          refine (appendChar_any w.heap.size _ _ hi _ HO7.out hb8.size (by rw [List.length_append, List.length_append]; have := HLEN.out; have := HEL.out; simp only [List.length_cons, List.length_nil]; omega)).mono ?_
                          rintro e w9 ⟨v9, rfl, hown9, hb9⟩
                          have HO9 : Hid (OwnB w9 w.heap.size v9 (X ++ [91] ++ bangs true ++ prRs (rs.take (j + 1)))) := hid (by rw [HNR2.out.2, HPR2.out]; simpa using hown9)
                          have hb10 := hb8.trans hb9
                          clear hown9 u0 u1 t0 t1
                          go_wp2_with fail
                          go_roundg (rs.length - (j + 1))
                          case rel => exact ⟨j + 1, rfl, by omega, by go_num, HNR2.out.1, HO9.out, hb10⟩
                          case measure => omega
                        · have hpr : prR (lo, hi) = esc lo := by simp [prR, hlt]
                          have HPR2 := hid hpr
                          have q0 : decide (hi.toNat < lo.toNat) = false := decide_eq_false hlh
                          have q1 : decide (lo.toNat < hi.toNat) = false := decide_eq_false hlt
                          clear hpr
                          go_wp2_with fail
                          refine (appendChar_keep w.heap.size _ Y lo _ HOA.out hba.size (by have := HLEN.out; omega)).mono ?_
                          rintro e w5 ⟨v5, rfl, hown5, hb5, hst5⟩
                          have B5 := hst5 _ _ _ _ HBN.out (by decide)
                          have t0 := cell_block B5 0
                          have t1 := cell_block B5 1
                          simp only [List.getElem?_toArray, List.getElem?_cons_zero, List.getElem?_cons_succ] at t0 t1
                          have HO9 : Hid (OwnB w5 w.heap.size v5 (X ++ [91] ++ bangs true ++ prRs (rs.take (j + 1)))) := hid (by rw [HNR2.out.2, HPR2.out]; exact hown5)
                          have hb10 := hba.trans hb5
                          clear hown5 B5
                          go_wp2_with fail
                          go_roundg (rs.length - (j + 1))
                          case rel => exact ⟨j + 1, rfl, by omega, by go_num, HNR2.out.1, HO9.out, hb10⟩
                          case measure => omega
                    · have hkk : rs.take j = rs := List.take_of_length_le (by omega)
                      rw [hkk] at hown hall hlen
                      have hok : okT ⟨kind, ch, true, rs, ra, cp⟩ = true := by rw [HOK.out, hall]; simp [HPOS.out]
                      have HN2 := hid (HNX.out (X ++ [91] ++ bangs true ++ prRs rs ++ [93]) hok (by rw [HPR.out]; simp))
                      have HO := hid hown
                      have HLEN := hid hlen
                      clear hown hall hlen hkk hok HAL
                      go_wp2_with (at_builtin; go_must (refine wpList_appB1k wr rfl (.tmp 76) (.tmp 77) 30 rfl Ybzm.underlying30 Ybzm.info5 w.heap.size _ (X ++ [91] ++ bangs true ++ prRs rs) (by rfl) HO.out 93 _ rfl (by simp) (by have := HLEN.out; omega) hb.size ?_); intro v93 w93 hown93 hb93 _; have HO93 := hid hown93; clear hown93)
                      rw [HN2.out.2] at HO93
                      go_roundg (n - (k + 1))
                      case rel => exact ⟨k + 1, rfl, by omega, by go_num, HN2.out.1, HO93.out, hb.trans hb93⟩
                      case measure => omega
            · have HF : Hid (okT t = false) := by simp [Hid, okT, h0, h1, h2, h3]
              have g0 : (t.kind == 0) = false := beq_eq_false_iff_ne.2 h0
              have g1 : (t.kind == 1) = false := beq_eq_false_iff_ne.2 h1
              have g2 : (t.kind == 2) = false := beq_eq_false_iff_ne.2 h2
              have g3 : (t.kind == 3) = false := beq_eq_false_iff_ne.2 h3
              clear h0 h1 h2 h3
              go_wp2_with fail
              first | exact HFB.out _ HF.out hbt | (go_ret; exact HFB.out _ HF.out hbt)
    · have hkk : ts.take k = ts := List.take_of_length_le (by rw [HL.out]; omega)
      rw [hkk] at hown hall
      have hconv := OwnB.conv (P := Ybzm.prog) hown 30 Ybzm.underlying30 Ybzm.underlying5 9 Ybzm.underlying9
      have HA2 := hid hall
      generalize strOf (prA ts) = sx at hconv finOk
      clear hown hall HA hkk hol
      go_wp2_with fail
      first | exact finOk.out _ HA2.out hb | (go_ret; exact finOk.out _ HA2.out hb)
end Go.Proofs.Ymbrbz

import Derived.Test.YmbrbzReadClass
import Derived.Test.YmbrbzParseFn
import Derived.Test.YmbrbzTokRow
namespace Go.Proofs.Ymbrbz
open Go.RowKit

def Tk.pk (t : Tk) : Pk := ⟨t.kind, t.char, t.neg, t.rs⟩

/-- A token as Parse leaves it. -/
structure Clean (w : World) (B : Nat) (t : Tk) : Prop where
  held : Held w B t
  nil_ : t.kind ≠ 3 → t.ra = none ∧ t.cap = 0

/-- The tokens that the call has made so far. -/
structure PB (w wr : World) (B : Nat) (v : Value) (ts : List Tk) : Prop where
  own : OwnT wr B v ts
  fine : ∀ t ∈ ts, Clean wr B t
  below : Below B w wr

theorem PB.step {w w0 w1 : World} {B : Nat} {v v1 : Value} {ts : List Tk} {o : Obj} {t : Tk} (h : PB w w0 B v ts) (ht : Clean w0 B t)
    (hg : (w0.alloc o).grownBy w1 v.ownBlock) (hb1 : Below B w0 w1) (ho : OwnT w1 B v1 (ts ++ [t])) : PB w w1 B v1 (ts ++ [t]) := by
  refine ⟨ho, ?_, h.below.trans hb1⟩
  intro x hx
  rcases List.mem_append.1 hx with h2 | h2
  · exact ⟨(h.fine x h2).held.grown h.own hg hb1 (by decide), (h.fine x h2).nil_⟩
  · rw [List.mem_singleton] at h2; subst h2; exact ⟨ht.held.grown h.own hg hb1 (by decide), ht.nil_⟩

theorem PB.later {w w0 w1 : World} {B : Nat} {v : Value} {ts : List Tk} (h : PB w w0 B v ts) (hB : B ≤ w0.heap.size) (hb : Below w0.heap.size w0 w1) : PB w w1 B v ts :=
  ⟨h.own.kept hb (Nat.le_refl _), fun t ht => ⟨(h.fine t ht).held.below hb hB, (h.fine t ht).nil_⟩, h.below.trans (hb.mono hB)⟩

theorem clean_none (w : World) (B : Nat) (kind : Int) (c : UInt8) (h1 : -9223372036854775808 ≤ kind) (h2 : kind ≤ 9223372036854775807) : Clean w B ⟨kind, c, false, [], none, 0⟩ :=
  ⟨⟨⟨Nat.le_refl _, by simp, h1, h2, fun k hk => absurd hk (Nat.not_lt_zero _)⟩, fun b off s e => by simp at e⟩, fun _ => ⟨rfl, rfl⟩⟩

theorem clean_own {w : World} {base B : Nat} {ao : Option Addr} {n cp : Nat} {rs : List (UInt8 × UInt8)} (h : OwnR w base (.slice ao n cp) rs) (ch : UInt8) (neg : Bool) : Clean w B ⟨3, ch, neg, rs, ao, cp⟩ := by
  obtain ⟨ao', cap, e, g1, g2, g3⟩ := h.shape
  simp only [Value.slice.injEq] at e
  obtain ⟨rfl, _, rfl⟩ := e
  refine ⟨⟨⟨g1, g2, by simp, by simp, g3⟩, ?_⟩, fun q => absurd rfl q⟩
  intro b off s e
  simp only at e
  obtain ⟨hl, h | ⟨g, cap', cur, e2, hb, hg, hc, hm, hs, ht⟩⟩ := h
  · obtain ⟨e3, _⟩ := h
    simp only [Value.slice.injEq] at e3
    rw [e3.1] at e
    cases e
  · simp only [Value.slice.injEq] at e2
    rw [e2.1] at e
    simp only [Option.some.injEq, Addr.mk.injEq] at e
    rw [← e.1]
    exact .inr ⟨_, _, hg⟩

/-- What Parse leaves. -/
def ParsePost (l : List UInt8) (w : World) (e : Ending) (w' : World) : Prop :=
  (parse l = none ∧ e = .returned (.tuple #[.slice none 0 0, .bool false]) ∧ Below w.heap.size w w') ∨
  ∃ TS ao cp, parse l = some (TS.map Tk.pk) ∧ e = .returned (.tuple #[.slice ao TS.length cp, .bool true]) ∧ TS.length ≤ l.length ∧ PB w w' w.heap.size (.slice ao TS.length cp) TS

/-- What reading one byte outside a class at i comes to, told by what is left. -/
theorem rcv_out (s : ByteArray) (i : Nat) (h : i < s.size) (h1 : s[i].toNat ≠ 42) (h2 : s[i].toNat ≠ 63) (h3 : s[i].toNat ≠ 91) :
    (parse1 (s.data.toList.drop i) = none ∧ rcv s i false = (0, i, false)) ∨
    ∃ c j, i < j ∧ j ≤ s.size ∧ parse1 (s.data.toList.drop i) = some (⟨0, c, false, []⟩, s.data.toList.drop j) ∧ rcv s i false = (c, j, true) := by
  rw [dropAt s i h]
  simp only [parse1, if_neg h1, if_neg h2, if_neg h3]
  rcases rcv_cases s i false with ⟨q, e⟩ | ⟨_, h1, h2, e⟩ | ⟨_, h1, h2, e⟩ | ⟨_, h1, q, e⟩ | ⟨_, h1, q, e⟩ | ⟨_, h1, _, e⟩ | ⟨_, h1, h2, h3, q, e⟩
  · omega
  · left
    rw [dropEnd s (i + 1) h2]
    exact ⟨by simp [h1], e⟩
  · right
    rw [dropAt s (i + 1) h2]
    exact ⟨s[i + 1], i + 2, by omega, by omega, by simp [h1], e⟩
  · cases q
  · cases q
  · right
    exact ⟨s[i], i + 1, by omega, by omega, by simp [h1], e⟩
  · cases q

theorem parse_more {l r r' : List UInt8} {p : Pk} {L : List Pk} (h : parse l = (parse r).map (L ++ ·)) (h1 : parse1 r = some (p, r')) : parse l = (parse r').map ((L ++ [p]) ++ ·) := by
  rw [h, parse_step h1, Option.map_map]
  congr 1
  funext x
  simp

theorem parse_less {l r : List UInt8} {L : List Pk} (h : parse l = (parse r).map (L ++ ·)) (h0 : r ≠ []) (h1 : parse1 r = none) : parse l = none := by
  cases r with
  | nil => exact absurd rfl h0
  | cons c t => rw [h, parse_stop h1]; rfl

set_option maxHeartbeats 4000000 in
set_option maxRecDepth 4000 in
theorem parse_any (s : ByteArray) (hs : s.size ≤ 1000000000) (w : World) :
    Calls Ybzm.prog 17 #[.string s] w (ParsePost s.data.toList w) := by
  have finNone : Hid (∀ W : World, parse s.data.toList = none → Below w.heap.size w W → ParsePost s.data.toList w (.returned (.tuple #[.slice none 0 0, .bool false])) W) := fun W h hb => .inl ⟨h, rfl, hb⟩
  have finSome : Hid (∀ (W : World) (TS : List Tk) (ao : Option Addr) (cp : Nat), parse s.data.toList = some (TS.map Tk.pk) → TS.length ≤ s.size → PB w W w.heap.size (.slice ao TS.length cp) TS → ParsePost s.data.toList w (.returned (.tuple #[.slice ao TS.length cp, .bool true])) W) := fun W TS ao cp h hl hb => .inr ⟨TS, ao, cp, h, rfl, by simpa using hl, hb⟩
  obtain ⟨P, hP⟩ : ∃ P, P = ParsePost s.data.toList w := ⟨_, rfl⟩
  rw [← hP] at finNone finSome ⊢
  clear hP
  go_enter Ybzm.func17, Ybzm.ntmps17
  go_wp2_with fail
  go_loopg [4, 5] s.size (fun g v iv wr => ∃ (i : Nat) (TS : List Tk), g = s.size - i ∧ i ≤ s.size ∧ iv = .int .i64 i ∧ TS.length ≤ i ∧ parse s.data.toList = (parse (s.data.toList.drop i)).map (TS.map Tk.pk ++ ·) ∧ PB w wr w.heap.size v TS)
  case atStart => exact ⟨0, [], rfl, Nat.zero_le _, rfl, Nat.zero_le _, by simp, OwnT.nil _ _, fun t h => absurd h List.not_mem_nil, Below.refl _ _⟩
  case round =>
    rename World => wA
    obtain ⟨i, TS, rfl, hi, rfl, hTS, hpar, hPB⟩ := hrel
    have HTS := hid hTS
    have HPA := hid hpar
    have HPB := hid hPB
    have hb := hPB.below
    clear hTS hpar hPB
    by_cases his : i < s.size
    · have HNE : Hid (s.data.toList.drop i ≠ []) := by rw [Hid, dropAt s i his]; exact List.cons_ne_nil _ _
      by_cases h42 : s[i].toNat = 42
      · have HP1 : Hid (parse1 (s.data.toList.drop i) = some (⟨2, 0, false, []⟩, s.data.toList.drop (i + 1))) := by rw [Hid, dropAt s i his]; simp [parse1, h42]
        have HNX := hid (parse_more HPA.out HP1.out)
        have HB2 := hid ((Below.refl wA.heap.size wA).alloc (Nat.le_refl _) (.cells #[.int .i64 2, .int .u8 0, .bool false, .slice none 0 0] 26))
        have HPE := hid (HPB.out.later hb.size HB2.out)
        clear HP1 HPA HB2
        go_wp2_with (at_builtin; go_must (refine wpList_appT (wA.alloc (.cells #[.int .i64 2, .int .u8 0, .bool false, .slice none 0 0] 26)) rfl (.tmp 45) (.tmp 47) 31 rfl Ybzm.underlying31 Ybzm.infoToken w.heap.size _ TS (by rfl) HPE.out.own ⟨2, 0, false, [], none, 0⟩ _ rfl (by simp) (by have := HTS.out; omega) HPE.out.below.size ?_); intro ao9 cp9 w9 hown9 hb9 hg9; have HO9 := hid hown9; have HG9 := hid hg9; clear hown9 hg9)
        go_roundg (s.size - (i + 1))
        case rel => exact ⟨i + 1, _, rfl, by omega, by go_num, by have := HTS.out; simp; omega, by rw [HNX.out]; simp [Tk.pk], PB.step HPE.out (clean_none _ _ 2 0 (by omega) (by omega)) HG9.out hb9 HO9.out⟩
        case measure => omega
      · by_cases h63 : s[i].toNat = 63
        · have HP1 : Hid (parse1 (s.data.toList.drop i) = some (⟨1, 0, false, []⟩, s.data.toList.drop (i + 1))) := by rw [Hid, dropAt s i his]; simp [parse1, h63]
          have HNX := hid (parse_more HPA.out HP1.out)
          have HB2 := hid ((Below.refl wA.heap.size wA).alloc (Nat.le_refl _) (.cells #[.int .i64 1, .int .u8 0, .bool false, .slice none 0 0] 26))
          have HPE := hid (HPB.out.later hb.size HB2.out)
          clear HP1 HPA HB2
          go_wp2_with (at_builtin; go_must (refine wpList_appT (wA.alloc (.cells #[.int .i64 1, .int .u8 0, .bool false, .slice none 0 0] 26)) rfl (.tmp 45) (.tmp 47) 31 rfl Ybzm.underlying31 Ybzm.infoToken w.heap.size _ TS (by rfl) HPE.out.own ⟨1, 0, false, [], none, 0⟩ _ rfl (by simp) (by have := HTS.out; omega) HPE.out.below.size ?_); intro ao9 cp9 w9 hown9 hb9 hg9; have HO9 := hid hown9; have HG9 := hid hg9; clear hown9 hg9)
          go_roundg (s.size - (i + 1))
          case rel => exact ⟨i + 1, _, rfl, by omega, by go_num, by have := HTS.out; simp; omega, by rw [HNX.out]; simp [Tk.pk], PB.step HPE.out (clean_none _ _ 1 0 (by omega) (by omega)) HG9.out hb9 HO9.out⟩
          case measure => omega
        · have n42 : ((s[i].toNat : Int) == 42) = false := beq_eq_false_iff_ne.2 (by omega)
          have n63 : ((s[i].toNat : Int) == 63) = false := beq_eq_false_iff_ne.2 (by omega)
          by_cases h91 : s[i].toNat = 91
          · have HP1 : Hid (parse1 (s.data.toList.drop i) = (rdClass (s.data.toList.drop (i + 1))).map fun q => (⟨3, 0, q.1, q.2.1⟩, q.2.2)) := by rw [Hid, dropAt s i his]; simp [parse1, h91]
            have HB2 := hid ((Below.refl wA.heap.size wA).alloc (Nat.le_refl _) (.cells #[.int .i64 0, .int .u8 0, .bool false, .slice none 0 0] 26))
            have HBN := hid (block_new wA #[.int .i64 0, .int .u8 0, .bool false, .slice none 0 0] 26)
            have HDL := hid (dropLen s (i + 1))
            have HDD : Hid (∀ r : List UInt8, (∃ n, r = (s.data.toList.drop (i + 1)).drop n) → r = s.data.toList.drop (s.size - r.length)) := by
              rintro r ⟨n, rfl⟩
              rw [List.drop_drop, dropLen]
              by_cases hn : i + 1 + n ≤ s.size
              · congr 1; omega
              · rw [dropEnd s _ (by omega), dropEnd s _ (by omega)]
            go_wp2_with fail
            refine (readClass_any s _ (i + 1) (by omega) hs (by omega) _).mono ?_
            rintro e w1 (⟨hR, rfl, hb1⟩ | ⟨neg, rs, r, v, hR, rfl, hown1, hnn, hb1⟩)
            · have HX := hid (parse_less HPA.out HNE.out (by rw [HP1.out, hR]; rfl))
              have hblk : w1.heap[wA.heap.size]? = _ := (hb1.block _ (by simp)).trans HBN.out
              have z0 := cell_block hblk 0
              have z1 := cell_block hblk 1
              have z2 := cell_block hblk 2
              have z3 := cell_block hblk 3
              have y0 := frozen_block hblk 0
              have y1 := frozen_block hblk 1
              have y2 := frozen_block hblk 2
              have y3 := frozen_block hblk 3
              simp only [List.getElem?_toArray, List.getElem?_cons_zero, List.getElem?_cons_succ] at z0 z1 z2 z3
              have HBW := hid (hb.trans (HB2.out.trans (hb1.mono (by simp)) |>.mono hb.size))
              clear hR hblk hb1 HP1
              go_wp2_with fail
              first | exact finNone.out _ HX.out ((((HBW.out.setCell hb.size _).setCell hb.size _).setCell hb.size _).setCell hb.size _) | (go_ret; exact finNone.out _ HX.out ((((HBW.out.setCell hb.size _).setCell hb.size _).setCell hb.size _).setCell hb.size _))
            · obtain ⟨aoV, cpV, hvV, _⟩ := hown1.shape
              subst hvV
              have hdr := rdClass_drop hR
              have hlen := hdr.1
              rw [HDL.out] at hlen
              have HRE := hid (HDD.out r hdr.2.1)
              obtain ⟨i', hi'⟩ : ∃ i', i' = s.size - r.length := ⟨_, rfl⟩
              rw [← hi'] at HRE ⊢
              have hlt : i < i' := by omega
              have hle : i' ≤ s.size := by omega
              have HP2 : Hid (parse1 (s.data.toList.drop i) = some (⟨3, 0, neg, rs⟩, s.data.toList.drop i')) := by rw [Hid, HP1.out, hR, ← HRE.out]; rfl
              have HNX := hid (parse_more HPA.out HP2.out)
              have hblk : w1.heap[wA.heap.size]? = _ := (hb1.block _ (by simp)).trans HBN.out
              have z0 := cell_block hblk 0
              have z1 := cell_block hblk 1
              have z2 := cell_block hblk 2
              have z3 := cell_block hblk 3
              have y0 := frozen_block hblk 0
              have y1 := frozen_block hblk 1
              have y2 := frozen_block hblk 2
              have y3 := frozen_block hblk 3
              simp only [List.getElem?_toArray, List.getElem?_cons_zero, List.getElem?_cons_succ] at z0 z1 z2 z3
              have HBW := hid (HB2.out.trans (hb1.mono (by simp)))
              have HBW4 := hid (show Below wA.heap.size wA ((((w1.setCell ⟨wA.heap.size, 0, none⟩ (.int .i64 3)).setCell ⟨wA.heap.size, 1, none⟩ (.int .u8 0)).setCell ⟨wA.heap.size, 2, none⟩ (.bool neg)).setCell ⟨wA.heap.size, 3, none⟩ (.slice aoV rs.length cpV)) from (((HBW.out.setCell (Nat.le_refl _) _).setCell (Nat.le_refl _) _).setCell (Nat.le_refl _) _).setCell (Nat.le_refl _) _)
              have HPE := hid (HPB.out.later hb.size HBW4.out)
              have HCL : Hid (Clean ((((w1.setCell ⟨wA.heap.size, 0, none⟩ (.int .i64 3)).setCell ⟨wA.heap.size, 1, none⟩ (.int .u8 0)).setCell ⟨wA.heap.size, 2, none⟩ (.bool neg)).setCell ⟨wA.heap.size, 3, none⟩ (.slice aoV rs.length cpV)) w.heap.size ⟨3, 0, neg, rs, aoV, cpV⟩) := clean_own (ownsRow_setCell_below (ownsRow_setCell_below (ownsRow_setCell_below (ownsRow_setCell_below hown1 (by simp) _) (by simp) _) (by simp) _) (by simp) _) 0 neg
              clear hR hblk hb1 HP1 HP2 HBW HBW4 hown1 hnn hdr hlen hi' HRE HPA
              go_wp2_with (at_builtin; go_must (refine wpList_appT ((((w1.setCell ⟨wA.heap.size, 0, none⟩ (.int .i64 3)).setCell ⟨wA.heap.size, 1, none⟩ (.int .u8 0)).setCell ⟨wA.heap.size, 2, none⟩ (.bool neg)).setCell ⟨wA.heap.size, 3, none⟩ (.slice aoV rs.length cpV)) rfl (.tmp 45) (.tmp 47) 31 rfl Ybzm.underlying31 Ybzm.infoToken w.heap.size _ TS (by rfl) HPE.out.own ⟨3, 0, neg, rs, aoV, cpV⟩ _ rfl (by simp) (by have := HTS.out; omega) HPE.out.below.size ?_); intro ao9 cp9 w9 hown9 hb9 hg9; have HO9 := hid hown9; have HG9 := hid hg9; clear hown9 hg9)
              go_roundg (s.size - i')
              case rel => exact ⟨i', _, rfl, by omega, rfl, by have := HTS.out; simp; omega, by rw [HNX.out]; simp [Tk.pk], PB.step HPE.out HCL.out HG9.out hb9 HO9.out⟩
              case measure => omega
          · have n91 : ((s[i].toNat : Int) == 91) = false := beq_eq_false_iff_ne.2 (by omega)
            rcases rcv_out s i his h42 h63 h91 with ⟨hp1, hrc⟩ | ⟨c, i', hlt, hle, hp1, hrc⟩
            · have HX := hid (parse_less HPA.out HNE.out hp1)
              have HRC := hid hrc
              clear hp1 hrc
              go_wp2_with fail
              refine (readChar_any s i false (by omega) (by omega) _).mono ?_
              rintro e w1 ⟨rfl, rfl⟩
              rw [HRC.out]
              have HB2 := hid (hb.alloc hb.size (.cells #[.int .i64 0, .int .u8 0, .bool false, .slice none 0 0] 26))
              go_wp2_with fail
              first | exact finNone.out _ HX.out HB2.out | (go_ret; exact finNone.out _ HX.out HB2.out)
            · have HNX := hid (parse_more HPA.out hp1)
              have HRC := hid hrc
              clear hp1 hrc HPA
              go_wp2_with fail
              refine (readChar_any s i false (by omega) (by omega) _).mono ?_
              rintro e w1 ⟨rfl, rfl⟩
              rw [HRC.out]
              have HB2 := hid ((Below.refl wA.heap.size wA).alloc (Nat.le_refl _) (.cells #[.int .i64 0, .int .u8 c.toNat, .bool false, .slice none 0 0] 26))
              have HPE := hid (HPB.out.later hb.size HB2.out)
              clear HB2
              go_wp2_with (at_builtin; go_must (refine wpList_appT (wA.alloc (.cells #[.int .i64 0, .int .u8 c.toNat, .bool false, .slice none 0 0] 26)) rfl (.tmp 45) (.tmp 47) 31 rfl Ybzm.underlying31 Ybzm.infoToken w.heap.size _ TS (by rfl) HPE.out.own ⟨0, c, false, [], none, 0⟩ _ rfl (by simp) (by have := HTS.out; omega) HPE.out.below.size ?_); intro ao9 cp9 w9 hown9 hb9 hg9; have HO9 := hid hown9; have HG9 := hid hg9; clear hown9 hg9)
              go_roundg (s.size - i')
              case rel => exact ⟨i', _, rfl, by omega, rfl, by have := HTS.out; simp; omega, by rw [HNX.out]; simp [Tk.pk], PB.step HPE.out (clean_none _ _ 0 c (by omega) (by omega)) HG9.out hb9 HO9.out⟩
              case measure => omega
    · have hii : i = s.size := by omega
      obtain ⟨ao9, cp9, hv9, _⟩ := HPB.out.own.shape
      subst hv9
      have HX : Hid (parse s.data.toList = some (TS.map Tk.pk)) := by
        rw [Hid, HPA.out, hii, dropEnd s s.size (Nat.le_refl _), parse_nil]; simp
      have HLE : Hid (TS.length ≤ s.size) := by have := HTS.out; exact Nat.le_trans this hi
      clear hii HPA
      go_wp2_with fail
      first | exact finSome.out _ TS ao9 cp9 HX.out HLE.out HPB.out | (go_ret; exact finSome.out _ TS ao9 cp9 HX.out HLE.out HPB.out)
end Go.Proofs.Ymbrbz

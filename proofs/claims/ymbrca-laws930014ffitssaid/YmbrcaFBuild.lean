import Derived.Test.YmbrcaTokRow
import Derived.Test.YmbrcaMatchLaw
import Derived.Test.YmbrcaAid
import Derived.Deep.LoopGhost
import Derived.WalkKit
import Derived.WalkSpells
import Derived.WalkLawsBesides
namespace Go.Proofs.Ymbrca
open Go.RowKit

theorem take_step {s : ByteArray} {sl : List UInt8} (h : sl = s.data.toList) (j : Nat) (hj : j < s.size) : sl.take (j + 1) = sl.take j ++ [s[j]] := by
  rw [h, List.take_succ_eq_append_getElem (by simpa using hj)]; rfl

theorem take_more (sl : List UInt8) (i j : Nat) (h : i ≤ j) : ∃ v, sl.take j = sl.take i ++ v := by
  refine ⟨(sl.take j).drop i, ?_⟩
  conv => lhs; rw [← List.take_append_drop i (sl.take j)]
  rw [List.take_take, Nat.min_eq_left h]

/-- What the loops have: the tokens so far match the bytes so far. -/
structure FB (w wr : World) (B : Nat) (sl : List UInt8) (v : Value) (ts : List Tk) (i : Nat) : Prop where
  own : OwnT wr B v ts
  held : ∀ t ∈ ts, Held wr B t
  fits : mt ts (sl.take i) = true
  below : Below B w wr

theorem FB.step {w w0 w1 : World} {B : Nat} {sl : List UInt8} {v v1 : Value} {ts : List Tk} {j : Nat} {o : Obj} {t : Tk} (hO : OwnT w0 B v ts) (hH : ∀ t ∈ ts, Held w0 B t) (hb : Below B w w0) (ht : Held w0 B t)
    (hg : (w0.alloc o).grownBy w1 v.ownBlock) (hb1 : Below B w0 w1) (ho : OwnT w1 B v1 (ts ++ [t])) (hf : mt (ts ++ [t]) (sl.take j) = true) : FB w w1 B sl v1 (ts ++ [t]) j := by
  refine ⟨ho, ?_, hf, hb.trans hb1⟩
  intro x hx
  rcases List.mem_append.1 hx with h | h
  · exact (hH x h).grown hO hg hb1 (by decide)
  · rw [List.mem_singleton] at h; subst h; exact ht.grown hO hg hb1 (by decide)

theorem held_none (w : World) (B : Nat) (kind : Int) (c : UInt8) (h1 : -9223372036854775808 ≤ kind) (h2 : kind ≤ 9223372036854775807) : Held w B ⟨kind, c, false, [], none, 0⟩ :=
  ⟨⟨Nat.le_refl _, by simp, h1, h2, fun k hk => absurd hk (Nat.not_lt_zero _)⟩, fun b off s e => by simp at e⟩

theorem held_one (w : World) (B : Nat) (neg : Bool) (c : UInt8) : Held (w.alloc (.cells #[.int .u8 c.toNat, .int .u8 c.toNat] 45)) B ⟨3, 0, neg, [(c, c)], some ⟨w.heap.size, 0, none⟩, 1⟩ := by
  have hb := block_new w #[.int .u8 c.toNat, .int .u8 c.toNat] 45
  refine ⟨⟨by simp, by simp, by simp, by simp, ?_⟩, ?_⟩
  · intro k hk
    have : k = 0 := by simpa using hk
    subst this
    refine ⟨w.heap.size, 0, rfl, ?_, ?_⟩
    · rw [cell_block hb]; rfl
    · rw [cell_block hb]; rfl
  · intro b off s e
    simp at e
    obtain ⟨rfl, _⟩ := e
    exact .inr ⟨_, _, hb⟩

theorem fit_star (ts : List Tk) (sl : List UInt8) (i j : Nat) (c : UInt8) (h : mt ts (sl.take i) = true) (hij : i ≤ j) : mt (ts ++ [⟨2, c, false, [], none, 0⟩]) (sl.take j) = true := by
  obtain ⟨v, hv⟩ := take_more sl i j hij
  exact (mt_snoc_star ts _ rfl _).2 ⟨_, v, hv, h⟩

theorem fit_one {s : ByteArray} {sl : List UInt8} (hsl : sl = s.data.toList) (ts : List Tk) (t : Tk) (i : Nat) (hi : i < s.size) (h : mt ts (sl.take i) = true) (hk : t.kind ≠ 2) (ht : tOne t s[i] = true) : mt (ts ++ [t]) (sl.take (i + 1)) = true := by
  rw [take_step hsl i hi, fwd_one_succ ts t hk, h, ht]; rfl

theorem xor_one (c : UInt8) : bits BinOp.xor IntKind.u8 (c.toNat : Int) 1 = ((c ^^^ 1).toNat : Int) := by
  have h : ∀ n : Fin 256, bits BinOp.xor IntKind.u8 ((UInt8.ofNat n.val).toNat : Int) 1 = ((UInt8.ofNat n.val ^^^ 1).toNat : Int) := by decide +kernel
  have := h ⟨c.toNat, by have := c.toNat_lt; omega⟩
  simpa using this

theorem not_xor (c : UInt8) (a : Option Addr) : tOne ⟨3, 0, true, [(c ^^^ 1, c ^^^ 1)], a, 1⟩ c = true := by
  have h : ∀ n : Fin 256, mOne 3 0 true [(UInt8.ofNat n.val ^^^ 1, UInt8.ofNat n.val ^^^ 1)] (UInt8.ofNat n.val) = true := by decide +kernel
  have := h ⟨c.toNat, by have := c.toNat_lt; omega⟩
  unfold tOne
  simpa using this

set_option maxHeartbeats 4000000 in
set_option maxRecDepth 4000 in
theorem fbuild_any (s : ByteArray) (hs : s.size ≤ 1024) (a : Option Addr) (n cap : Nat) (ops : List UInt8) (hn : n ≤ 1024) (hl : ops.length = n) (w : World) (hr : BytesAt w a ops) :
    Calls Ycam.prog 19 #[.string s, .slice a n cap] w fun e w' => ∃ v ts, e = .returned v ∧ FB w w' w.heap.size s.data.toList v ts s.size ∧ ts.length ≤ 2048 := by
  obtain ⟨sl, hsl⟩ : ∃ sl, sl = s.data.toList := ⟨_, rfl⟩
  rw [← hsl]
  have HSL := hid hsl
  have HR := hid hr
  have HL := hid hl
  clear hsl hr hl
  go_enter Ycam.func19, Ycam.ntmps19
  go_wp2_with fail
  go_loopg [5, 6, 12] n (fun g v iv kv wr => ∃ (k i : Nat) (ts : List Tk), g = n - k ∧ k ≤ n ∧ kv = .int .i64 k ∧ iv = .int .i64 i ∧ i ≤ s.size ∧ ts.length = k ∧ FB w wr w.heap.size sl v ts i)
  case atStart => exact ⟨0, 0, [], rfl, Nat.zero_le _, rfl, rfl, Nat.zero_le _, rfl, OwnT.nil _ _, fun t h => absurd h (List.not_mem_nil), mt_nil, Below.refl _ _⟩
  case round =>
    obtain ⟨k, i, ts, rfl, hk, rfl, rfl, hi, htl, hF⟩ := hrel
    have HTL := hid htl
    have HF := hid hF
    have hb := hF.below
    clear htl hF
    by_cases hkn : k < n
    · obtain ⟨b, off, rfl, g0⟩ := HR.out k (by rw [HL.out]; exact hkn)
      have c0 := (hb.cell (p := ⟨b, off + k, none⟩) (block_lt g0)).trans g0
      clear g0
      generalize ops.getD k 0 = op at c0
      obtain ⟨d, hd⟩ : ∃ d : Nat, (op.toNat : Int) % 5 = (d : Int) := ⟨op.toNat % 5, by omega⟩
      have hd5 : d < 5 := by omega
      by_cases hst : d = 0 ∨ s.size ≤ i
      · obtain ⟨q, hq⟩ : ∃ q : Nat, (op.toNat : Int) / 5 % 4 = (q : Int) := ⟨op.toNat / 5 % 4, by omega⟩
        have hq4 : q < 4 := by omega
        have HT : Hid (∀ (j : Nat), i ≤ j → mt (ts ++ [⟨2, 0, false, [], none, 0⟩]) (sl.take j) = true) := fun j hij => fit_star ts sl i j 0 HF.out.fits hij
        have HH : Hid (Held wr w.heap.size ⟨2, 0, false, [], none, 0⟩) := held_none _ _ 2 0 (by omega) (by omega)
        by_cases hd0 : d = 0
        · subst hd0
          by_cases hov : s.size < i + q
          · have n1 : (s.size : Int) < (i : Int) + (q : Int) := by omega
            go_wp2_with (at_builtin; go_must (refine wpList_appT wr rfl (.tmp 25) (.tmp 27) 27 rfl Ycam.underlying27 Ycam.infoToken w.heap.size _ ts (by rfl) HF.out.own ⟨2, 0, false, [], none, 0⟩ _ rfl (by simp) (by rw [HTL.out]; omega) hb.size ?_); intro ao1 cp1 w1 hown1 hb1 hg1; have HO1 := hid hown1; have HG1 := hid hg1; clear hown1 hg1)
            go_roundg (n - (k + 1))
            case rel => exact ⟨k + 1, s.size, _, rfl, by omega, by go_num, rfl, Nat.le_refl _, by simp [HTL.out], FB.step HF.out.own HF.out.held hb HH.out HG1.out hb1 HO1.out (HT.out _ (by omega))⟩
            case measure => omega
          · have n1 : decide ((s.size : Int) < (i : Int) + (q : Int)) = false := decide_eq_false (by omega)
            go_wp2_with (at_builtin; go_must (refine wpList_appT wr rfl (.tmp 25) (.tmp 27) 27 rfl Ycam.underlying27 Ycam.infoToken w.heap.size _ ts (by rfl) HF.out.own ⟨2, 0, false, [], none, 0⟩ _ rfl (by simp) (by rw [HTL.out]; omega) hb.size ?_); intro ao1 cp1 w1 hown1 hb1 hg1; have HO1 := hid hown1; have HG1 := hid hg1; clear hown1 hg1)
            go_roundg (n - (k + 1))
            case rel => exact ⟨k + 1, i + q, _, rfl, by omega, by go_num, by go_num, by omega, by simp [HTL.out], FB.step HF.out.own HF.out.held hb HH.out HG1.out hb1 HO1.out (HT.out _ (by omega))⟩
            case measure => omega
        · have hge : s.size ≤ i := by omega
          have n0 : ((d : Int) == 0) = false := beq_eq_false_iff_ne.2 (by omega)
          by_cases hov : s.size < i + q
          · have n1 : (s.size : Int) < (i : Int) + (q : Int) := by omega
            go_wp2_with (at_builtin; go_must (refine wpList_appT wr rfl (.tmp 25) (.tmp 27) 27 rfl Ycam.underlying27 Ycam.infoToken w.heap.size _ ts (by rfl) HF.out.own ⟨2, 0, false, [], none, 0⟩ _ rfl (by simp) (by rw [HTL.out]; omega) hb.size ?_); intro ao1 cp1 w1 hown1 hb1 hg1; have HO1 := hid hown1; have HG1 := hid hg1; clear hown1 hg1)
            go_roundg (n - (k + 1))
            case rel => exact ⟨k + 1, s.size, _, rfl, by omega, by go_num, rfl, Nat.le_refl _, by simp [HTL.out], FB.step HF.out.own HF.out.held hb HH.out HG1.out hb1 HO1.out (HT.out _ (by omega))⟩
            case measure => omega
          · have n1 : decide ((s.size : Int) < (i : Int) + (q : Int)) = false := decide_eq_false (by omega)
            go_wp2_with (at_builtin; go_must (refine wpList_appT wr rfl (.tmp 25) (.tmp 27) 27 rfl Ycam.underlying27 Ycam.infoToken w.heap.size _ ts (by rfl) HF.out.own ⟨2, 0, false, [], none, 0⟩ _ rfl (by simp) (by rw [HTL.out]; omega) hb.size ?_); intro ao1 cp1 w1 hown1 hb1 hg1; have HO1 := hid hown1; have HG1 := hid hg1; clear hown1 hg1)
            go_roundg (n - (k + 1))
            case rel => exact ⟨k + 1, i + q, _, rfl, by omega, by go_num, by go_num, by omega, by simp [HTL.out], FB.step HF.out.own HF.out.held hb HH.out HG1.out hb1 HO1.out (HT.out _ (by omega))⟩
            case measure => omega
      · have his : i < s.size := by omega
        have n0 : ((d : Int) == 0) = false := beq_eq_false_iff_ne.2 (by omega)
        have n1 : decide ((s.size : Int) ≤ (i : Int)) = false := decide_eq_false (by omega)
        have HT : Hid (∀ t : Tk, t.kind ≠ 2 → tOne t s[i] = true → mt (ts ++ [t]) (sl.take (i + 1)) = true) := fun t h1 h2 => fit_one HSL.out ts t i his HF.out.fits h1 h2
        have hd0 : d ≠ 0 := by omega
        clear hst
        by_cases h1 : d = 1
        · subst h1
          go_wp2_with (at_builtin; go_must (refine wpList_appT wr rfl (.tmp 60) (.tmp 63) 27 rfl Ycam.underlying27 Ycam.infoToken w.heap.size _ ts (by rfl) HF.out.own ⟨0, s[i], false, [], none, 0⟩ _ rfl (by simp) (by rw [HTL.out]; omega) hb.size ?_); intro ao1 cp1 w1 hown1 hb1 hg1; have HO1 := hid hown1; have HG1 := hid hg1; clear hown1 hg1)
          go_roundg (n - (k + 1))
          case rel => exact ⟨k + 1, i + 1, _, rfl, by omega, by go_num, by go_num, by omega, by simp [HTL.out], FB.step HF.out.own HF.out.held hb (held_none _ _ 0 s[i] (by omega) (by omega)) HG1.out hb1 HO1.out (HT.out _ (by simp) (by simp [tOne, mOne]))⟩
          case measure => omega
        · by_cases h2 : d = 2
          · subst h2
            go_wp2_with (at_builtin; go_must (refine wpList_appT wr rfl (.tmp 67) (.tmp 69) 27 rfl Ycam.underlying27 Ycam.infoToken w.heap.size _ ts (by rfl) HF.out.own ⟨1, 0, false, [], none, 0⟩ _ rfl (by simp) (by rw [HTL.out]; omega) hb.size ?_); intro ao1 cp1 w1 hown1 hb1 hg1; have HO1 := hid hown1; have HG1 := hid hg1; clear hown1 hg1)
            go_roundg (n - (k + 1))
            case rel => exact ⟨k + 1, i + 1, _, rfl, by omega, by go_num, by go_num, by omega, by simp [HTL.out], FB.step HF.out.own HF.out.held hb (held_none _ _ 1 0 (by omega) (by omega)) HG1.out hb1 HO1.out (HT.out _ (by simp) (by simp [tOne, mOne]))⟩
            case measure => omega
          · by_cases h3 : d = 3
            · subst h3
              have HB2 := hb.alloc hb.size (.cells #[.int .u8 s[i].toNat, .int .u8 s[i].toNat] 45)
              have HN := hid (Below.refl wr.heap.size wr |>.alloc (Nat.le_refl _) (.cells #[.int .u8 s[i].toNat, .int .u8 s[i].toNat] 45))
              go_wp2_with (at_builtin; go_must (refine wpList_appT (wr.alloc (.cells #[.int .u8 s[i].toNat, .int .u8 s[i].toNat] 45)) rfl (.tmp 73) (.tmp 79) 27 rfl Ycam.underlying27 Ycam.infoToken w.heap.size _ ts (by rfl) (HF.out.own.alloc _) ⟨3, 0, false, [(s[i], s[i])], some ⟨wr.heap.size, 0, none⟩, 1⟩ _ rfl (by simp) (by rw [HTL.out]; omega) HB2.size ?_); intro ao1 cp1 w1 hown1 hb1 hg1; have HO1 := hid hown1; have HG1 := hid hg1; clear hown1 hg1)
              go_roundg (n - (k + 1))
              case rel => exact ⟨k + 1, i + 1, _, rfl, by omega, by go_num, by go_num, by omega, by simp [HTL.out], FB.step (HF.out.own.alloc _) (fun t h => (HF.out.held t h).below HN.out hb.size) HB2 (held_one wr _ false s[i]) HG1.out hb1 HO1.out (HT.out _ (by simp) (by simp [tOne, mOne, inR]))⟩
              case measure => omega
            · have h4 : d = 4 := by omega
              subst h4
              clear h1 h2 h3 hd0
              obtain ⟨x, hx⟩ : ∃ x, x = s[i] ^^^ 1 := ⟨_, rfl⟩
              have hxb : bits BinOp.xor IntKind.u8 (s[i].toNat : Int) 1 = (x.toNat : Int) := by rw [hx]; exact xor_one _
              have HXO : Hid (tOne ⟨3, 0, true, [(x, x)], some ⟨wr.heap.size, 0, none⟩, 1⟩ s[i] = true) := by rw [hx]; exact not_xor _ _
              clear hx
              have HB2 := hb.alloc hb.size (.cells #[.int .u8 x.toNat, .int .u8 x.toNat] 45)
              have HN := hid (Below.refl wr.heap.size wr |>.alloc (Nat.le_refl _) (.cells #[.int .u8 x.toNat, .int .u8 x.toNat] 45))
              go_wp2_with (at_builtin; go_must (refine wpList_appT (wr.alloc (.cells #[.int .u8 x.toNat, .int .u8 x.toNat] 45)) rfl (.tmp 48) (.tmp 56) 27 rfl Ycam.underlying27 Ycam.infoToken w.heap.size _ ts (by rfl) (HF.out.own.alloc _) ⟨3, 0, true, [(x, x)], some ⟨wr.heap.size, 0, none⟩, 1⟩ _ rfl (by simp) (by rw [HTL.out]; omega) HB2.size ?_); intro ao1 cp1 w1 hown1 hb1 hg1; have HO1 := hid hown1; have HG1 := hid hg1; clear hown1 hg1)
              go_roundg (n - (k + 1))
              case rel => exact ⟨k + 1, i + 1, _, rfl, by omega, by go_num, by go_num, by omega, by simp [HTL.out], FB.step (HF.out.own.alloc _) (fun t h => (HF.out.held t h).below HN.out hb.size) HB2 (held_one wr _ true x) HG1.out hb1 HO1.out (HT.out _ (by simp) HXO.out)⟩
              case measure => omega
    · have hkk : k = n := by omega
      subst hkk
      go_wp2_with fail
      clear hkn hk
      have HTL2 : Hid (ts.length ≤ 1024 + i) := by have := HTL.out; exact Nat.le_trans (Nat.le_of_eq this) (by omega)
      clear HTL
      go_loopg [5, 6] (s.size - i) (fun g v iv wr => ∃ (i : Nat) (ts : List Tk), g = s.size - i ∧ iv = .int .i64 i ∧ i ≤ s.size ∧ ts.length ≤ 1024 + i ∧ FB w wr w.heap.size sl v ts i)
      case atStart => exact ⟨i, ts, rfl, rfl, hi, HTL2.out, HF.out⟩
      case round =>
        clear HTL2 HF hb hi
        obtain ⟨i, ts, rfl, rfl, hi, htl, hF⟩ := hrel
        have HTL := hid htl
        have HF := hid hF
        have hb := hF.below
        clear htl hF
        by_cases his : i < s.size
        · have HT : Hid (∀ t : Tk, t.kind ≠ 2 → tOne t s[i] = true → mt (ts ++ [t]) (sl.take (i + 1)) = true) := fun t h1 h2 => fit_one HSL.out ts t i his HF.out.fits h1 h2
          go_wp2_with (at_builtin; go_must (refine wpList_appT wr rfl (.tmp 88) (.tmp 93) 27 rfl Ycam.underlying27 Ycam.infoToken w.heap.size _ ts (by rfl) HF.out.own ⟨0, s[i], false, [], none, 0⟩ _ rfl (by simp) (by have := HTL.out; omega) hb.size ?_); intro ao1 cp1 w1 hown1 hb1 hg1; have HO1 := hid hown1; have HG1 := hid hg1; clear hown1 hg1)
          go_roundg (s.size - (i + 1))
          case rel => exact ⟨i + 1, _, rfl, by go_num, by omega, by have := HTL.out; simp; omega, FB.step HF.out.own HF.out.held hb (held_none _ _ 0 s[i] (by omega) (by omega)) HG1.out hb1 HO1.out (HT.out _ (by simp) (by simp [tOne, mOne]))⟩
          case measure => omega
        · have hii : i = s.size := by omega
          subst hii
          go_wp2_with fail
          go_ret
          exact ⟨_, ts, rfl, HF.out, by have := HTL.out; omega⟩
end Go.Proofs.Ymbrca

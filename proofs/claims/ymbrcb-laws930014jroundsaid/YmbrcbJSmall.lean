import Derived.Test.YmbrcbJItems
import Derived.Test.YmbrcbClassTxt
import Derived.Test.YmbrcbBytes1
import Derived.Test.YmbrcbAppendChar
import Derived.Test.YmbrcbAid
import Derived.Deep.QuietTactic
import Derived.BigQuiet
namespace Go.Proofs.Ymbrcb
open Go.RowKit

def jlo (it : JIt) : UInt8 := if it.2.2.1 then it.1 else if it.2.1.toNat < it.1.toNat then it.2.1 else it.1
def jhi (it : JIt) : UInt8 := if it.2.2.1 then it.1 else if it.2.1.toNat < it.1.toNat then it.1 else it.2.1
/-- One byte written out. -/
def jputs (c : UInt8) (esc : Bool) : List UInt8 := if esc || c == 92 || c == 93 || c == 45 || c == 33 then [92, c] else [c]
def jtxt (it : JIt) : List UInt8 := jputs (jlo it) it.2.2.2.1 ++ (if it.2.2.1 then [] else 45 :: jputs (jhi it) it.2.2.2.2)

theorem jputs_spelt (c : UInt8) (esc : Bool) : Spelt c (jputs c esc) := by
  unfold jputs
  by_cases h : (esc || c == 92 || c == 93 || c == 45 || c == 33) = true
  · rw [if_pos h]; exact .inl rfl
  · rw [if_neg h]
    simp at h
    obtain ⟨⟨⟨⟨_, h1⟩, h2⟩, h3⟩, h4⟩ := h
    refine .inr ⟨rfl, fun e => h1 ?_, fun e => h2 ?_, fun e => h3 ?_, fun e => h4 ?_⟩ <;> exact UInt8.toNat_inj.1 e

theorem jtxt_item (it : JIt) : ItemTxt (jlo it) (jhi it) (jtxt it) := by
  obtain ⟨a, b, s, ea, eb⟩ := it
  cases s with
  | true =>
    left
    refine ⟨by simp only [jtxt, if_true, List.append_nil]; exact jputs_spelt _ _, by simp [jhi, jlo]⟩
  | false =>
    right
    refine ⟨_, _, jputs_spelt (jlo (a, b, false, ea, eb)) ea, jputs_spelt (jhi (a, b, false, ea, eb)) eb, by simp [jtxt], ?_⟩
    simp only [jlo, jhi, Bool.false_eq_true, if_false]
    split <;> omega

theorem jputs_len (c : UInt8) (e : Bool) : (jputs c e).length ≤ 2 := by unfold jputs; split <;> simp
theorem jtxt_len (it : JIt) : (jtxt it).length ≤ 5 := by
  unfold jtxt
  have h1 := jputs_len (jlo it) it.2.2.2.1
  have h2 := jputs_len (jhi it) it.2.2.2.2
  split <;> simp <;> omega

set_option maxHeartbeats 400000 in
theorem jbounds_any (it : JIt) (w : World) :
    Calls Ycbm.prog 11 #[.agg #[.int .u8 it.1.toNat, .int .u8 it.2.1.toNat, .bool it.2.2.1, .bool it.2.2.2.1, .bool it.2.2.2.2]] w fun e w' => e = .returned (.tuple #[.int .u8 (jlo it).toNat, .int .u8 (jhi it).toNat]) ∧ Below w.heap.size w w' := by
  obtain ⟨a, b, s, ea, eb⟩ := it
  have fin : ∀ o n, Below w.heap.size w ((w.alloc o).drewN n) := fun o n => below_drewN ((Below.refl _ _).alloc (Nat.le_refl _) _) n
  cases s
  · by_cases h : b.toNat < a.toNat
    · have H1 : Hid (jlo (a, b, false, ea, eb) = b) := hid (by simp [jlo, h])
      have H2 : Hid (jhi (a, b, false, ea, eb) = a) := hid (by simp [jhi, h])
      rw [H1.out, H2.out]
      go_enter Ycbm.func11, Ycbm.ntmps11
      go_wp2
      go_quiet (fail)
      go_wp2
      go_ret2
      exact ⟨rfl, fin _ _⟩
    · have H1 : Hid (jlo (a, b, false, ea, eb) = a) := hid (by simp [jlo, h])
      have H2 : Hid (jhi (a, b, false, ea, eb) = b) := hid (by simp [jhi, h])
      rw [H1.out, H2.out]
      go_enter Ycbm.func11, Ycbm.ntmps11
      go_wp2
      go_quiet (fail)
      go_wp2
      go_ret2
      exact ⟨rfl, fin _ _⟩
  · have H1 : Hid (jlo (a, b, true, ea, eb) = a) := hid (by simp [jlo])
    have H2 : Hid (jhi (a, b, true, ea, eb) = a) := hid (by simp [jhi])
    rw [H1.out, H2.out]
    go_enter Ycbm.func11, Ycbm.ntmps11
    go_wp2
    go_quiet (fail)
    go_wp2
    go_ret2
    exact ⟨rfl, fin _ _⟩

theorem jput_cases (c : UInt8) (e : Bool) : (e = true ∧ jputs c e = [92, c]) ∨ (e = false ∧ ∃ x92 x93 x45 x33 : Bool, ((c.toNat : Int) == 92) = x92 ∧ ((c.toNat : Int) == 93) = x93 ∧ ((c.toNat : Int) == 45) = x45 ∧ ((c.toNat : Int) == 33) = x33 ∧ jputs c e = if x92 || x93 || x45 || x33 then [92, c] else [c]) := by
  cases e with
  | true => exact .inl ⟨rfl, by simp [jputs]⟩
  | false =>
    refine .inr ⟨rfl, _, _, _, _, rfl, rfl, rfl, rfl, ?_⟩
    have key : ∀ n : UInt8, (c == n) = ((c.toNat : Int) == (n.toNat : Int)) := by
      intro n
      rw [Bool.eq_iff_iff]
      simp only [beq_iff_eq]
      constructor
      · rintro rfl; rfl
      · intro h; exact UInt8.toNat_inj.1 (by omega)
    unfold jputs
    simp only [key, Bool.false_or]
    rfl

set_option maxHeartbeats 1000000 in
theorem jput_any (base : Nat) (v : Value) (bs : List UInt8) (c : UInt8) (e : Bool) (w : World) (hown : OwnB w base v bs) (hbase : base ≤ w.heap.size) (hlen : bs.length ≤ 140737488300000) :
    Calls Ycbm.prog 12 #[v, .int .u8 c.toNat, .bool e] w fun r w' => ∃ v', r = .returned v' ∧ OwnB w' base v' (bs ++ jputs c e) ∧ Below base w w' := by
  have one : ∀ (hj : jputs c e = [c]) , Hid (jputs c e = [c]) := fun h => h
  rcases jput_cases c e with ⟨rfl, hj⟩ | ⟨rfl, x92, x93, x45, x33, h92, h93, h45, h33, hj⟩
  · rw [hj]
    go_enter Ycbm.func12, Ycbm.ntmps12
    go_wp2_with (first
      | (at_builtin; refine wpList_appB1 w rfl (.tmp 24) (.tmp 25) 22 rfl Ycbm.underlying22 Ycbm.info5 base v bs rfl hown 92 rfl (by omega) hbase ?_; intro v1 w1 hown1 hb1)
      | (at_builtin; refine wpList_appB1 w1 rfl (.tmp 27) (.tmp 29) 22 rfl Ycbm.underlying22 Ycbm.info5 base v1 (bs ++ [92]) rfl hown1 c rfl (by simp; omega) (Nat.le_trans hbase hb1.size) ?_; intro v2 w2 hown2 hb2))
    go_ret
    exact ⟨_, rfl, by simpa using hown2, hb1.trans hb2⟩
  · have HJ := hid hj
    clear hj one
    cases x92 <;> cases x93 <;> cases x45 <;> cases x33
    case false.false.false.false =>
      rw [HJ.out]
      go_enter Ycbm.func12, Ycbm.ntmps12
      go_wp2_with (at_builtin; refine wpList_appB1 w rfl (.tmp 27) (.tmp 29) 22 rfl Ycbm.underlying22 Ycbm.info5 base v bs rfl hown c rfl (by omega) hbase ?_; intro v1 w1 hown1 hb1)
      go_ret
      exact ⟨_, rfl, hown1, hb1⟩
    all_goals first
      | (exfalso; simp at h92 h93 h45 h33; omega)
      | (rw [HJ.out]
         go_enter Ycbm.func12, Ycbm.ntmps12
         go_wp2_with (first
           | (at_builtin; refine wpList_appB1 w rfl (.tmp 24) (.tmp 25) 22 rfl Ycbm.underlying22 Ycbm.info5 base v bs rfl hown 92 rfl (by omega) hbase ?_; intro v1 w1 hown1 hb1)
           | (at_builtin; refine wpList_appB1 w1 rfl (.tmp 27) (.tmp 29) 22 rfl Ycbm.underlying22 Ycbm.info5 base v1 (bs ++ [92]) rfl hown1 c rfl (by simp; omega) (Nat.le_trans hbase hb1.size) ?_; intro v2 w2 hown2 hb2))
         go_ret
         exact ⟨_, rfl, by simpa using hown2, hb1.trans hb2⟩)
end Go.Proofs.Ymbrcb

import Derived.Test.YmbrbzProg
import Derived.Test.YmbrbzBytes
import Derived.WalkKit
import Derived.WalkSpells
import Derived.WalkLawsBesides
namespace Go.Proofs.Ymbrbz
open Go.RowKit

/-- The seven bytes that are written with a backslash. -/
def isSp (c : UInt8) : Bool := c == 42 || c == 63 || c == 91 || c == 93 || c == 92 || c == 45 || c == 33
def esc (c : UInt8) : List UInt8 := if isSp c then [92, c] else [c]

theorem esc_length (c : UInt8) : (esc c).length ≤ 2 := by unfold esc; split <;> simp

theorem sp_cases (c : UInt8) : (c.toNat = 42 ∧ esc c = [92, c]) ∨ (c.toNat = 63 ∧ esc c = [92, c]) ∨ (c.toNat = 91 ∧ esc c = [92, c]) ∨ (c.toNat = 93 ∧ esc c = [92, c]) ∨ (c.toNat = 92 ∧ esc c = [92, c]) ∨
    (c.toNat = 45 ∧ esc c = [92, c]) ∨ (c.toNat = 33 ∧ esc c = [92, c]) ∨ (c.toNat ≠ 42 ∧ c.toNat ≠ 63 ∧ c.toNat ≠ 91 ∧ c.toNat ≠ 93 ∧ c.toNat ≠ 92 ∧ c.toNat ≠ 45 ∧ c.toNat ≠ 33 ∧ esc c = [c]) := by
  have key : ∀ n : UInt8, (c == n) = decide (c.toNat = n.toNat) := by
    intro n
    rw [Bool.eq_iff_iff]
    simp [UInt8.toNat_inj]
  unfold esc isSp
  simp only [key]
  simp only [show (42 : UInt8).toNat = 42 from rfl, show (63 : UInt8).toNat = 63 from rfl, show (91 : UInt8).toNat = 91 from rfl, show (93 : UInt8).toNat = 93 from rfl, show (92 : UInt8).toNat = 92 from rfl, show (45 : UInt8).toNat = 45 from rfl, show (33 : UInt8).toNat = 33 from rfl]
  by_cases h1 : c.toNat = 42 <;> by_cases h2 : c.toNat = 63 <;> by_cases h3 : c.toNat = 91 <;> by_cases h4 : c.toNat = 93 <;> by_cases h5 : c.toNat = 92 <;> by_cases h6 : c.toNat = 45 <;> by_cases h7 : c.toNat = 33 <;> simp [h1, h2, h3, h4, h5, h6, h7]

theorem Ybzm.info5 : (Ybzm.prog.info? 5).map (fun i => (i.zero, i.size, i.bytes)) = some (some (.int .u8 0), 1, 1) := by kernel_rfl

set_option maxHeartbeats 400000 in
theorem appendChar_any (base : Nat) (v : Value) (bs : List UInt8) (c : UInt8) (w : World) (hown : OwnB w base v bs) (hbase : base ≤ w.heap.size) (hlen : bs.length ≤ 140737488355000) :
    Calls Ybzm.prog 36 #[v, .int .u8 c.toNat] w fun e w' => ∃ v', e = .returned v' ∧ OwnB w' base v' (bs ++ esc c) ∧ Below base w w' := by
  rcases sp_cases c with ⟨h1, he⟩ | ⟨h1, he⟩ | ⟨h1, he⟩ | ⟨h1, he⟩ | ⟨h1, he⟩ | ⟨h1, he⟩ | ⟨h1, he⟩ | ⟨h1, h2, h3, h4, h5, h6, h7, he⟩
  case inr.inr.inr.inr.inr.inr.inr =>
    rw [he]
    clear he
    go_enter Ybzm.func36, Ybzm.ntmps36
    go_wp2_with (at_builtin; refine wpList_appB w rfl (.tmp 17) (.tmp 19) 30 rfl Ybzm.underlying30 Ybzm.info5 base v bs rfl hown _ 1 1 [c] rfl rfl rfl (by simp; omega) hbase ?_; intro v1 w1 hown1 hb1 _)
    go_ret
    exact ⟨_, rfl, hown1, hb1⟩
  all_goals
    rw [he]
    clear he
    go_enter Ybzm.func36, Ybzm.ntmps36
    go_wp2_with (first
      | (at_builtin; refine wpList_appB w rfl (.tmp 14) (.tmp 15) 30 rfl Ybzm.underlying30 Ybzm.info5 base v bs rfl hown _ 1 1 [92] rfl rfl rfl (by simp; omega) hbase ?_; intro v1 w1 hown1 hb1 _)
      | (at_builtin; refine wpList_appB w1 rfl (.tmp 17) (.tmp 19) 30 rfl Ybzm.underlying30 Ybzm.info5 base v1 (bs ++ [92]) rfl hown1 _ 1 1 [c] (by first | rfl | simp [byteV, h1]) rfl rfl (by simp; omega) (Nat.le_trans hbase hb1.size) ?_; intro v2 w2 hown2 hb2 _))
    go_ret
    exact ⟨_, rfl, by simpa using hown2, hb1.trans hb2⟩

theorem appendChar_at (base : Nat) (v : Value) (bs : List UInt8) (z : Int) (c : UInt8) (hz : z = c.toNat) (w : World) (hown : OwnB w base v bs) (hbase : base ≤ w.heap.size) (hlen : bs.length ≤ 140737488355000) :
    Calls Ybzm.prog 36 #[v, .int .u8 z] w fun e w' => ∃ v', e = .returned v' ∧ OwnB w' base v' (bs ++ esc c) ∧ Below base w w' := by
  subst hz; exact appendChar_any base v bs c w hown hbase hlen
end Go.Proofs.Ymbrbz

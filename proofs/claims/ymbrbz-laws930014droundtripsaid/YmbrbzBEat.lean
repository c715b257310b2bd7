import Derived.Test.YmbrbzEspecial
import Derived.Test.YmbrbzAid
import Derived.Deep.LoopGhost
namespace Go.Proofs.Ymbrbz
open Go.RowKit

/-- From index p on s has the bytes ys (and any more). -/
def Starts (s : ByteArray) (p : Nat) (ys : List UInt8) : Prop := ∃ Z, s.data.toList.drop p = ys ++ Z

theorem Starts.left {s : ByteArray} {p : Nat} {a b : List UInt8} (h : Starts s p (a ++ b)) : Starts s p a := by
  obtain ⟨Z, h⟩ := h
  exact ⟨b ++ Z, by rw [h, List.append_assoc]⟩

theorem Starts.right {s : ByteArray} {p : Nat} {a b : List UInt8} (h : Starts s p (a ++ b)) : Starts s (p + a.length) b := by
  obtain ⟨Z, h⟩ := h
  refine ⟨Z, ?_⟩
  rw [← List.drop_drop, h, List.append_assoc, List.drop_left]

theorem Starts.head {s : ByteArray} {p : Nat} {c : UInt8} (h : Starts s p [c]) : ∃ hp : p < s.size, s[p] = c := by
  obtain ⟨Z, h⟩ := h
  have h1 : (s.data.toList.drop p)[0]? = some c := by rw [h]; rfl
  rw [List.getElem?_drop] at h1
  obtain ⟨h2, h3⟩ := List.getElem?_eq_some_iff.1 h1
  have h4 : p < s.size := by simpa using h2
  exact ⟨h4, by simpa [ByteArray.getElem_eq_getElem_data] using h3⟩

set_option maxHeartbeats 400000 in
theorem beat_at (s : ByteArray) (hs : s.size ≤ 9223372036854775806) (p : Nat) (z : Int) (c : UInt8) (hz : z = c.toNat) (h : Starts s p [c]) (w : World) :
    Calls Ybzm.prog 23 #[.string s, .int .i64 p, .int .u8 z] w fun e w' => e = .returned (.int .i64 (p + 1 : Nat)) ∧ w' = w := by
  obtain ⟨hp, hc⟩ := h.head
  have g : ((s[p].toNat : Int) != z) = false := by rw [hz, hc]; simp
  clear hc hz h
  go_enter Ybzm.func23, Ybzm.ntmps23
  go_wp2_with fail
  go_ret
  exact ⟨by go_num, rfl⟩

set_option maxHeartbeats 2000000 in
theorem bchar_any (c : UInt8) (w : World) : Calls Ybzm.prog 37 #[.int .u8 c.toNat] w fun e w' => (∃ d : UInt8, e = .returned (.int .u8 d.toNat)) ∧ w' = w := by
  have hc := c.toNat_lt
  by_cases h7 : c.toNat < 7
  · go_enter Ybzm.func37, Ybzm.ntmps37
    go_wp2
    go_ret
    exact ⟨⟨_, rfl⟩, rfl⟩
  · go_enter Ybzm.func37, Ybzm.ntmps37
    go_wp2_with fail
    go_loopg [3] 7 (fun g i wr => ∃ k : Nat, g = 7 - k ∧ k ≤ 7 ∧ i = .int .i64 k ∧ wr = w)
    case atStart => exact ⟨0, rfl, by omega, rfl, rfl⟩
    case round =>
      obtain ⟨k, rfl, hk, rfl, rfl⟩ := hrel
      by_cases hk7 : k < 7
      · go_wp2
        · go_ret
          refine ⟨⟨UInt8.ofNat k, ?_⟩, rfl⟩
          simp
          omega
        · go_roundg (7 - (k + 1))
          case rel => exact ⟨k + 1, rfl, by omega, by go_num, rfl⟩
          case measure => omega
      · go_wp2_with fail
        go_ret
        exact ⟨⟨c, rfl⟩, rfl⟩

set_option maxHeartbeats 2000000 in
theorem beatchar_at (s : ByteArray) (hs : s.size ≤ 9223372036854775806) (p : Nat) (c : UInt8) (h : Starts s p (esc c)) (w : World) :
    Calls Ybzm.prog 22 #[.string s, .int .i64 p, .int .u8 c.toNat] w fun e w' => e = .returned (.int .i64 (p + (esc c).length : Nat)) ∧ w' = w := by
  rcases isSp_cases c with ⟨h1, he⟩ | ⟨h1, he⟩ | ⟨h1, he⟩ | ⟨h1, he⟩ | ⟨h1, he⟩ | ⟨h1, he⟩ | ⟨h1, he⟩ | ⟨h1, h2, h3, h4, h5, h6, h7, he⟩
  case inr.inr.inr.inr.inr.inr.inr =>
    have e : esc c = [c] := by simp [esc, he]
    rw [e] at h ⊢
    clear he e
    have g0 : (((({ data := #[42, 63, 91, 93, 92, 45, 33] } : ByteArray)[0]'(by decide)).toNat : Int) == (c.toNat : Int)) = false := by show ((42 : Int) == (c.toNat : Int)) = false; exact beq_eq_false_iff_ne.2 (by omega)
    have g1 : (((({ data := #[42, 63, 91, 93, 92, 45, 33] } : ByteArray)[1]'(by decide)).toNat : Int) == (c.toNat : Int)) = false := by show ((63 : Int) == (c.toNat : Int)) = false; exact beq_eq_false_iff_ne.2 (by omega)
    have g2 : (((({ data := #[42, 63, 91, 93, 92, 45, 33] } : ByteArray)[2]'(by decide)).toNat : Int) == (c.toNat : Int)) = false := by show ((91 : Int) == (c.toNat : Int)) = false; exact beq_eq_false_iff_ne.2 (by omega)
    have g3 : (((({ data := #[42, 63, 91, 93, 92, 45, 33] } : ByteArray)[3]'(by decide)).toNat : Int) == (c.toNat : Int)) = false := by show ((93 : Int) == (c.toNat : Int)) = false; exact beq_eq_false_iff_ne.2 (by omega)
    have g4 : (((({ data := #[42, 63, 91, 93, 92, 45, 33] } : ByteArray)[4]'(by decide)).toNat : Int) == (c.toNat : Int)) = false := by show ((92 : Int) == (c.toNat : Int)) = false; exact beq_eq_false_iff_ne.2 (by omega)
    have g5 : (((({ data := #[42, 63, 91, 93, 92, 45, 33] } : ByteArray)[5]'(by decide)).toNat : Int) == (c.toNat : Int)) = false := by show ((45 : Int) == (c.toNat : Int)) = false; exact beq_eq_false_iff_ne.2 (by omega)
    have g6 : (((({ data := #[42, 63, 91, 93, 92, 45, 33] } : ByteArray)[6]'(by decide)).toNat : Int) == (c.toNat : Int)) = false := by show ((33 : Int) == (c.toNat : Int)) = false; exact beq_eq_false_iff_ne.2 (by omega)
    have H := hid h
    clear h h1 h2 h3 h4 h5 h6 h7
    go_enter Ybzm.func22, Ybzm.ntmps22
    go_wp2
    refine wp_loop_rounds 8 ?_
    iterate 8 (rw [rounds_succ]; go_wp2_with fail)
    refine (beat_at s hs p _ c rfl H.out _).mono ?_
    rintro e w1 ⟨rfl, rfl⟩
    go_wp2_with fail
    go_ret
    exact ⟨rfl, rfl⟩
  all_goals
    have e : esc c = [92, c] := by simp [esc, he]
    rw [e] at h ⊢
    clear he e
    have H1 := hid (Starts.left (a := [92]) (b := [c]) h)
    have H2 := hid (Starts.right (a := [92]) (b := [c]) h)
    have hlt := H1.out.head.1
    have hc2 := c.toNat_lt
    clear h
    go_enter Ybzm.func22, Ybzm.ntmps22
    go_wp2
    refine wp_loop_rounds 8 ?_
    repeat (rw [rounds_succ]; go_wp2_with fail)
    refine (beat_at s hs p _ 92 rfl H1.out _).mono ?_
    rintro e w1 ⟨rfl, rfl⟩
    go_wp2_with fail
    refine (beat_at s hs (p + 1) _ c (by omega) H2.out _).mono ?_
    rintro e w1 ⟨rfl, rfl⟩
    go_wp2_with fail
    go_ret
    exact ⟨rfl, rfl⟩
end Go.Proofs.Ymbrbz

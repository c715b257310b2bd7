import Derived.Test.YmbrcaFModel
namespace Go.Proofs.Ymbrca
open Go.RowKit

set_option maxHeartbeats 4000000 in
theorem fspec (w : World) (a : Option Addr) (n cap : Nat) (ts : List Tk) (hl : ts.length = n) (hm : n ≤ cap ∧ cap ≤ 9223372036854775807) (hr : TokensAt w a ts) (s : ByteArray) (hs : s.size ≤ 9223372036854775807) :
    Calls Ycam.prog 5 #[.slice a n cap, .string s] w fun e w' => e = .returned (.bool true) ∧ Below w.heap.size w w' := by
  have hn : n ≤ 9223372036854775807 := Nat.le_trans hm.1 hm.2
  clear hm
  by_cases h1 : 1024 < n
  · go_enter Ycam.func5, Ycam.ntmps5
    go_wp2_with fail
    go_ret
    exact ⟨rfl, Below.refl _ _⟩
  · have q1 : decide ((1024 : Int) < (n : Int)) = false := decide_eq_false (by omega)
    by_cases h2 : 1024 < s.size
    · go_enter Ycam.func5, Ycam.ntmps5
      go_wp2_with fail
      go_ret
      exact ⟨rfl, Below.refl _ _⟩
    · have q2 : decide ((1024 : Int) < (s.size : Int)) = false := decide_eq_false (by omega)
      have HR := hid hr
      have HL := hid hl
      clear hr hl
      go_enter Ycam.func5, Ycam.ntmps5
      go_wp2_with fail
      refine (matchTokens_any a n cap ts hn HL.out s (by omega) _ HR.out).mono ?_
      rintro e w1 ⟨rfl, hb1⟩
      go_wp2_with fail
      refine (fmodel_any a n cap ts (by omega) HL.out s (by omega) _ (HR.out.below hb1)).mono ?_
      rintro e w2 ⟨rfl, hb2⟩
      generalize mt ts s.data.toList = r
      cases r
      · go_wp2_with fail
        go_ret
        exact ⟨rfl, hb1.trans (hb2.mono hb1.size)⟩
      · go_wp2_with fail
        go_ret
        exact ⟨rfl, hb1.trans (hb2.mono hb1.size)⟩
end Go.Proofs.Ymbrca

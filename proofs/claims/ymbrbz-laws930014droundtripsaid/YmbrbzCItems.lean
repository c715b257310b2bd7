/-
  A slice of ZzS930014CItem that came in, read as a plain list (low byte, high byte, is it a range).
-/
import Derived.Test.YmbrbzOpen
namespace Go.Proofs.Ymbrbz
open Go.RowKit Go.ChangeShapes Go.WideShapes Go.Deep

def CItemsAt (w : World) (a : Option Addr) (l : List (UInt8 × UInt8 × Bool)) : Prop :=
  ∀ k, k < l.length → ∃ b off, a = some ⟨b, off, none⟩ ∧ w.cell? ⟨b, off + k * 3, none⟩ = some (.int .u8 (l.getD k (0, 0, false)).1.toNat) ∧
    w.cell? ⟨b, off + k * 3 + 1, none⟩ = some (.int .u8 (l.getD k (0, 0, false)).2.1.toNat) ∧ w.cell? ⟨b, off + k * 3 + 2, none⟩ = some (.bool (l.getD k (0, 0, false)).2.2)

section
variable {H : Type} {enc : TypeId × Value → H} {P : Program} {w : World} {base : Nat} {spare : Nat → Bool} {held : Bool}

theorem open_citems {t e : TypeId} {f0 f1 f2 : Field} {a : Option Addr} {len cap : Nat} {d : DataW H} {p : List MemPlace} (ht : P.underlying t = some (.slice e)) (hs : P.underlying e = some (.struct #[f0, f1, f2]))
    (hone : oneCellFields P #[f0, f1, f2] = true) (hC : P.cellsOf e = 3) (h0 : P.underlying f0.type = some (.int .u8)) (h1 : P.underlying f1.type = some (.int .u8)) (h2 : P.underlying f2.type = some .bool)
    (h : DataW.Trod enc P w base spare held t (.slice a len cap) d p) : ∃ l : List (UInt8 × UInt8 × Bool), l.length = len ∧ (len ≤ cap ∧ cap ≤ 9223372036854775807) ∧ CItemsAt w a l := by
  obtain ⟨fuel, hf⟩ := h
  rcases open_structs ht hs hone hC (by simp) hf with hcs | ⟨x, l, c, n, hcs, hl, hm, hx⟩
  · simp [Value.cells] at hcs
    obtain ⟨rfl, rfl, rfl⟩ := hcs
    exact ⟨[], rfl, by omega, fun k hk => absurd hk (Nat.not_lt_zero _)⟩
  · simp [Value.cells] at hcs
    obtain ⟨rfl, rfl, rfl⟩ := hcs
    unfold maxLen at hm
    obtain ⟨rs, hrl, hrs⟩ := list_of ((0, 0, false) : UInt8 × UInt8 × Bool) len (fun k r => ∃ b off, x = ⟨b, off, none⟩ ∧ w.cell? ⟨b, off + k * 3, none⟩ = some (.int .u8 r.1.toNat) ∧ w.cell? ⟨b, off + k * 3 + 1, none⟩ = some (.int .u8 r.2.1.toNat) ∧ w.cell? ⟨b, off + k * 3 + 2, none⟩ = some (.bool r.2.2)) (fun i hi => by
      obtain ⟨b, off, V, Y, rfl, hj⟩ := hx i hi
      obtain ⟨c0, t0⟩ := hj 0 f0 rfl
      obtain ⟨c1, t1⟩ := hj 1 f1 rfl
      obtain ⟨c2, t2⟩ := hj 2 f2 rfl
      obtain ⟨z0, e0, _, b0⟩ := DataW.trod_int h0 t0
      obtain ⟨z1, e1, _, b1⟩ := DataW.trod_int h1 t1
      obtain ⟨z2, e2, _⟩ := DataW.trod_bool h2 t2
      simp only [List.cons.injEq, and_true] at e0 e1 e2
      obtain ⟨u0, hu0⟩ := nat_of_u8 (bounds_u8 b0)
      obtain ⟨u1, hu1⟩ := nat_of_u8 (bounds_u8 b1)
      rw [e0, hu0] at c0
      rw [e1, hu1] at c1
      rw [e2] at c2
      exact ⟨(u0, u1, z2), b, off, rfl, by simpa using c0, by simpa using c1, by simpa using c2⟩)
    refine ⟨rs, hrl, by omega, fun k hk => ?_⟩
    obtain ⟨b, off, rfl, g0, g1, g2⟩ := hrs k (by omega)
    exact ⟨b, off, rfl, g0, g1, g2⟩
end
end Go.Proofs.Ymbrbz

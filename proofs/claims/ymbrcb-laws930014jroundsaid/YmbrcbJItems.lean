/-
  A slice of ZzS930014JItem that came in, read as a plain list (a, b, single, escA, escB).
-/
import Derived.Test.YmbrcbOpen
namespace Go.Proofs.Ymbrcb
open Go.RowKit Go.ChangeShapes Go.WideShapes Go.Deep

abbrev JIt := UInt8 × UInt8 × Bool × Bool × Bool
def jnone : JIt := (0, 0, false, false, false)

def JItemsAt (w : World) (a : Option Addr) (l : List JIt) : Prop :=
  ∀ k, k < l.length → ∃ b off, a = some ⟨b, off, none⟩ ∧ w.cell? ⟨b, off + k * 5, none⟩ = some (.int .u8 (l.getD k jnone).1.toNat) ∧ w.cell? ⟨b, off + k * 5 + 1, none⟩ = some (.int .u8 (l.getD k jnone).2.1.toNat) ∧
    w.cell? ⟨b, off + k * 5 + 2, none⟩ = some (.bool (l.getD k jnone).2.2.1) ∧ w.cell? ⟨b, off + k * 5 + 3, none⟩ = some (.bool (l.getD k jnone).2.2.2.1) ∧ w.cell? ⟨b, off + k * 5 + 4, none⟩ = some (.bool (l.getD k jnone).2.2.2.2)

section
variable {H : Type} {enc : TypeId × Value → H} {P : Program} {w : World} {base : Nat} {spare : Nat → Bool} {held : Bool}

theorem open_jitems {t e : TypeId} {f0 f1 f2 f3 f4 : Field} {a : Option Addr} {len cap : Nat} {d : DataW H} {p : List MemPlace} (ht : P.underlying t = some (.slice e)) (hs : P.underlying e = some (.struct #[f0, f1, f2, f3, f4]))
    (hone : oneCellFields P #[f0, f1, f2, f3, f4] = true) (hC : P.cellsOf e = 5) (h0 : P.underlying f0.type = some (.int .u8)) (h1 : P.underlying f1.type = some (.int .u8)) (h2 : P.underlying f2.type = some .bool) (h3 : P.underlying f3.type = some .bool) (h4 : P.underlying f4.type = some .bool)
    (h : DataW.Trod enc P w base spare held t (.slice a len cap) d p) : ∃ l : List JIt, l.length = len ∧ (len ≤ cap ∧ cap ≤ 9223372036854775807) ∧ JItemsAt w a l := by
  obtain ⟨fuel, hf⟩ := h
  rcases open_structs ht hs hone hC (by simp) hf with hcs | ⟨x, l, c, n, hcs, hl, hm, hx⟩
  · simp [Value.cells] at hcs
    obtain ⟨rfl, rfl, rfl⟩ := hcs
    exact ⟨[], rfl, by omega, fun k hk => absurd hk (Nat.not_lt_zero _)⟩
  · simp [Value.cells] at hcs
    obtain ⟨rfl, rfl, rfl⟩ := hcs
    unfold maxLen at hm
    obtain ⟨rs, hrl, hrs⟩ := list_of jnone len (fun k r => ∃ b off, x = ⟨b, off, none⟩ ∧ w.cell? ⟨b, off + k * 5, none⟩ = some (.int .u8 r.1.toNat) ∧ w.cell? ⟨b, off + k * 5 + 1, none⟩ = some (.int .u8 r.2.1.toNat) ∧ w.cell? ⟨b, off + k * 5 + 2, none⟩ = some (.bool r.2.2.1) ∧ w.cell? ⟨b, off + k * 5 + 3, none⟩ = some (.bool r.2.2.2.1) ∧ w.cell? ⟨b, off + k * 5 + 4, none⟩ = some (.bool r.2.2.2.2)) (fun i hi => by
      obtain ⟨b, off, V, Y, rfl, hj⟩ := hx i hi
      obtain ⟨c0, t0⟩ := hj 0 f0 rfl
      obtain ⟨c1, t1⟩ := hj 1 f1 rfl
      obtain ⟨c2, t2⟩ := hj 2 f2 rfl
      obtain ⟨c3, t3⟩ := hj 3 f3 rfl
      obtain ⟨c4, t4⟩ := hj 4 f4 rfl
      obtain ⟨z0, e0, _, b0⟩ := DataW.trod_int h0 t0
      obtain ⟨z1, e1, _, b1⟩ := DataW.trod_int h1 t1
      obtain ⟨z2, e2, _⟩ := DataW.trod_bool h2 t2
      obtain ⟨z3, e3, _⟩ := DataW.trod_bool h3 t3
      obtain ⟨z4, e4, _⟩ := DataW.trod_bool h4 t4
      simp only [List.cons.injEq, and_true] at e0 e1 e2 e3 e4
      obtain ⟨u0, hu0⟩ := nat_of_u8 (bounds_u8 b0)
      obtain ⟨u1, hu1⟩ := nat_of_u8 (bounds_u8 b1)
      rw [e0, hu0] at c0
      rw [e1, hu1] at c1
      rw [e2] at c2
      rw [e3] at c3
      rw [e4] at c4
      exact ⟨(u0, u1, z2, z3, z4), b, off, rfl, by simpa using c0, by simpa using c1, by simpa using c2, by simpa using c3, by simpa using c4⟩)
    refine ⟨rs, hrl, by omega, fun k hk => ?_⟩
    obtain ⟨b, off, rfl, g⟩ := hrs k (by omega)
    exact ⟨b, off, rfl, g⟩
end
end Go.Proofs.Ymbrcb

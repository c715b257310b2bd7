/-
  A slice of bools that came in, read as a plain list.
-/
import Derived.Test.YmbrcaOpen
namespace Go.Proofs.Ymbrca
open Go.RowKit Go.ChangeShapes Go.WideShapes Go.Deep

/-- From address a on lie the bools bl. -/
def BoolsAt (w : World) (a : Option Addr) (bl : List Bool) : Prop :=
  ∀ k, k < bl.length → ∃ b off, a = some ⟨b, off, none⟩ ∧ w.cell? ⟨b, off + k, none⟩ = some (.bool (bl.getD k false))

section
variable {H : Type} {enc : TypeId × Value → H} {P : Program} {w : World} {base : Nat} {spare : Nat → Bool} {held : Bool}

theorem open_bools {t e : TypeId} {a : Option Addr} {len cap : Nat} {d : DataW H} {p : List MemPlace} (ht : P.underlying t = some (.slice e)) (he : P.underlying e = some .bool) (hc : P.cellsOf e = 1)
    (h : DataW.Trod enc P w base spare held t (.slice a len cap) d p) : ∃ bl : List Bool, bl.length = len ∧ (len ≤ cap ∧ cap ≤ 9223372036854775807) ∧ BoolsAt w a bl := by
  obtain ⟨fuel, hf⟩ := h
  rcases open_slice1 ht hc hf with ⟨hcs, _⟩ | ⟨x, l, c, m, n, V, D, Pl, hcs, _, hl, hm, hmm, _, hx⟩
  · simp [Value.cells] at hcs
    obtain ⟨rfl, rfl, rfl⟩ := hcs
    exact ⟨[], rfl, by omega, fun k hk => absurd hk (Nat.not_lt_zero _)⟩
  · simp [Value.cells] at hcs
    obtain ⟨rfl, rfl, rfl⟩ := hcs
    have hlm : len ≤ m := by rw [hmm]; split <;> omega
    unfold maxLen at hm
    obtain ⟨bl, hbl, hbs⟩ := list_of false len (fun i b => w.cell? (x.add i) = some (.bool b)) (fun i hi => by
      obtain ⟨h1, h2⟩ := hx i (by omega)
      obtain ⟨b, e1, _⟩ := DataW.trod_bool he h2
      simp only [List.cons.injEq, and_true] at e1
      exact ⟨b, by rw [h1, e1]⟩)
    refine ⟨bl, hbl, by omega, fun k hk => ?_⟩
    obtain ⟨b, off, spot⟩ := x
    have hspot : spot = none := by simpa [Addr.add] using World.cell?_spot (hbs 0 (by omega))
    subst hspot
    have g := hbs k (by omega)
    rw [add_plain] at g
    exact ⟨b, off, rfl, g⟩
end
end Go.Proofs.Ymbrca

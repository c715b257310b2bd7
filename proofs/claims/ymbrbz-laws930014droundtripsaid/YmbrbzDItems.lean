/-
  A slice of ZzS930014DItem that came in, read as a plain list; an item bears its own raw ranges and where they lie.
-/
import Derived.Test.YmbrbzCItems
namespace Go.Proofs.Ymbrbz
open Go.RowKit Go.ChangeShapes Go.WideShapes Go.Deep

structure Di where
  kind : UInt8
  c : UInt8
  table : Bool
  neg : Bool
  esc : Bool
  rs : List (UInt8 × UInt8 × Bool)
  ra : Option Addr
  cap : Nat

def di0 : Di := ⟨0, 0, false, false, false, [], none, 0⟩

structure DiAt (w : World) (b o : Nat) (t : Di) : Prop where
  c0 : w.cell? ⟨b, o, none⟩ = some (.int .u8 t.kind.toNat)
  c1 : w.cell? ⟨b, o + 1, none⟩ = some (.int .u8 t.c.toNat)
  c2 : w.cell? ⟨b, o + 2, none⟩ = some (.bool t.table)
  c3 : w.cell? ⟨b, o + 3, none⟩ = some (.bool t.neg)
  c4 : w.cell? ⟨b, o + 4, none⟩ = some (.bool t.esc)
  c5 : w.cell? ⟨b, o + 5, none⟩ = some (.slice t.ra t.rs.length t.cap)

/-- From address a on lie the items, six cells each. -/
def DItemsAt (w : World) (a : Option Addr) (ts : List Di) : Prop :=
  ∀ k, k < ts.length → ∃ b off, a = some ⟨b, off, none⟩ ∧ DiAt w b (off + k * 6) (ts.getD k di0) ∧ (ts.getD k di0).rs.length ≤ 9223372036854775807 ∧ CItemsAt w (ts.getD k di0).ra (ts.getD k di0).rs

theorem DiAt.below {w w' : World} {b o : Nat} {t : Di} {B : Nat} (h : DiAt w b o t) (hb : Below B w w') (hlt : b < B) : DiAt w' b o t :=
  ⟨(hb.cell (p := ⟨b, o, none⟩) hlt).trans h.c0, (hb.cell (p := ⟨b, o + 1, none⟩) hlt).trans h.c1, (hb.cell (p := ⟨b, o + 2, none⟩) hlt).trans h.c2, (hb.cell (p := ⟨b, o + 3, none⟩) hlt).trans h.c3, (hb.cell (p := ⟨b, o + 4, none⟩) hlt).trans h.c4, (hb.cell (p := ⟨b, o + 5, none⟩) hlt).trans h.c5⟩

theorem DiAt.lt {w : World} {b o : Nat} {t : Di} (h : DiAt w b o t) : b < w.heap.size := block_lt h.c0

section
variable {H : Type} {enc : TypeId × Value → H} {P : Program} {w : World} {base : Nat} {spare : Nat → Bool} {held : Bool}

theorem open_ditems {t e se : TypeId} {f0 f1 f2 f3 f4 f5 s0 s1 s2 : Field} {a : Option Addr} {len cap : Nat} {d : DataW H} {p : List MemPlace} (ht : P.underlying t = some (.slice e)) (hs : P.underlying e = some (.struct #[f0, f1, f2, f3, f4, f5]))
    (hone : oneCellFields P #[f0, f1, f2, f3, f4, f5] = true) (hC : P.cellsOf e = 6) (h0 : P.underlying f0.type = some (.int .u8)) (h1 : P.underlying f1.type = some (.int .u8)) (h2 : P.underlying f2.type = some .bool) (h3 : P.underlying f3.type = some .bool) (h4 : P.underlying f4.type = some .bool) (h5 : P.underlying f5.type = some (.slice se))
    (hs3 : P.underlying se = some (.struct #[s0, s1, s2])) (hone3 : oneCellFields P #[s0, s1, s2] = true) (hC3 : P.cellsOf se = 3) (k0 : P.underlying s0.type = some (.int .u8)) (k1 : P.underlying s1.type = some (.int .u8)) (k2 : P.underlying s2.type = some .bool)
    (h : DataW.Trod enc P w base spare held t (.slice a len cap) d p) : ∃ l : List Di, l.length = len ∧ (len ≤ cap ∧ cap ≤ 9223372036854775807) ∧ DItemsAt w a l := by
  obtain ⟨fuel, hf⟩ := h
  rcases open_structs ht hs hone hC (by simp) hf with hcs | ⟨x, l, c, n, hcs, hl, hm, hx⟩
  · simp [Value.cells] at hcs
    obtain ⟨rfl, rfl, rfl⟩ := hcs
    exact ⟨[], rfl, by omega, fun k hk => absurd hk (Nat.not_lt_zero _)⟩
  · simp [Value.cells] at hcs
    obtain ⟨rfl, rfl, rfl⟩ := hcs
    unfold maxLen at hm
    obtain ⟨ts, htl, hts⟩ := list_of di0 len (fun k t => ∃ b off, x = ⟨b, off, none⟩ ∧ DiAt w b (off + k * 6) t ∧ t.rs.length ≤ 9223372036854775807 ∧ CItemsAt w t.ra t.rs) (fun i hi => by
      obtain ⟨b, off, V, Y, rfl, hj⟩ := hx i hi
      obtain ⟨c0, t0⟩ := hj 0 f0 rfl
      obtain ⟨c1, t1⟩ := hj 1 f1 rfl
      obtain ⟨c2, t2⟩ := hj 2 f2 rfl
      obtain ⟨c3, t3⟩ := hj 3 f3 rfl
      obtain ⟨c4, t4⟩ := hj 4 f4 rfl
      obtain ⟨c5, t5⟩ := hj 5 f5 rfl
      obtain ⟨z0, e0, _, b0⟩ := DataW.trod_int h0 t0
      obtain ⟨z1, e1, _, b1⟩ := DataW.trod_int h1 t1
      obtain ⟨z2, e2, _⟩ := DataW.trod_bool h2 t2
      obtain ⟨z3, e3, _⟩ := DataW.trod_bool h3 t3
      obtain ⟨z4, e4, _⟩ := DataW.trod_bool h4 t4
      have hsl : ∃ a3 l3 c3, V 5 = .slice a3 l3 c3 := by
        rcases open_slice h5 t5 with ⟨q, _⟩ | ⟨a3, l3, c3, _, _, _, _, q, _⟩
        · exact ⟨none, 0, 0, by simpa using q⟩
        · exact ⟨some a3, l3, c3, by simpa using q⟩
      obtain ⟨a3, l3, c3', e5⟩ := hsl
      rw [e5] at t5 c5
      obtain ⟨rs, hrl, hrc, hra⟩ := open_citems (d := (Y 5).1) (p := (Y 5).2) h5 hs3 hone3 hC3 k0 k1 k2 ⟨n, by simpa [Value.cells] using t5⟩
      simp only [List.cons.injEq, and_true] at e0 e1 e2 e3 e4
      obtain ⟨u0, hu0⟩ := nat_of_u8 (bounds_u8 b0)
      obtain ⟨u1, hu1⟩ := nat_of_u8 (bounds_u8 b1)
      rw [e0, hu0] at c0
      rw [e1, hu1] at c1
      rw [e2] at c2
      rw [e3] at c3
      rw [e4] at c4
      subst hrl
      exact ⟨⟨u0, u1, z2, z3, z4, rs, a3, c3'⟩, b, off, rfl, ⟨by simpa using c0, by simpa using c1, by simpa using c2, by simpa using c3, by simpa using c4, by simpa using c5⟩, Nat.le_trans hrc.1 hrc.2, hra⟩)
    refine ⟨ts, htl, by omega, fun k hk => ?_⟩
    obtain ⟨b, off, rfl, g⟩ := hts k (by omega)
    exact ⟨b, off, rfl, g⟩
end
end Go.Proofs.Ymbrbz

/-
  A slice of glob.Token that came in, read as a plain list. A token bears its own ranges and where they lie.
-/
import Derived.Test.YmbrbzOpen
namespace Go.Proofs.Ymbrbz
open Go.RowKit Go.ChangeShapes Go.WideShapes Go.Deep

structure Tk where
  kind : Int
  char : UInt8
  neg : Bool
  rs : List (UInt8 × UInt8)
  ra : Option Addr
  cap : Nat

def tk0 : Tk := ⟨0, 0, false, [], none, 0⟩

/-- The token's value in Go. -/
def Tk.val (t : Tk) : Value := .slice t.ra t.rs.length t.cap

structure RsOk (w : World) (t : Tk) : Prop where
  le : t.rs.length ≤ t.cap
  room : t.cap ≤ 9223372036854775807
  lo : -9223372036854775808 ≤ t.kind
  hi : t.kind ≤ 9223372036854775807
  at_ : RangesAt w t.ra t.rs

structure TokAt (w : World) (b o : Nat) (t : Tk) : Prop where
  c0 : w.cell? ⟨b, o, none⟩ = some (.int .i64 t.kind)
  c1 : w.cell? ⟨b, o + 1, none⟩ = some (.int .u8 t.char.toNat)
  c2 : w.cell? ⟨b, o + 2, none⟩ = some (.bool t.neg)
  c3 : w.cell? ⟨b, o + 3, none⟩ = some (.slice t.ra t.rs.length t.cap)

/-- From address a on lie the tokens ts, four cells each, the ranges of each in memory. -/
def TokensAt (w : World) (a : Option Addr) (ts : List Tk) : Prop :=
  ∀ k, k < ts.length → ∃ b off, a = some ⟨b, off, none⟩ ∧ TokAt w b (off + k * 4) (ts.getD k tk0) ∧ RsOk w (ts.getD k tk0)

theorem RsOk.below {w w' : World} {t : Tk} (h : RsOk w t) (hb : Below w.heap.size w w') : RsOk w' t := ⟨h.le, h.room, h.lo, h.hi, h.at_.below hb⟩

theorem TokAt.below {w w' : World} {b o : Nat} {t : Tk} {B : Nat} (h : TokAt w b o t) (hb : Below B w w') (hlt : b < B) : TokAt w' b o t :=
  ⟨(hb.cell (p := ⟨b, o, none⟩) hlt).trans h.c0, (hb.cell (p := ⟨b, o + 1, none⟩) hlt).trans h.c1, (hb.cell (p := ⟨b, o + 2, none⟩) hlt).trans h.c2, (hb.cell (p := ⟨b, o + 3, none⟩) hlt).trans h.c3⟩

theorem TokAt.lt {w : World} {b o : Nat} {t : Tk} (h : TokAt w b o t) : b < w.heap.size := block_lt h.c0

theorem TokensAt.below {w w' : World} {a : Option Addr} {ts : List Tk} (h : TokensAt w a ts) (hb : Below w.heap.size w w') : TokensAt w' a ts := by
  intro k hk
  obtain ⟨b, off, e, h0, h1⟩ := h k hk
  exact ⟨b, off, e, h0.below hb h0.lt, h1.below hb⟩

section
variable {H : Type} {enc : TypeId × Value → H} {P : Program} {w : World} {base : Nat} {spare : Nat → Bool} {held : Bool}

theorem open_tokens {t e se : TypeId} {f0 f1 f2 f3 s0 s1 : Field} {a : Option Addr} {len cap : Nat} {d : DataW H} {p : List MemPlace} (ht : P.underlying t = some (.slice e)) (hs : P.underlying e = some (.struct #[f0, f1, f2, f3]))
    (hone : oneCellFields P #[f0, f1, f2, f3] = true) (hC : P.cellsOf e = 4) (h0 : P.underlying f0.type = some (.int .i64)) (h1 : P.underlying f1.type = some (.int .u8)) (h2 : P.underlying f2.type = some .bool) (h3 : P.underlying f3.type = some (.slice se))
    (hs3 : P.underlying se = some (.struct #[s0, s1])) (hone3 : oneCellFields P #[s0, s1] = true) (hC3 : P.cellsOf se = 2) (k0 : P.underlying s0.type = some (.int .u8)) (k1 : P.underlying s1.type = some (.int .u8))
    (h : DataW.Trod enc P w base spare held t (.slice a len cap) d p) : ∃ l : List Tk, l.length = len ∧ (len ≤ cap ∧ cap ≤ 9223372036854775807) ∧ TokensAt w a l := by
  obtain ⟨fuel, hf⟩ := h
  rcases open_structs ht hs hone hC (by simp) hf with hcs | ⟨x, l, c, n, hcs, hl, hm, hx⟩
  · simp [Value.cells] at hcs
    obtain ⟨rfl, rfl, rfl⟩ := hcs
    exact ⟨[], rfl, by omega, fun k hk => absurd hk (Nat.not_lt_zero _)⟩
  · simp [Value.cells] at hcs
    obtain ⟨rfl, rfl, rfl⟩ := hcs
    unfold maxLen at hm
    obtain ⟨ts, htl, hts⟩ := list_of tk0 len (fun k t => ∃ b off, x = ⟨b, off, none⟩ ∧ TokAt w b (off + k * 4) t ∧ RsOk w t) (fun i hi => by
      obtain ⟨b, off, V, Y, rfl, hj⟩ := hx i hi
      obtain ⟨c0, t0⟩ := hj 0 f0 rfl
      obtain ⟨c1, t1⟩ := hj 1 f1 rfl
      obtain ⟨c2, t2⟩ := hj 2 f2 rfl
      obtain ⟨c3, t3⟩ := hj 3 f3 rfl
      obtain ⟨z0, e0, _, b0⟩ := DataW.trod_int h0 t0
      obtain ⟨z1, e1, _, b1⟩ := DataW.trod_int h1 t1
      obtain ⟨z2, e2, _⟩ := DataW.trod_bool h2 t2
      have hsl : ∃ a3 l3 c3, V 3 = .slice a3 l3 c3 := by
        rcases open_slice h3 t3 with ⟨q, _⟩ | ⟨a3, l3, c3, _, _, _, _, q, _⟩
        · exact ⟨none, 0, 0, by simpa using q⟩
        · exact ⟨some a3, l3, c3, by simpa using q⟩
      obtain ⟨a3, l3, c3', e3⟩ := hsl
      rw [e3] at t3 c3
      obtain ⟨rs, hrl, hrc, hra⟩ := open_ranges (d := (Y 3).1) (p := (Y 3).2) h3 hs3 hone3 hC3 k0 k1 ⟨n, by simpa [Value.cells] using t3⟩
      simp only [List.cons.injEq, and_true] at e0 e1 e2
      obtain ⟨u1, hu1⟩ := nat_of_u8 (bounds_u8 b1)
      have bd := bounds_i64 b0
      rw [e0] at c0
      rw [e1, hu1] at c1
      rw [e2] at c2
      subst hrl
      exact ⟨⟨z0, u1, z2, rs, a3, c3'⟩, b, off, rfl, ⟨by simpa using c0, by simpa using c1, by simpa using c2, by simpa using c3⟩, ⟨hrc.1, hrc.2, bd.1, bd.2, hra⟩⟩)
    refine ⟨ts, htl, by omega, fun k hk => ?_⟩
    obtain ⟨b, off, rfl, g⟩ := hts k (by omega)
    exact ⟨b, off, rfl, g⟩
end
end Go.Proofs.Ymbrbz

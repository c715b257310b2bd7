/-
  How this seat's arguments are opened: slices of bytes, of bools, of structs of one-cell fields, read as plain lists.
-/
import Derived.Test.YmbrbzCommon
import Derived.Deep.Fields
import Derived.OpenShut
namespace Go.Proofs.Ymbrbz
open Go.RowKit Go.ChangeShapes Go.WideShapes Go.Deep

theorem list_of {α : Type} (d : α) (n : Nat) (p : Nat → α → Prop) (h : ∀ i, i < n → ∃ x, p i x) : ∃ l : List α, l.length = n ∧ ∀ i, i < n → p i (l.getD i d) := by
  induction n with
  | zero => exact ⟨[], rfl, fun i hi => absurd hi (Nat.not_lt_zero _)⟩
  | succ n ih =>
    obtain ⟨l, hl, hp⟩ := ih (fun i hi => h i (Nat.lt_succ_of_lt hi))
    obtain ⟨x, hx⟩ := h n (Nat.lt_succ_self n)
    refine ⟨l ++ [x], by simp [hl], fun i hi => ?_⟩
    by_cases hin : i < n
    · have e : (l ++ [x]).getD i d = l.getD i d := by simp [List.getD_eq_getElem?_getD, List.getElem?_append_left (show i < l.length by omega)]
      rw [e]; exact hp i hin
    · have hi' : i = n := by omega
      subst hi'
      have e : (l ++ [x]).getD i d = x := by simp [List.getD_eq_getElem?_getD, ← hl]
      rw [e]; exact hx

section
variable {H : Type} {enc : TypeId × Value → H} {P : Program} {w : World} {base : Nat} {spare : Nat → Bool} {held : Bool}

theorem open_structs {t e : TypeId} {fs : Array Field} {fuel : Nat} {cs : List Value} {x : DataW H × List MemPlace} (ht : P.underlying t = some (.slice e)) (hs : P.underlying e = some (.struct fs))
    (hone : oneCellFields P fs = true) (hC : P.cellsOf e = fs.size) (hpos : 0 < fs.size) (h : DataW.trod enc P w base spare held fuel t cs = some x) :
    cs = [.slice none 0 0] ∨
    ∃ (a : Addr) (len cap n : Nat), cs = [.slice (some a) len cap] ∧ len ≤ cap ∧ cap ≤ maxLen ∧
      ∀ i, i < len → ∃ (b off : Nat) (V : Nat → Value) (Y : Nat → DataW H × List MemPlace), a = ⟨b, off, none⟩ ∧
        ∀ (j : Nat) (f : Field), fs[j]? = some f → w.cell? ⟨b, off + i * fs.size + j, none⟩ = some (V j) ∧ DataW.trod enc P w base spare held n f.type [V j] = some (Y j) := by
  rcases open_slice ht h with ⟨h0, _⟩ | ⟨a, len, cap, m, n, D, Pl, rfl, hb, hl, hm, hmm, rfl, hx⟩
  · exact Or.inl h0
  refine Or.inr ⟨a, len, cap, n - 1, rfl, hl, hm, fun i hi => ?_⟩
  have hlm : len ≤ m := by rw [hmm]; split <;> omega
  obtain ⟨cs', h1, h2⟩ := hx i (by omega)
  rw [hC] at h1
  obtain ⟨_, hlen, hcell⟩ := World.cells?_some h1
  obtain ⟨xs, k, hk, hxy, _, hxl, hf⟩ := DataW.trod_struct hs h2
  have hk' : k = n - 1 := by omega
  subst hk'
  obtain ⟨b, off, spot⟩ := a
  have hspot : spot = none := by
    obtain ⟨cs0, q1, _⟩ := hx 0 (by omega)
    rw [hC] at q1
    obtain ⟨_, qlen, qcell⟩ := World.cells?_some q1
    have h0 := qcell 0 hpos
    rw [List.getElem?_eq_getElem (by omega)] at h0
    simpa [Addr.add] using World.cell?_spot h0
  subst hspot
  refine ⟨b, off, fun j => cs'.getD j undef, fun j => xs.getD j (.nil, []), rfl, fun j f hj => ?_⟩
  have hlt : j < fs.size := (Array.getElem?_eq_some_iff.1 hj).1
  obtain ⟨ho, hc1⟩ := hone_of hone j f hj
  have g := hf j f hj
  rw [ho, hc1] at g
  rw [take1_drop cs' j undef (by omega), List.getElem?_eq_getElem (by omega)] at g
  refine ⟨?_, ?_⟩
  · have := hcell j hlt
    rw [add_add, add_plain, List.getElem?_eq_getElem (by omega)] at this
    rw [Nat.add_assoc, this]
    simp [List.getD, List.getElem?_eq_getElem (show j < cs'.length by omega)]
  · rw [g]
    simp [List.getD, List.getElem?_eq_getElem (show j < xs.length by omega)]

/-- A slice of bytes that came in. -/
theorem open_bytes {t e : TypeId} {a : Option Addr} {len cap : Nat} {d : DataW H} {p : List MemPlace} (ht : P.underlying t = some (.slice e)) (he : P.underlying e = some (.int .u8)) (hc : P.cellsOf e = 1)
    (h : DataW.Trod enc P w base spare held t (.slice a len cap) d p) : ∃ bs : List UInt8, bs.length = len ∧ (len ≤ cap ∧ cap ≤ 9223372036854775807) ∧ BytesAt w a bs := by
  obtain ⟨fuel, hf⟩ := h
  rcases open_ints ht he hc hf with ⟨hcs, _⟩ | ⟨x, l, c, zs, hcs, _, hl, hm, hz, _, hcell, hwz⟩
  · simp [Value.cells] at hcs
    obtain ⟨rfl, rfl, rfl⟩ := hcs
    exact ⟨[], rfl, by omega, fun k hk => absurd hk (Nat.not_lt_zero _)⟩
  · simp [Value.cells] at hcs
    obtain ⟨rfl, rfl, rfl⟩ := hcs
    have hlz : len ≤ zs.length := by rw [hz]; split <;> omega
    obtain ⟨bs, hbl, hbs⟩ := list_of (0 : UInt8) len (fun i c => zs.getD i 0 = (c.toNat : Int)) (fun i hi => by
      have hmem : zs.getD i 0 ∈ zs := by
        rw [List.getD_eq_getElem?_getD, List.getElem?_eq_getElem (by omega)]
        exact List.getElem_mem _
      exact nat_of_u8 (bounds_u8 (hwz _ hmem)))
    unfold maxLen at hm
    refine ⟨bs, hbl, by omega, fun k hk => ?_⟩
    obtain ⟨b, off, spot⟩ := x
    have g := hcell k (by omega)
    have hspot : spot = none := by simpa [Addr.add] using World.cell?_spot (hcell 0 (by omega))
    subst hspot
    rw [add_plain, hbs k (by omega)] at g
    exact ⟨b, off, rfl, g⟩

/-- A slice of ranges that came in. -/
theorem open_ranges {t e : TypeId} {f0 f1 : Field} {a : Option Addr} {len cap : Nat} {d : DataW H} {p : List MemPlace} (ht : P.underlying t = some (.slice e)) (hs : P.underlying e = some (.struct #[f0, f1]))
    (hone : oneCellFields P #[f0, f1] = true) (hC : P.cellsOf e = 2) (h0 : P.underlying f0.type = some (.int .u8)) (h1 : P.underlying f1.type = some (.int .u8))
    (h : DataW.Trod enc P w base spare held t (.slice a len cap) d p) : ∃ rs : List (UInt8 × UInt8), rs.length = len ∧ (len ≤ cap ∧ cap ≤ 9223372036854775807) ∧ RangesAt w a rs := by
  obtain ⟨fuel, hf⟩ := h
  rcases open_structs ht hs hone hC (by simp) hf with hcs | ⟨x, l, c, n, hcs, hl, hm, hx⟩
  · simp [Value.cells] at hcs
    obtain ⟨rfl, rfl, rfl⟩ := hcs
    exact ⟨[], rfl, by omega, fun k hk => absurd hk (Nat.not_lt_zero _)⟩
  · simp [Value.cells] at hcs
    obtain ⟨rfl, rfl, rfl⟩ := hcs
    unfold maxLen at hm
    obtain ⟨rs, hrl, hrs⟩ := list_of ((0, 0) : UInt8 × UInt8) len (fun k r => ∃ b off, x = ⟨b, off, none⟩ ∧ w.cell? ⟨b, off + k * 2, none⟩ = some (.int .u8 r.1.toNat) ∧ w.cell? ⟨b, off + k * 2 + 1, none⟩ = some (.int .u8 r.2.toNat)) (fun i hi => by
      obtain ⟨b, off, V, Y, rfl, hj⟩ := hx i hi
      obtain ⟨c0, t0⟩ := hj 0 f0 rfl
      obtain ⟨c1, t1⟩ := hj 1 f1 rfl
      obtain ⟨z0, e0, _, b0⟩ := DataW.trod_int h0 t0
      obtain ⟨z1, e1, _, b1⟩ := DataW.trod_int h1 t1
      simp only [List.cons.injEq, and_true] at e0 e1
      obtain ⟨u0, hu0⟩ := nat_of_u8 (bounds_u8 b0)
      obtain ⟨u1, hu1⟩ := nat_of_u8 (bounds_u8 b1)
      rw [e0, hu0] at c0
      rw [e1, hu1] at c1
      exact ⟨(u0, u1), b, off, rfl, by simpa using c0, by simpa using c1⟩)
    refine ⟨rs, hrl, by omega, fun k hk => ?_⟩
    obtain ⟨b, off, rfl, g0, g1⟩ := hrs k (by omega)
    exact ⟨b, off, rfl, g0, g1⟩

end
end Go.Proofs.Ymbrbz

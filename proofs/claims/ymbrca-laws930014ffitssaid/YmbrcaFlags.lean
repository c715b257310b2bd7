/-
  A slice of bools that the call itself makes with 'make' and writes into.
-/
import Derived.Test.YmbrcaBytes
import Derived.Test.YmbrcaProg
namespace Go.Proofs.Ymbrca
open Go.RowKit Go.WideShapes

theorem Ycam.infoBool : (Ycam.prog.info? 4).map (fun i => (i.zero, i.size, i.bytes)) = some (some (.bool false), 1, 1) := by kernel_rfl

def flagsL (n : Nat) (f : Nat → Bool) : List Value := (List.range n).map fun i => .bool (f i)

/-- The row in block g holds f 0 .. f (n-1). -/
def OwnF (w : World) (base g n : Nat) (f : Nat → Bool) : Prop := w.ownsRow base 4 1 (.slice (some ⟨g, 0, none⟩) n n) n (flagsL n f)

theorem OwnF.congr {w : World} {base g n : Nat} {f f' : Nat → Bool} (h : OwnF w base g n f) (e : ∀ i, i < n → f i = f' i) : OwnF w base g n f' := by
  unfold OwnF at *
  have : flagsL n f = flagsL n f' := List.map_congr_left fun i hi => by rw [e i (by simpa using hi)]
  rw [← this]; exact h

theorem OwnF.lt {w : World} {base g n : Nat} {f : Nat → Bool} (h : OwnF w base g n f) : base ≤ g ∧ g < w.heap.size := World.ownsRow.lt h g rfl

theorem OwnF.cellAt {w : World} {base g n : Nat} {f : Nat → Bool} (h : OwnF w base g n f) (k : Nat) (hk : k < n) : w.cell? ⟨g, k, none⟩ = some (.bool (f k)) := by
  have := World.ownsRow.cells h (g := g) rfl k (.bool (f k)) (by simp [flagsL, hk])
  rw [add_plain] at this
  simpa using this

theorem OwnF.frozenAt {w : World} {base g n : Nat} {f : Nat → Bool} (h : OwnF w base g n f) (k : Nat) : w.frozen? ⟨g, k, none⟩ = false := World.ownsRow.frozenAt h k

theorem OwnF.set {w : World} {base g n : Nat} {f : Nat → Bool} (h : OwnF w base g n f) (k : Nat) (b : Bool) : OwnF (w.setCell ⟨g, k, none⟩ (.bool b)) base g n (fun i => if i = k then b else f i) := by
  have := (World.ownsRow.stored h k (.bool b)).1
  unfold OwnF
  have e : flagsL n (fun i => if i = k then b else f i) = (flagsL n f).set k (.bool b) := by
    apply List.ext_getElem
    · simp [flagsL]
    · intro i h1 h2
      simp only [flagsL, List.getElem_map, List.getElem_range, List.getElem_set]
      by_cases hik : i = k
      · simp [hik]
      · rw [if_neg hik, if_neg (fun h => hik h.symm)]
  rw [e]; exact this

theorem OwnF.kept {w w' : World} {base B g n : Nat} {f : Nat → Bool} (h : OwnF w base g n f) (hb : Below B w w') (hB : g < B) : OwnF w' base g n f := by
  refine ⟨h.1, ?_⟩
  rcases h.2 with ⟨h2, _⟩ | ⟨g', cap, cur, hv', hg, hh, r⟩
  · cases h2
  · simp only [Value.slice.injEq, Option.some.injEq, Addr.mk.injEq, and_true, true_and] at hv'
    obtain ⟨rfl, rfl⟩ := hv'
    exact .inr ⟨g, n, cur, rfl, hg, by rw [hb.block g hB]; exact hh, r⟩

theorem OwnF.setOther {w : World} {base g n : Nat} {f : Nat → Bool} (h : OwnF w base g n f) {g' : Nat} (hne : g ≠ g') (j : Nat) (u : Value) : OwnF (w.setCell ⟨g', j, none⟩ u) base g n f := by
  refine ⟨h.1, ?_⟩
  rcases h.2 with ⟨h2, _⟩ | ⟨g2, cap, cur, hv', hg, hh, r⟩
  · cases h2
  · simp only [Value.slice.injEq, Option.some.injEq, Addr.mk.injEq, and_true, true_and] at hv'
    obtain ⟨rfl, rfl⟩ := hv'
    exact .inr ⟨g, n, cur, rfl, hg, by rw [Below.heap_setCell w ⟨g', j, none⟩ u g hne]; exact hh, r⟩

/-- 'make([]bool, n)'. -/
theorem wpList_makeF {P : Program} (w : World) {ops : Array Oper} {rest : List Oper} {o : Oper} {a : Act} {Q : Exit → Act → World → Prop} (hgd : o.guard = none) (l c : Operand) (t : TypeId) (ho : o.op = Op.makeSlice t l c)
    (ht : P.underlying t = some (.slice 4)) (hi : (P.info? 4).map (fun i => (i.zero, i.size, i.bytes)) = some (some (.bool false), 1, 1))
    (base : Nat) (L C : Int) (n : Nat) (hl : a.eval l = .int .i64 L) (hc : a.eval c = .int .i64 C) (hL : L = n) (hC : C = n) (hn : n ≤ 140737488355328) (hbase : base ≤ w.heap.size)
    (h : ∀ w', OwnF w' base w.heap.size n (fun _ => false) → Below base w w' → Below w.heap.size w w' → wpList P ops Q rest (a.put o.dst (.slice (some ⟨w.heap.size, 0, none⟩) n n)) w') :
    wpList P ops Q (o :: rest) a w := by
  obtain ⟨i0, h1, h2, h3, h4⟩ := info_parts hi
  refine wpList_make_full w hgd l c t ho base 4 i0 (.bool false) 1 ht h1 h2 h3 .i64 .i64 L C n hl hc hL hC (by rw [h4]; omega) (by simp [maxLen]; omega) hbase ?_
  intro w' g1 g2
  have hbel : ∀ b, b ≤ w.heap.size → Below b w w' := fun b hb => Below.grown (Below.refl _ _) g2 hb (fun k hk => by cases hk)
  refine h w' ?_ (hbel _ hbase) (hbel _ (Nat.le_refl _))
  unfold OwnF
  have e : (madeCells (Value.bool false).cells (n * 1)).toList = flagsL n (fun _ => false) := by
    show (madeCells #[Value.bool false] (n * 1)).toList = _
    rw [toList_madeCells_one, Nat.mul_one]
    apply List.ext_getElem
    · simp [flagsL]
    · intro i _ _
      simp [flagsL]
  rw [e] at g1
  exact g1
end Go.Proofs.Ymbrca

import Derived.Test.YmbrbzBytes
namespace Go.Proofs.Ymbrbz
open Go.RowKit Go.WideShapes

/-- A block of another element type stays as it is while a row is appended to. -/
theorem keepBlock {w0 w' : World} {base : Nat} {e' : TypeId} {size : Nat} {v : Value} {n : Nat} {xs : List Value} {o : Obj} (h : w0.ownsRow base e' size v n xs) (hg : (w0.alloc o).grownBy w' v.ownBlock)
    {g : Nat} {cs : Array Value} {e : TypeId} {m : Nat × Nat} (hb : w0.heap[g]? = some (.cells cs e m)) (he : e ≠ e') : w'.heap[g]? = some (.cells cs e m) := by
  have hlt : g < w0.heap.size := (Array.getElem?_eq_some_iff.1 hb).1
  rw [hg.block g (by simp; omega) ?_, ← hb]
  · exact Below.heap_alloc w0 o g hlt
  · intro e1
    rcases h.2 with ⟨rfl, _⟩ | ⟨g', cap, cur, rfl, _, hg', _⟩
    · cases e1
    · simp only [Value.ownBlock, Option.some.injEq] at e1
      subst e1
      rw [hb] at hg'
      simp only [Option.some.injEq, Obj.cells.injEq] at hg'
      exact he hg'.2.1

theorem block_new (w : World) (cs : Array Value) (e : TypeId) : (w.alloc (.cells cs e)).heap[w.heap.size]? = some (.cells cs e (0, 0)) := heap_alloc_new w _

theorem cell_block {w : World} {g : Nat} {cs : Array Value} {e : TypeId} {m : Nat × Nat} (hb : w.heap[g]? = some (.cells cs e m)) (j : Nat) : w.cell? ⟨g, j, none⟩ = cs[j]? := cell_of_row w g j cs e m hb
end Go.Proofs.Ymbrbz

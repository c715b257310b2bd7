import Derived.Test.YmbrbzKeep
namespace Go.Proofs.Ymbrbz
open Go.RowKit Go.WideShapes

theorem frozen_block {w : World} {g : Nat} {cs : Array Value} {e : TypeId} (hb : w.heap[g]? = some (.cells cs e (0, 0))) (j : Nat) : w.frozen? ⟨g, j, none⟩ = false := by
  simp [World.frozen?, hb]

theorem setCell_block {w : World} {g : Nat} {cs : Array Value} {e : TypeId} {m : Nat × Nat} (hb : w.heap[g]? = some (.cells cs e m)) (j : Nat) (u : Value) :
    (w.setCell ⟨g, j, none⟩ u).heap[g]? = some (.cells (cs.setIfInBounds j u) e m) := by
  simp only [World.setCell, Array.getElem?_modify]
  rw [if_true, hb]
  rfl

theorem setCell_other {w : World} {g g' : Nat} (h : g ≠ g') (j : Nat) (u : Value) : (w.setCell ⟨g', j, none⟩ u).heap[g]? = w.heap[g]? := Below.heap_setCell w ⟨g', j, none⟩ u g h

theorem block_below {w w' : World} {B g : Nat} {o : Obj} (h : Below B w w') (hb : w.heap[g]? = some o) (hg : g < B) : w'.heap[g]? = some o := by rw [h.block g hg]; exact hb

theorem block_alloc {w : World} {g : Nat} {o : Obj} (hb : w.heap[g]? = some o) (x : Obj) : (w.alloc x).heap[g]? = some o := by
  have hlt : g < w.heap.size := (Array.getElem?_eq_some_iff.1 hb).1
  rw [Below.heap_alloc w x g hlt]; exact hb
end Go.Proofs.Ymbrbz

import Derived.Test.YmbrcbBytes
namespace Go.Proofs.Ymbrcb
open Go.RowKit Go.WideShapes

/-- 'make([]byte, n)'. -/
theorem wpList_makeB {P : Program} (w : World) {ops : Array Oper} {rest : List Oper} {o : Oper} {a : Act} {Q : Exit → Act → World → Prop} (hgd : o.guard = none) (l c : Operand) (t : TypeId) (ho : o.op = Op.makeSlice t l c)
    (ht : P.underlying t = some (.slice 5)) (hi : (P.info? 5).map (fun i => (i.zero, i.size, i.bytes)) = some (some (.int .u8 0), 1, 1))
    (base : Nat) (L C : Int) (n : Nat) (hl : a.eval l = .int .i64 L) (hc : a.eval c = .int .i64 C) (hL : L = n) (hC : C = n) (hn : n ≤ 140737488355328) (hbase : base ≤ w.heap.size)
    (h : ∀ w', OwnB w' base (.slice (some ⟨w.heap.size, 0, none⟩) n n) (List.replicate n 0) → Below base w w' → wpList P ops Q rest (a.put o.dst (.slice (some ⟨w.heap.size, 0, none⟩) n n)) w') :
    wpList P ops Q (o :: rest) a w := by
  obtain ⟨i0, h1, h2, h3, h4⟩ := info_parts hi
  refine wpList_make_full w hgd l c t ho base 5 i0 (.int .u8 0) 1 ht h1 h2 h3 .i64 .i64 L C n hl hc hL hC (by rw [h4]; omega) (by simp [maxLen]; omega) hbase ?_
  intro w' g1 g2
  refine h w' ?_ (Below.grown (Below.refl _ _) g2 hbase (fun k hk => by cases hk))
  unfold OwnB
  have e : (madeCells (Value.int IntKind.u8 0).cells (n * 1)).toList = (List.replicate n (0 : UInt8)).map byteV := by
    show (madeCells #[Value.int .u8 0] (n * 1)).toList = _
    rw [toList_madeCells_one, Nat.mul_one, List.map_replicate]
    rfl
  rw [e] at g1
  simpa using g1

theorem OwnB.cellAt {w : World} {base g n cap : Nat} {bs : List UInt8} (h : OwnB w base (.slice (some ⟨g, 0, none⟩) n cap) bs) (hn : bs.length = n) (k : Nat) (hk : k < n) : w.cell? ⟨g, k, none⟩ = some (.int .u8 (bs.getD k 0).toNat) := by
  obtain ⟨ao, cap', e, _, _, hb⟩ := h.shape
  simp only [Value.slice.injEq] at e
  obtain ⟨rfl, _, _⟩ := e
  obtain ⟨b, off, e2, hc⟩ := hb k (by omega)
  simp at e2
  obtain ⟨rfl, rfl⟩ := e2
  simpa using hc

theorem OwnB.frozenAt {w : World} {base g n cap : Nat} {bs : List UInt8} (h : OwnB w base (.slice (some ⟨g, 0, none⟩) n cap) bs) (hn : bs.length = n) (k : Nat) : w.frozen? ⟨g, k, none⟩ = false := by
  subst hn
  exact World.ownsRow.frozenAt h k

theorem OwnB.set {w : World} {base g n cap : Nat} {bs : List UInt8} (h : OwnB w base (.slice (some ⟨g, 0, none⟩) n cap) bs) (hn : bs.length = n) (k : Nat) (c : UInt8) :
    OwnB (w.setCell ⟨g, k, none⟩ (.int .u8 c.toNat)) base (.slice (some ⟨g, 0, none⟩) n cap) (bs.set k c) := by
  subst hn
  have := (World.ownsRow.stored h k (byteV c)).1
  unfold OwnB
  rw [List.length_set, List.map_set]
  exact this

/-- What a loop that fills a new row has after k rounds. -/
def filled (xs : List UInt8) (k n : Nat) : List UInt8 := xs.take k ++ List.replicate (n - k) 0
theorem filled_length (xs : List UInt8) (k n : Nat) (hx : xs.length = n) (hk : k ≤ n) : (filled xs k n).length = n := by simp [filled]; omega
theorem filled_zero (xs : List UInt8) (n : Nat) : filled xs 0 n = List.replicate n 0 := by simp [filled]
theorem filled_end (xs : List UInt8) (n : Nat) (hx : xs.length = n) : filled xs n n = xs := by simp [filled, ← hx]
theorem filled_succ (xs : List UInt8) (k n : Nat) (hx : xs.length = n) (hk : k < n) : (filled xs k n).set k (xs.getD k 0) = filled xs (k + 1) n := by
  unfold filled
  have hk' : k < xs.length := by omega
  have e1 : (xs.take k).length = k := by simp; omega
  rw [List.set_append_right _ _ (by omega), e1, Nat.sub_self, show n - k = (n - (k + 1)) + 1 by omega, List.replicate_succ, List.set_cons_zero, List.take_succ_eq_append_getElem hk', List.append_assoc]
  simp [List.getD_eq_getElem?_getD, List.getElem?_eq_getElem hk']

end Go.Proofs.Ymbrcb

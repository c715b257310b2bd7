import Derived.Test.YmbrbzBytes
namespace Go.Proofs.Ymbrbz
open Go.RowKit Go.WideShapes

/-- 'make([]byte, 0, n)'. -/
theorem wpList_makeB0 {P : Program} (w : World) {ops : Array Oper} {rest : List Oper} {o : Oper} {a : Act} {Q : Exit → Act → World → Prop} (hgd : o.guard = none) (l c : Operand) (t : TypeId) (ho : o.op = Op.makeSlice t l c)
    (ht : P.underlying t = some (.slice 5)) (hi : (P.info? 5).map (fun i => (i.zero, i.size, i.bytes)) = some (some (.int .u8 0), 1, 1))
    (base : Nat) (C : Int) (n : Nat) (hl : a.eval l = .int .i64 0) (hc : a.eval c = .int .i64 C) (hC : C = n) (hn : n ≤ 140737488355328) (hbase : base ≤ w.heap.size)
    (h : ∀ v w', OwnB w' base v [] → Below base w w' → wpList P ops Q rest (a.put o.dst v) w') :
    wpList P ops Q (o :: rest) a w := by
  obtain ⟨i0, h1, h2, h3, h4⟩ := info_parts hi
  refine wpList_make_own w hgd l c t ho base 5 i0 (.int .u8 0) 1 ht h1 h2 h3 .i64 .i64 C n hl hc hC (by rw [h4]; omega) (by simp [maxLen]; omega) hbase ?_
  intro w' g1 g2
  exact h _ w' g1 (Below.grown (Below.refl _ _) g2 hbase (fun k hk => by cases hk))
end Go.Proofs.Ymbrbz

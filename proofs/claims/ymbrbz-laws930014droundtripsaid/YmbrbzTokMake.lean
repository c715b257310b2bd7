import Derived.Test.YmbrbzTokRow
namespace Go.Proofs.Ymbrbz
open Go.RowKit Go.WideShapes

/-- 'make([]Token, 0, n)'. -/
theorem wpList_makeT0 {P : Program} (w : World) {ops : Array Oper} {rest : List Oper} {o : Oper} {a : Act} {Q : Exit → Act → World → Prop} (hgd : o.guard = none) (l c : Operand) (t : TypeId) (ho : o.op = Op.makeSlice t l c)
    (ht : P.underlying t = some (.slice 26)) (hi : (P.info? 26).map (fun i => (i.zero, i.size, i.bytes)) = some (some (.agg #[.int .i64 0, .int .u8 0, .bool false, .slice none 0 0]), 4, 40))
    (base : Nat) (C : Int) (n : Nat) (hl : a.eval l = .int .i64 0) (hc : a.eval c = .int .i64 C) (hC : C = n) (hn : n ≤ 3000000000000) (hbase : base ≤ w.heap.size)
    (h : ∀ ao cp w', OwnT w' base (.slice ao 0 cp) [] → Below base w w' → Below w.heap.size w w' → wpList P ops Q rest (a.put o.dst (.slice ao 0 cp)) w') :
    wpList P ops Q (o :: rest) a w := by
  obtain ⟨i0, h1, h2, h3, h4⟩ := info_parts hi
  refine wpList_make_own w hgd l c t ho base 26 i0 (.agg #[.int .i64 0, .int .u8 0, .bool false, .slice none 0 0]) 4 ht h1 h2 h3 .i64 .i64 C n hl hc hC (by rw [h4]; omega) (by simp [maxLen]; omega) hbase ?_
  intro w' g1 g2
  exact h _ _ w' g1 (Below.grown (Below.refl _ _) g2 hbase (fun k hk => by cases hk)) (Below.grown (Below.refl _ _) g2 (Nat.le_refl _) (fun k hk => by cases hk))

/-- 'make([]Range, 0, n)'. -/
theorem wpList_makeR0 {P : Program} (w : World) {ops : Array Oper} {rest : List Oper} {o : Oper} {a : Act} {Q : Exit → Act → World → Prop} (hgd : o.guard = none) (l c : Operand) (t : TypeId) (ho : o.op = Op.makeSlice t l c)
    (ht : P.underlying t = some (.slice 29)) (hi : (P.info? 29).map (fun i => (i.zero, i.size, i.bytes)) = some (some (.agg #[.int .u8 0, .int .u8 0]), 2, 2))
    (base : Nat) (C : Int) (n : Nat) (hl : a.eval l = .int .i64 0) (hc : a.eval c = .int .i64 C) (hC : C = n) (hn : n ≤ 3000000000000) (hbase : base ≤ w.heap.size)
    (h : ∀ ao cp w', OwnR w' base (.slice ao 0 cp) [] → Below base w w' → Below w.heap.size w w' → wpList P ops Q rest (a.put o.dst (.slice ao 0 cp)) w') :
    wpList P ops Q (o :: rest) a w := by
  obtain ⟨i0, h1, h2, h3, h4⟩ := info_parts hi
  refine wpList_make_own w hgd l c t ho base 29 i0 (.agg #[.int .u8 0, .int .u8 0]) 2 ht h1 h2 h3 .i64 .i64 C n hl hc hC (by rw [h4]; omega) (by simp [maxLen]; omega) hbase ?_
  intro w' g1 g2
  exact h _ _ w' g1 (Below.grown (Below.refl _ _) g2 hbase (fun k hk => by cases hk)) (Below.grown (Below.refl _ _) g2 (Nat.le_refl _) (fun k hk => by cases hk))
end Go.Proofs.Ymbrbz

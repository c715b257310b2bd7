import Derived.Test.YmbrcbBytes
namespace Go.Proofs.Ymbrcb
open Go.RowKit Go.WideShapes

/-- 'v = append(v, c)'. -/
theorem wpList_appB1 {P : Program} (w0 : World) {ops : Array Oper} {rest : List Oper} {o : Oper} {a : Act} {Q : Exit → Act → World → Prop} (hgd : o.guard = none) (s x : Operand) (t : TypeId)
    (ho : o.op = .call { callee := .builtin .append, args := #[s, x], argTypes := #[t, t] }) (ht : P.underlying t = some (.slice 5))
    (hi : (P.info? 5).map (fun i => (i.zero, i.size, i.bytes)) = some (some (.int .u8 0), 1, 1))
    (base : Nat) (v : Value) (bs : List UInt8) (hs : a.eval s = v) (hown : OwnB w0 base v bs) (c : UInt8)
    (hx : a.eval x = .slice (some ⟨w0.heap.size, 0, none⟩) 1 1) (hlen : bs.length ≤ 140737488355000) (hbase : base ≤ w0.heap.size)
    (h : ∀ v' w', OwnB w' base v' (bs ++ [c]) → Below base w0 w' → wpList P ops Q rest (a.put o.dst v') w') :
    wpList P ops Q (o :: rest) a (w0.alloc (.cells #[.int .u8 (c.toNat : Int)] 5)) :=
  wpList_appB w0 hgd s x t ho ht hi base v bs hs hown _ 1 1 [c] rfl rfl hx (by simp; omega) hbase fun v' w' h1 h2 _ => h v' w' h1 h2

end Go.Proofs.Ymbrcb

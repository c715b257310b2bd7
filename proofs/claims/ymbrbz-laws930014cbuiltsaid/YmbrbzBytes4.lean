import Derived.Test.YmbrbzBytes
namespace Go.Proofs.Ymbrbz
open Go.RowKit Go.WideShapes

/-- 'v = append(v, news...)', the news' block told by a number of its own. -/
theorem wpList_appBx {P : Program} (w0 : World) {ops : Array Oper} {rest : List Oper} {o : Oper} {a : Act} {Q : Exit → Act → World → Prop} (hgd : o.guard = none) (s x : Operand) (t : TypeId)
    (ho : o.op = .call { callee := .builtin .append, args := #[s, x], argTypes := #[t, t] }) (ht : P.underlying t = some (.slice 5))
    (hi : (P.info? 5).map (fun i => (i.zero, i.size, i.bytes)) = some (some (.int .u8 0), 1, 1))
    (base : Nat) (v : Value) (bs : List UInt8) (hs : a.eval s = v) (hown : OwnB w0 base v bs) (cs : Array Value) (gx m c : Nat) (news : List UInt8) (hcs : cs.toList = news.map byteV) (hm : m = news.length)
    (hx : a.eval x = .slice (some ⟨gx, 0, none⟩) m c) (hgx : gx = w0.heap.size) (hlen : bs.length + news.length ≤ 140737488355328) (hbase : base ≤ w0.heap.size)
    (h : ∀ v' w', OwnB w' base v' (bs ++ news) → Below base w0 w' → (w0.alloc (.cells cs 5)).grownBy w' v.ownBlock → wpList P ops Q rest (a.put o.dst v') w') :
    wpList P ops Q (o :: rest) a (w0.alloc (.cells cs 5)) := by
  subst hgx
  exact wpList_appB w0 hgd s x t ho ht hi base v bs hs hown cs m c news hcs hm hx hlen hbase h
end Go.Proofs.Ymbrbz

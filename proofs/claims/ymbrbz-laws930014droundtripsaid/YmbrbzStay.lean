/-
  A step that turns no block but rows of elements of type e' (an append to a row of bytes leaves structs and rows of ranges as they were).
-/
import Derived.Test.YmbrbzBlocks
import Derived.Test.YmbrbzAppendChar
namespace Go.Proofs.Ymbrbz
open Go.RowKit Go.WideShapes

def Stay (e' : TypeId) (w w' : World) : Prop := ∀ (g : Nat) (cs : Array Value) (e : TypeId) (m : Nat × Nat), w.heap[g]? = some (Obj.cells cs e m) → e ≠ e' → w'.heap[g]? = some (Obj.cells cs e m)

theorem Stay.refl (e' : TypeId) (w : World) : Stay e' w w := fun _ _ _ _ h _ => h
theorem Stay.trans {e' : TypeId} {w w1 w2 : World} (h1 : Stay e' w w1) (h2 : Stay e' w1 w2) : Stay e' w w2 := fun g cs e m h he => h2 g cs e m (h1 g cs e m h he) he
theorem Stay.of_below {e' : TypeId} {w w' : World} (h : Below w.heap.size w w') : Stay e' w w' := fun g _ _ _ hg _ => by rw [h.block g (Array.getElem?_eq_some_iff.1 hg).1]; exact hg
theorem Stay.of_grown {w0 w' : World} {base : Nat} {e' : TypeId} {size : Nat} {v : Value} {n : Nat} {xs : List Value} {o : Obj} (h : w0.ownsRow base e' size v n xs) (hg : (w0.alloc o).grownBy w' v.ownBlock) : Stay e' w0 w' := fun _ _ _ _ hb he => keepBlock h hg hb he

/-- 'v = append(v, c)', and all but rows of bytes stays. -/
theorem wpList_appB1k {P : Program} (w0 : World) {ops : Array Oper} {rest : List Oper} {o : Oper} {a : Act} {Q : Exit → Act → World → Prop} (hgd : o.guard = none) (s x : Operand) (t : TypeId)
    (ho : o.op = .call { callee := .builtin .append, args := #[s, x], argTypes := #[t, t] }) (ht : P.underlying t = some (.slice 5))
    (hi : (P.info? 5).map (fun i => (i.zero, i.size, i.bytes)) = some (some (.int .u8 0), 1, 1))
    (base : Nat) (v : Value) (bs : List UInt8) (hs : a.eval s = v) (hown : OwnB w0 base v bs) (c : UInt8) (gx : Nat)
    (hx : a.eval x = .slice (some ⟨gx, 0, none⟩) 1 1) (hgx : gx = w0.heap.size) (hlen : bs.length ≤ 140737488355000) (hbase : base ≤ w0.heap.size)
    (h : ∀ v' w', OwnB w' base v' (bs ++ [c]) → Below base w0 w' → Stay 5 w0 w' → wpList P ops Q rest (a.put o.dst v') w') :
    wpList P ops Q (o :: rest) a (w0.alloc (.cells #[.int .u8 (c.toNat : Int)] 5)) :=
  wpList_appB w0 hgd s x t ho ht hi base v bs hs hown _ 1 1 [c] rfl rfl (by rw [hx, hgx]) (by simp; omega) hbase fun v' w' h1 h2 h3 => h v' w' h1 h2 (Stay.of_grown hown h3)

set_option maxHeartbeats 400000 in
theorem appendChar_keep (base : Nat) (v : Value) (bs : List UInt8) (c : UInt8) (w : World) (hown : OwnB w base v bs) (hbase : base ≤ w.heap.size) (hlen : bs.length ≤ 140737488355000) :
    Calls Ybzm.prog 36 #[v, .int .u8 c.toNat] w fun e w' => ∃ v', e = .returned v' ∧ OwnB w' base v' (bs ++ esc c) ∧ Below base w w' ∧ Stay 5 w w' := by
  rcases sp_cases c with ⟨h1, he⟩ | ⟨h1, he⟩ | ⟨h1, he⟩ | ⟨h1, he⟩ | ⟨h1, he⟩ | ⟨h1, he⟩ | ⟨h1, he⟩ | ⟨h1, h2, h3, h4, h5, h6, h7, he⟩
  case inr.inr.inr.inr.inr.inr.inr =>
    rw [he]
    clear he
    go_enter Ybzm.func36, Ybzm.ntmps36
    go_wp2_with (at_builtin; refine wpList_appB w rfl (.tmp 17) (.tmp 19) 30 rfl Ybzm.underlying30 Ybzm.info5 base v bs rfl hown _ 1 1 [c] rfl rfl rfl (by simp; omega) hbase ?_; intro v1 w1 hown1 hb1 hg1)
    go_ret
    exact ⟨_, rfl, hown1, hb1, Stay.of_grown hown hg1⟩
  all_goals
    rw [he]
    clear he
    go_enter Ybzm.func36, Ybzm.ntmps36
    go_wp2_with (first
      | (at_builtin; refine wpList_appB w rfl (.tmp 14) (.tmp 15) 30 rfl Ybzm.underlying30 Ybzm.info5 base v bs rfl hown _ 1 1 [92] rfl rfl rfl (by simp; omega) hbase ?_; intro v1 w1 hown1 hb1 hg1)
      | (at_builtin; refine wpList_appB w1 rfl (.tmp 17) (.tmp 19) 30 rfl Ybzm.underlying30 Ybzm.info5 base v1 (bs ++ [92]) rfl hown1 _ 1 1 [c] (by first | rfl | simp [byteV, h1]) rfl rfl (by simp; omega) (Nat.le_trans hbase hb1.size) ?_; intro v2 w2 hown2 hb2 hg2))
    go_ret
    exact ⟨_, rfl, by simpa using hown2, hb1.trans hb2, (Stay.of_grown hown hg1).trans (Stay.of_grown hown1 hg2)⟩
end Go.Proofs.Ymbrbz

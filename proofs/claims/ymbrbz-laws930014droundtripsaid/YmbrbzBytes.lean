/-
  A slice of bytes that the call itself makes: appended to, turned into a string.
-/
import Derived.Test.YmbrbzCommon
import Derived.Laws.BytesArg
import Derived.OwnWalk
import Derived.WideShapes
namespace Go.Proofs.Ymbrbz
open Go.RowKit Go.WideShapes

def byteV (c : UInt8) : Value := .int .u8 c.toNat

/-- The slice value v owns the bytes bs, in a row of the call's own (blocks from 'base' on). -/
def OwnB (w : World) (base : Nat) (v : Value) (bs : List UInt8) : Prop := w.ownsRow base 5 1 v bs.length (bs.map byteV)

theorem OwnB.nil (w : World) (base : Nat) : OwnB w base (.slice none 0 0) [] := World.ownsRow_nil _ _ _ _

theorem OwnB.alloc {w : World} {base : Nat} {v : Value} {bs : List UInt8} (h : OwnB w base v bs) (o : Obj) : OwnB (w.alloc o) base v bs := World.ownsRow.alloc h o

theorem OwnB.block {w : World} {base : Nat} {v : Value} {bs : List UInt8} (h : OwnB w base v bs) : ∀ k, v.ownBlock = some k → base ≤ k ∧ k < w.heap.size := World.ownsRow.lt h

theorem OwnB.shape {w : World} {base : Nat} {v : Value} {bs : List UInt8} (h : OwnB w base v bs) : ∃ ao cap, v = .slice ao bs.length cap ∧ bs.length ≤ cap ∧ cap ≤ 9223372036854775807 ∧ BytesAt w ao bs := by
  obtain ⟨hl, h | ⟨g, cap, cur, rfl, hb, hg, hc, hm, hs, ht⟩⟩ := h
  · obtain ⟨rfl, h0⟩ := h
    have : bs = [] := List.length_eq_zero_iff.1 h0
    subst this
    exact ⟨none, 0, rfl, by simp, by omega, fun k hk => absurd hk (Nat.not_lt_zero _)⟩
  · refine ⟨_, cap, rfl, hc, by simpa [maxLen] using hm, fun k hk => ⟨g, 0, rfl, ?_⟩⟩
    have := World.ownsRow.cells (w := w) (base := base) (e := 5) (size := 1) (v := .slice (some ⟨g, 0, none⟩) bs.length cap) (n := bs.length) (xs := bs.map byteV)
      ⟨hl, .inr ⟨g, cap, cur, rfl, hb, hg, hc, hm, hs, ht⟩⟩ (g := g) rfl k (byteV (bs.getD k 0)) (by simp [List.getD_eq_getElem?_getD, List.getElem?_eq_getElem hk])
    rw [add_plain] at this
    exact this

/-- The string that holds the bytes bs. -/
def strOf (bs : List UInt8) : ByteArray := ⟨bs.toArray⟩
theorem strOf_size (bs : List UInt8) : (strOf bs).size = bs.length := by simp [strOf, ByteArray.size]
theorem strOf_getElem (bs : List UInt8) (i : Nat) (h : i < (strOf bs).size) : (strOf bs)[i] = bs[i]'(by rw [strOf_size] at h; exact h) := by
  rfl
theorem strOf_data (bs : List UInt8) : (strOf bs).data.toList = bs := by simp [strOf]
theorem strOf_toList (s : ByteArray) : strOf s.data.toList = s := by cases s; simp [strOf]

theorem run_conv_at {P : Program} {w : World} (src : TypeId) (hs : P.underlying src = some (.slice 5)) (he : P.underlying 5 = some (.int .u8)) (dst : TypeId) (hd : P.underlying dst = some .string)
    (ao : Option Addr) (cap : Nat) (bs : List UInt8) (h : BytesAt w ao bs) : (convert src dst (.slice ao bs.length cap)).run P w = .ok (.string (strOf bs)) w := by
  by_cases h0 : bs = []
  · subst h0
    cases ao with
    | none => rw [run_convert_bytes_nil w src 5 hs he _ _ dst hd]; rfl
    | some a =>
      rw [run_convert_bytes_string w src dst 5 _ _ cap hs he hd, run_bytesToString w a _ cap [] (by simp [loadCells, loadCellsFrom])]
      rfl
  · have hpos : 0 < bs.length := List.length_pos_iff.2 h0
    obtain ⟨b, off, ea, _⟩ := h 0 hpos
    subst ea
    have := run_convert_bytes_arg (P := P) w src 5 hs he b off bs.length cap (bs.map fun c => (c.toNat : Int)) (by simp) (fun i hi => by
      obtain ⟨b', off', ea, g⟩ := h i hi
      simp at ea
      obtain ⟨rfl, rfl⟩ := ea
      rw [g]
      simp [List.getD_eq_getElem?_getD, List.getElem?_eq_getElem hi]) dst hd
    rw [this]
    simp [strOfNums, strOf, Function.comp_def]

theorem OwnB.conv {P : Program} {w : World} {base : Nat} {v : Value} {bs : List UInt8} (h : OwnB w base v bs) (src : TypeId) (hs : P.underlying src = some (.slice 5)) (he : P.underlying 5 = some (.int .u8)) (dst : TypeId) (hd : P.underlying dst = some .string) :
    (convert src dst v).run P w = .ok (.string (strOf bs)) w := by
  obtain ⟨ao, cap, rfl, _, _, hb⟩ := h.shape
  exact run_conv_at src hs he dst hd ao cap bs hb

/-- 'v = append(v, news...)' where the news lie in the block that has just been laid for them. -/
theorem wpList_appB {P : Program} (w0 : World) {ops : Array Oper} {rest : List Oper} {o : Oper} {a : Act} {Q : Exit → Act → World → Prop} (hgd : o.guard = none) (s x : Operand) (t : TypeId)
    (ho : o.op = .call { callee := .builtin .append, args := #[s, x], argTypes := #[t, t] }) (ht : P.underlying t = some (.slice 5))
    (hi : (P.info? 5).map (fun i => (i.zero, i.size, i.bytes)) = some (some (.int .u8 0), 1, 1))
    (base : Nat) (v : Value) (bs : List UInt8) (hs : a.eval s = v) (hown : OwnB w0 base v bs) (cs : Array Value) (m c : Nat) (news : List UInt8) (hcs : cs.toList = news.map byteV) (hm : m = news.length)
    (hx : a.eval x = .slice (some ⟨w0.heap.size, 0, none⟩) m c) (hlen : bs.length + news.length ≤ 140737488355328) (hbase : base ≤ w0.heap.size)
    (h : ∀ v' w', OwnB w' base v' (bs ++ news) → Below base w0 w' → (w0.alloc (.cells cs 5)).grownBy w' v.ownBlock → wpList P ops Q rest (a.put o.dst v') w') :
    wpList P ops Q (o :: rest) a (w0.alloc (.cells cs 5)) := by
  obtain ⟨i0, h1, h2, h3, h4⟩ := info_parts hi
  subst hm
  refine wpList_append_own _ hgd s x t ho base 5 i0 (.int .u8 0) 1 1 ht h1 h2 h3 h4 rfl (by decide) v bs.length (bs.map byteV) hs (World.ownsRow.alloc hown _) ⟨w0.heap.size, 0, none⟩ news.length c (news.map byteV) hx (by simp) ?_ ?_ ?_ ?_ ?_ ?_
  · intro j u hj
    rw [add_plain, ← hcs] at *
    rw [← hj]
    simp
  · intro u hu
    simp only [List.mem_map] at hu
    obtain ⟨c, _, rfl⟩ := hu
    rfl
  · simp [maxLen]; omega
  · omega
  · simp; omega
  · intro v' w' g1 g2 _
    refine h v' w' ?_ ?_ g2
    · unfold OwnB
      rw [List.length_append, List.map_append]
      exact g1
    · exact Below.grown ((Below.refl _ _).alloc hbase _) g2 (by simp; omega) (fun k hk => (OwnB.block hown k hk).1)

end Go.Proofs.Ymbrbz

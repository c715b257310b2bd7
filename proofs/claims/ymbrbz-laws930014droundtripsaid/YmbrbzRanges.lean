/-
  A slice of glob.Range that the call itself makes and appends to.
-/
import Derived.Test.YmbrbzBytes
namespace Go.Proofs.Ymbrbz
open Go.RowKit Go.WideShapes

def rangeV (r : UInt8 × UInt8) : List Value := [byteV r.1, byteV r.2]

/-- The slice value v owns the ranges rs, in a row of the call's own (blocks from 'base' on). -/
def OwnR (w : World) (base : Nat) (v : Value) (rs : List (UInt8 × UInt8)) : Prop := w.ownsRow base 29 2 v rs.length (rs.flatMap rangeV)

theorem OwnR.nil (w : World) (base : Nat) : OwnR w base (.slice none 0 0) [] := World.ownsRow_nil _ _ _ _
theorem OwnR.alloc {w : World} {base : Nat} {v : Value} {rs : List (UInt8 × UInt8)} (h : OwnR w base v rs) (o : Obj) : OwnR (w.alloc o) base v rs := World.ownsRow.alloc h o
theorem OwnR.block {w : World} {base : Nat} {v : Value} {rs : List (UInt8 × UInt8)} (h : OwnR w base v rs) : ∀ k, v.ownBlock = some k → base ≤ k ∧ k < w.heap.size := World.ownsRow.lt h

theorem flat_len (rs : List (UInt8 × UInt8)) : (rs.flatMap rangeV).length = rs.length * 2 := by
  induction rs with
  | nil => rfl
  | cons r t ih => simp only [List.flatMap_cons, List.length_append, ih, rangeV, List.length_cons, List.length_nil]; omega

theorem flat_at (rs : List (UInt8 × UInt8)) (k : Nat) (hk : k < rs.length) : (rs.flatMap rangeV)[k * 2]? = some (byteV (rs.getD k (0, 0)).1) ∧ (rs.flatMap rangeV)[k * 2 + 1]? = some (byteV (rs.getD k (0, 0)).2) := by
  induction rs generalizing k with
  | nil => simp at hk
  | cons r t ih =>
    cases k with
    | zero => exact ⟨rfl, rfl⟩
    | succ k =>
      have h2 := ih k (by simpa using hk)
      simp only [List.flatMap_cons]
      rw [List.getElem?_append_right (by simp [rangeV]; omega), List.getElem?_append_right (by simp [rangeV]; omega)]
      have e1 : (k + 1) * 2 - (rangeV r).length = k * 2 := by simp [rangeV]; omega
      have e2 : (k + 1) * 2 + 1 - (rangeV r).length = k * 2 + 1 := by simp [rangeV]; omega
      rw [e1, e2]
      simpa using h2

theorem OwnR.shape {w : World} {base : Nat} {v : Value} {rs : List (UInt8 × UInt8)} (h : OwnR w base v rs) : ∃ ao cap, v = .slice ao rs.length cap ∧ rs.length ≤ cap ∧ cap ≤ 9223372036854775807 ∧ RangesAt w ao rs := by
  obtain ⟨hl, h | ⟨g, cap, cur, rfl, hb, hg, hc, hm, hs, ht⟩⟩ := h
  · obtain ⟨rfl, h0⟩ := h
    have : rs = [] := List.length_eq_zero_iff.1 h0
    subst this
    exact ⟨none, 0, rfl, by simp, by omega, fun k hk => absurd hk (Nat.not_lt_zero _)⟩
  · refine ⟨_, cap, rfl, hc, by simpa [maxLen] using hm, fun k hk => ⟨g, 0, rfl, ?_, ?_⟩⟩
    · have := World.ownsRow.cells (w := w) (base := base) (e := 29) (size := 2) (v := .slice (some ⟨g, 0, none⟩) rs.length cap) (n := rs.length) (xs := rs.flatMap rangeV)
        ⟨hl, .inr ⟨g, cap, cur, rfl, hb, hg, hc, hm, hs, ht⟩⟩ (g := g) rfl (k * 2) _ (flat_at rs k hk).1
      rw [add_plain] at this
      exact this
    · have := World.ownsRow.cells (w := w) (base := base) (e := 29) (size := 2) (v := .slice (some ⟨g, 0, none⟩) rs.length cap) (n := rs.length) (xs := rs.flatMap rangeV)
        ⟨hl, .inr ⟨g, cap, cur, rfl, hb, hg, hc, hm, hs, ht⟩⟩ (g := g) rfl (k * 2 + 1) _ (flat_at rs k hk).2
      rw [add_plain, ← Nat.add_assoc] at this
      exact this

/-- 'v = append(v, Range{lo, hi})'. -/
theorem wpList_appR {P : Program} (w0 : World) {ops : Array Oper} {rest : List Oper} {o : Oper} {a : Act} {Q : Exit → Act → World → Prop} (hgd : o.guard = none) (s x : Operand) (t : TypeId)
    (ho : o.op = .call { callee := .builtin .append, args := #[s, x], argTypes := #[t, t] }) (ht : P.underlying t = some (.slice 29))
    (hi : (P.info? 29).map (fun i => (i.zero, i.size, i.bytes)) = some (some (.agg #[.int .u8 0, .int .u8 0]), 2, 2))
    (base : Nat) (v : Value) (rs : List (UInt8 × UInt8)) (hs : a.eval s = v) (hown : OwnR w0 base v rs) (lo hi' : UInt8) (gx : Nat)
    (hx : a.eval x = .slice (some ⟨gx, 0, none⟩) 1 1) (hgx : gx = w0.heap.size) (hlen : rs.length ≤ 60000000000000) (hbase : base ≤ w0.heap.size)
    (h : ∀ ao' cp' w', OwnR w' base (.slice ao' (rs.length + 1) cp') (rs ++ [(lo, hi')]) → Below base w0 w' → (w0.alloc (.cells #[.int .u8 (lo.toNat : Int), .int .u8 (hi'.toNat : Int)] 29)).grownBy w' v.ownBlock → wpList P ops Q rest (a.put o.dst (.slice ao' (rs.length + 1) cp')) w') :
    wpList P ops Q (o :: rest) a (w0.alloc (.cells #[.int .u8 (lo.toNat : Int), .int .u8 (hi'.toNat : Int)] 29)) := by
  obtain ⟨i0, h1, h2, h3, h4⟩ := info_parts hi
  subst hgx
  refine wpList_append_own _ hgd s x t ho base 29 i0 (.agg #[.int .u8 0, .int .u8 0]) 2 2 ht h1 h2 h3 h4 rfl (by decide) v rs.length (rs.flatMap rangeV) hs (World.ownsRow.alloc hown _) ⟨w0.heap.size, 0, none⟩ 1 1 [byteV lo, byteV hi'] hx rfl ?_ ?_ ?_ ?_ ?_ ?_
  · intro j u hj
    rw [add_plain]
    match j, hj with
    | 0, hj => simp at hj; subst hj; simp [byteV]
    | 1, hj => simp at hj; subst hj; simp [byteV]
  · intro u hu
    simp at hu
    rcases hu with rfl | rfl <;> rfl
  · simp [maxLen]; omega
  · omega
  · simp; omega
  · intro v' w' g1 g2 g3
    have hO : OwnR w' base v' (rs ++ [(lo, hi')]) := by
      unfold OwnR
      rw [List.length_append, List.flatMap_append]
      exact g1
    obtain ⟨ao', cp', rfl, _⟩ := hO.shape
    rw [List.length_append] at hO ⊢
    exact h ao' cp' w' hO (Below.grown ((Below.refl _ _).alloc hbase _) g2 (by simp; omega) (fun k hk => (OwnR.block hown k hk).1)) g2
end Go.Proofs.Ymbrbz

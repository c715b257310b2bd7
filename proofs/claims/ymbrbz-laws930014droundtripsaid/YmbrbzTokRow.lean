/-
  A slice of glob.Token that the call itself makes and appends to; the tokens' own ranges lie in older memory or in rows of ranges that nobody writes into any more.
-/
import Derived.Test.YmbrbzTokens
import Derived.Test.YmbrbzRanges
import Derived.Test.YmbrbzBlocks
import Derived.Test.YmbrbzProg
namespace Go.Proofs.Ymbrbz
open Go.RowKit Go.WideShapes

theorem Ybzm.infoToken : (Ybzm.prog.info? 26).map (fun i => (i.zero, i.size, i.bytes)) = some (some (.agg #[.int .i64 0, .int .u8 0, .bool false, .slice none 0 0]), 4, 40) := by kernel_rfl

def tokV (t : Tk) : List Value := [.int .i64 t.kind, .int .u8 (t.char.toNat : Int), .bool t.neg, .slice t.ra t.rs.length t.cap]

/-- The slice value v owns the tokens ts, in a row of the call's own (blocks from 'base' on). -/
def OwnT (w : World) (base : Nat) (v : Value) (ts : List Tk) : Prop := w.ownsRow base 26 4 v ts.length (ts.flatMap tokV)

theorem OwnT.nil (w : World) (base : Nat) : OwnT w base (.slice none 0 0) [] := World.ownsRow_nil _ _ _ _
theorem OwnT.alloc {w : World} {base : Nat} {v : Value} {ts : List Tk} (h : OwnT w base v ts) (o : Obj) : OwnT (w.alloc o) base v ts := World.ownsRow.alloc h o
theorem OwnT.block {w : World} {base : Nat} {v : Value} {ts : List Tk} (h : OwnT w base v ts) : ∀ k, v.ownBlock = some k → base ≤ k ∧ k < w.heap.size := World.ownsRow.lt h

theorem OwnT.kept {w w' : World} {base B : Nat} {v : Value} {ts : List Tk} (h : OwnT w base v ts) (hb : Below B w w') (hB : w.heap.size ≤ B) : OwnT w' base v ts := by
  have hl := OwnT.block h
  refine ⟨h.1, ?_⟩
  rcases h.2 with h2 | ⟨g, cap, cur, hv', hg, hh, r⟩
  · exact .inl h2
  · exact .inr ⟨g, cap, cur, hv', hg, by rw [hb.block g (by have := (hl g (by rw [hv']; rfl)).2; omega)]; exact hh, r⟩

theorem OwnT.mono {w : World} {base base' : Nat} {v : Value} {ts : List Tk} (h : OwnT w base v ts) (hb : base' ≤ base) : OwnT w base' v ts := by
  obtain ⟨h1, h2⟩ := h
  refine ⟨h1, ?_⟩
  rcases h2 with h2 | ⟨g, cap, cur, e, hg, r⟩
  · exact .inl h2
  · exact .inr ⟨g, cap, cur, e, by omega, r⟩

theorem tokFlat_at (ts : List Tk) (k : Nat) (hk : k < ts.length) (j : Nat) (hj : j < 4) : (ts.flatMap tokV)[k * 4 + j]? = (tokV (ts.getD k tk0))[j]? := by
  induction ts generalizing k with
  | nil => simp at hk
  | cons r t ih =>
    simp only [List.flatMap_cons]
    cases k with
    | zero =>
      rw [List.getElem?_append_left (by simp [tokV]; omega)]
      simp
    | succ k =>
      have h2 := ih k (by simpa using hk)
      rw [List.getElem?_append_right (by simp [tokV]; omega)]
      have e1 : (k + 1) * 4 + j - (tokV r).length = k * 4 + j := by simp [tokV]; omega
      rw [e1, h2]
      simp

theorem OwnT.shape {w : World} {base : Nat} {v : Value} {ts : List Tk} (h : OwnT w base v ts) : ∃ ao cap, v = .slice ao ts.length cap ∧ ts.length ≤ cap ∧ cap ≤ 9223372036854775807 ∧ ∀ k, k < ts.length → ∃ g, ao = some ⟨g, 0, none⟩ ∧ TokAt w g (k * 4) (ts.getD k tk0) := by
  obtain ⟨hl, h | ⟨g, cap, cur, rfl, hb, hg, hc, hm, hs, ht⟩⟩ := h
  · obtain ⟨rfl, h0⟩ := h
    have : ts = [] := List.length_eq_zero_iff.1 h0
    subst this
    exact ⟨none, 0, rfl, by simp, by omega, fun k hk => absurd hk (Nat.not_lt_zero _)⟩
  · refine ⟨_, cap, rfl, hc, by simpa [maxLen] using hm, fun k hk => ⟨g, rfl, ?_⟩⟩
    have key : ∀ j u, j < 4 → (tokV (ts.getD k tk0))[j]? = some u → w.cell? ⟨g, k * 4 + j, none⟩ = some u := by
      intro j u hj hu
      have := World.ownsRow.cells (w := w) (base := base) (e := 26) (size := 4) (v := .slice (some ⟨g, 0, none⟩) ts.length cap) (n := ts.length) (xs := ts.flatMap tokV)
        ⟨hl, .inr ⟨g, cap, cur, rfl, hb, hg, hc, hm, hs, ht⟩⟩ (g := g) rfl (k * 4 + j) u (by rw [tokFlat_at ts k hk j hj]; exact hu)
      rw [add_plain] at this
      simpa using this
    exact ⟨key 0 _ (by omega) rfl, key 1 _ (by omega) rfl, key 2 _ (by omega) rfl, key 3 _ (by omega) rfl⟩

theorem OwnT.tokensAt {w : World} {base : Nat} {ao : Option Addr} {n cap : Nat} {ts : List Tk} (h : OwnT w base (.slice ao n cap) ts) (hr : ∀ t ∈ ts, RsOk w t) : TokensAt w ao ts := by
  obtain ⟨ao', cap', e, _, _, hk⟩ := h.shape
  simp only [Value.slice.injEq] at e
  obtain ⟨rfl, _, _⟩ := e
  intro k hlt
  obtain ⟨g, rfl, ta⟩ := hk k hlt
  refine ⟨g, 0, rfl, by simpa using ta, hr _ ?_⟩
  rw [List.getD_eq_getElem?_getD, List.getElem?_eq_getElem hlt]
  exact List.getElem_mem hlt

/-- 'v = append(v, t)'. -/
theorem wpList_appT {P : Program} (w0 : World) {ops : Array Oper} {rest : List Oper} {o : Oper} {a : Act} {Q : Exit → Act → World → Prop} (hgd : o.guard = none) (s x : Operand) (t : TypeId)
    (ho : o.op = .call { callee := .builtin .append, args := #[s, x], argTypes := #[t, t] }) (ht : P.underlying t = some (.slice 26))
    (hi : (P.info? 26).map (fun i => (i.zero, i.size, i.bytes)) = some (some (.agg #[.int .i64 0, .int .u8 0, .bool false, .slice none 0 0]), 4, 40))
    (base : Nat) (v : Value) (ts : List Tk) (hs : a.eval s = v) (hown : OwnT w0 base v ts) (k : Tk) (gx : Nat)
    (hx : a.eval x = .slice (some ⟨gx, 0, none⟩) 1 1) (hgx : gx = w0.heap.size) (hlen : ts.length ≤ 600000000000) (hbase : base ≤ w0.heap.size)
    (h : ∀ ao' cp' w', OwnT w' base (.slice ao' (ts.length + 1) cp') (ts ++ [k]) → Below base w0 w' → (w0.alloc (.cells #[.int .i64 k.kind, .int .u8 (k.char.toNat : Int), .bool k.neg, .slice k.ra k.rs.length k.cap] 26)).grownBy w' v.ownBlock → wpList P ops Q rest (a.put o.dst (.slice ao' (ts.length + 1) cp')) w') :
    wpList P ops Q (o :: rest) a (w0.alloc (.cells #[.int .i64 k.kind, .int .u8 (k.char.toNat : Int), .bool k.neg, .slice k.ra k.rs.length k.cap] 26)) := by
  obtain ⟨i0, h1, h2, h3, h4⟩ := info_parts hi
  subst hgx
  refine wpList_append_own _ hgd s x t ho base 26 i0 (.agg #[.int .i64 0, .int .u8 0, .bool false, .slice none 0 0]) 4 40 ht h1 h2 h3 h4 rfl (by decide) v ts.length (ts.flatMap tokV) hs (World.ownsRow.alloc hown _) ⟨w0.heap.size, 0, none⟩ 1 1 (tokV k) hx rfl ?_ ?_ ?_ ?_ ?_ ?_
  · intro j u hj
    rw [add_plain]
    match j, hj with
    | 0, hj => simp [tokV] at hj; subst hj; simp
    | 1, hj => simp [tokV] at hj; subst hj; simp
    | 2, hj => simp [tokV] at hj; subst hj; simp
    | 3, hj => simp [tokV] at hj; subst hj; simp
  · intro u hu
    simp [tokV] at hu
    rcases hu with rfl | rfl | rfl | rfl <;> rfl
  · simp [maxLen]; omega
  · omega
  · simp; omega
  · intro v' w' g1 g2 g3
    have hO : OwnT w' base v' (ts ++ [k]) := by
      unfold OwnT
      rw [List.length_append, List.flatMap_append]
      simpa using g1
    obtain ⟨ao', cp', rfl, _⟩ := hO.shape
    rw [List.length_append] at hO ⊢
    exact h ao' cp' w' hO (Below.grown ((Below.refl _ _).alloc hbase _) g2 (by simp; omega) (fun k hk => (OwnT.block hown k hk).1)) g2

/-- A token's ranges, and where: older memory, or a row of ranges. -/
structure Held (w : World) (base : Nat) (t : Tk) : Prop where
  ok : RsOk w t
  firm : ∀ b off s, t.ra = some ⟨b, off, s⟩ → b < base ∨ ∃ cs m, w.heap[b]? = some (.cells cs 29 m)

theorem RangesAt.block {w w' : World} {a : Option Addr} {rs : List (UInt8 × UInt8)} (h : RangesAt w a rs) (hb : ∀ b off s, a = some ⟨b, off, s⟩ → w'.heap[b]? = w.heap[b]?) : RangesAt w' a rs := by
  intro k hk
  obtain ⟨b, off, e, h0, h1⟩ := h k hk
  have hh := hb b off none e
  refine ⟨b, off, e, ?_, ?_⟩
  · rw [← h0]; simp [World.cell?, hh]
  · rw [← h1]; simp [World.cell?, hh]

theorem Held.turn {w w' : World} {base : Nat} {t : Tk} (h : Held w base t) (h1 : ∀ b, b < base → w'.heap[b]? = w.heap[b]?) (h2 : ∀ (b : Nat) (cs : Array Value) (m : Nat × Nat), w.heap[b]? = some (Obj.cells cs 29 m) → w'.heap[b]? = some (Obj.cells cs 29 m)) : Held w' base t := by
  have key : ∀ b off s, t.ra = some ⟨b, off, s⟩ → w'.heap[b]? = w.heap[b]? := by
    intro b off s e
    rcases h.firm b off s e with hb | ⟨cs, m, hc⟩
    · exact h1 b hb
    · rw [h2 b cs m hc, hc]
  refine ⟨⟨h.ok.le, h.ok.room, h.ok.lo, h.ok.hi, h.ok.at_.block key⟩, ?_⟩
  intro b off s e
  rcases h.firm b off s e with hb | ⟨cs, m, hc⟩
  · exact .inl hb
  · exact .inr ⟨cs, m, h2 b cs m hc⟩

/-- A step that turns no block that was there. -/
theorem Held.below {w w' : World} {base : Nat} {t : Tk} (h : Held w base t) (hb : Below w.heap.size w w') (hB : base ≤ w.heap.size) : Held w' base t :=
  h.turn (fun b hlt => hb.block b (by omega)) (fun b cs m e => by rw [hb.block b (Array.getElem?_eq_some_iff.1 e).1]; exact e)

/-- A step that appends to a row whose elements are no ranges. -/
theorem Held.grown {w0 w' : World} {base : Nat} {e' : TypeId} {size : Nat} {v : Value} {n : Nat} {xs : List Value} {o : Obj} (ho : w0.ownsRow base e' size v n xs) (hg : (w0.alloc o).grownBy w' v.ownBlock) (hb : Below base w0 w') (he : 29 ≠ e') {t : Tk} (h : Held w0 base t) : Held w' base t :=
  h.turn (fun b hlt => hb.block b hlt) (fun _ _ _ e => keepBlock ho hg e he)

theorem Held.mono {w : World} {base base' : Nat} {t : Tk} (h : Held w base t) (hb : base ≤ base') : Held w base' t :=
  ⟨h.ok, fun b off s e => (h.firm b off s e).imp (fun q => by omega) id⟩
end Go.Proofs.Ymbrbz

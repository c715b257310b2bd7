import Derived.Test.YmbrbzStay
import Derived.Test.YmbrbzTokRow
import Derived.Test.YmbrbzParseTxt
import Derived.Test.YmbrbzAid
namespace Go.Proofs.Ymbrbz
open Go.RowKit Go.WideShapes

/-! ### What stays of a row while another row grows -/

theorem row_stay {w w' : World} {base : Nat} {e e' : TypeId} {size : Nat} {v : Value} {n : Nat} {xs : List Value} (h : w.ownsRow base e size v n xs) (hs : Stay e' w w') (he : e ≠ e') : w'.ownsRow base e size v n xs := by
  obtain ⟨hl, h | ⟨g, cap, cur, e1, hb, hg, r⟩⟩ := h
  · exact ⟨hl, .inl h⟩
  · exact ⟨hl, .inr ⟨g, cap, cur, e1, hb, hs g cur e (0, 0) hg he, r⟩⟩

theorem row_set {w : World} {base : Nat} {e : TypeId} {size : Nat} {v : Value} {n : Nat} {xs : List Value} (h : w.ownsRow base e size v n xs) (g' j : Nat) (hne : v.ownBlock ≠ some g') (u : Value) : (w.setCell ⟨g', j, none⟩ u).ownsRow base e size v n xs := by
  obtain ⟨hl, h | ⟨g, cap, cur, rfl, hb, hg, r⟩⟩ := h
  · exact ⟨hl, .inl h⟩
  · refine ⟨hl, .inr ⟨g, cap, cur, rfl, hb, ?_, r⟩⟩
    rw [setCell_other (by intro e; exact hne (by rw [← e]; rfl))]
    exact hg

theorem row_type {w : World} {base : Nat} {e e' : TypeId} {size : Nat} {v : Value} {n : Nat} {xs : List Value} (h : w.ownsRow base e size v n xs) {g' : Nat} {cs : Array Value} {m : Nat × Nat} (hb : w.heap[g']? = some (.cells cs e' m)) (he : e ≠ e') : v.ownBlock ≠ some g' := by
  obtain ⟨hl, ⟨rfl, _⟩ | ⟨g, cap, cur, rfl, _, hg, r⟩⟩ := h
  · intro h; cases h
  · intro h
    simp only [Value.ownBlock, Option.some.injEq] at h
    subst h
    rw [hg] at hb
    simp only [Option.some.injEq, Obj.cells.injEq] at hb
    exact he hb.2.1

/-- All rows of ranges that were there are there still. -/
def Keeps (wA wr : World) : Prop := ∀ (g : Nat) (cs : Array Value) (m : Nat × Nat), wA.heap[g]? = some (Obj.cells cs 29 m) → wr.heap[g]? = some (Obj.cells cs 29 m)

/-- Two rows of the call's own, bytes and tokens, side by side; wA is the world at the round's start. -/
structure DR (w wA wr : World) (B : Nat) (v : Value) (X : List UInt8) (tv : Value) (TS : List Tk) : Prop where
  ownb : OwnB wr B v X
  ownt : OwnT wr B tv TS
  tlt : ∀ k, tv.ownBlock = some k → k < wA.heap.size
  keeps : Keeps wA wr
  below : Below B w wr
  size : wA.heap.size ≤ wr.heap.size
  base : B ≤ wA.heap.size

theorem DR.alloc {w wA wr : World} {B : Nat} {v : Value} {X : List UInt8} {tv : Value} {TS : List Tk} (h : DR w wA wr B v X tv TS) (o : Obj) : DR w wA (wr.alloc o) B v X tv TS :=
  ⟨h.ownb.alloc o, h.ownt.alloc o, h.tlt, fun g cs m e => block_alloc (h.keeps g cs m e) o, h.below.alloc (Nat.le_trans h.base h.size) o, by have := h.size; simp; omega, h.base⟩

theorem DR.bytes {w wA wr w' : World} {B : Nat} {v v' : Value} {X X' : List UInt8} {tv : Value} {TS : List Tk} (h : DR w wA wr B v X tv TS) (ho : OwnB w' B v' X') (hb : Below B wr w') (hs : Stay 5 wr w') : DR w wA w' B v' X' tv TS :=
  ⟨ho, row_stay h.ownt hs (by decide), h.tlt, fun g cs m e => hs g cs 29 m (h.keeps g cs m e) (by decide), h.below.trans hb, Nat.le_trans h.size hb.size, h.base⟩

theorem DR.ranges {w wA wr w' : World} {B BR : Nat} {v : Value} {X : List UInt8} {tv : Value} {TS : List Tk} (h : DR w wA wr B v X tv TS) (hb : Below BR wr w') (hB : B ≤ BR) (hA : wA.heap.size ≤ BR) (hs : Stay 29 wr w') : DR w wA w' B v X tv TS :=
  ⟨row_stay h.ownb hs (by decide), row_stay h.ownt hs (by decide), h.tlt, fun g cs m e => by
    have hlt : g < wA.heap.size := (Array.getElem?_eq_some_iff.1 e).1
    rw [hb.block g (by omega)]; exact h.keeps g cs m e, h.below.trans (hb.mono hB), Nat.le_trans h.size hb.size, h.base⟩

theorem DR.set {w wA wr : World} {B : Nat} {v : Value} {X : List UInt8} {tv : Value} {TS : List Tk} (h : DR w wA wr B v X tv TS) {g : Nat} {cs : Array Value} {m : Nat × Nat} (hg : wr.heap[g]? = some (.cells cs 26 m)) (hA : wA.heap.size ≤ g) (hB : B ≤ g) (j : Nat) (u : Value) : DR w wA (wr.setCell ⟨g, j, none⟩ u) B v X tv TS :=
  ⟨row_set h.ownb g j (row_type h.ownb hg (by decide)) u, row_set h.ownt g j (fun e => by have := h.tlt g e; omega) u, h.tlt, fun g' cs' m' e => by
    have hlt : g' < wA.heap.size := (Array.getElem?_eq_some_iff.1 e).1
    rw [setCell_other (by omega)]; exact h.keeps g' cs' m' e, h.below.setCell hB u, by have := h.size; simpa [World.setCell] using this, h.base⟩

/-- The tokens so far, at a round's start. -/
structure DS (w wA : World) (B : Nat) (v : Value) (X : List UInt8) (tv : Value) (TS : List Tk) : Prop where
  ownb : OwnB wA B v X
  ownt : OwnT wA B tv TS
  held : ∀ t ∈ TS, Held wA B t
  below : Below B w wA
  base : B ≤ wA.heap.size

theorem DS.start {w wA : World} {B : Nat} {v : Value} {X : List UInt8} {tv : Value} {TS : List Tk} (h : DS w wA B v X tv TS) : DR w wA wA B v X tv TS :=
  ⟨h.ownb, h.ownt, fun k e => (h.ownt.block k e).2, fun _ _ _ e => e, h.below, Nat.le_refl _, h.base⟩

/-- The round's end: the token is appended. -/
theorem DS.step {w wA wr w' : World} {B : Nat} {v0 v : Value} {X0 X : List UInt8} {tv tv' : Value} {TS : List Tk} {o : Obj} {t : Tk} (h0 : DS w wA B v0 X0 tv TS) (h : DR w wA wr B v X tv TS) (ht : Held wr B t)
    (hg : (wr.alloc o).grownBy w' tv.ownBlock) (hb : Below B wr w') (ho : OwnT w' B tv' (TS ++ [t])) : DS w w' B v X tv' (TS ++ [t]) := by
  have hs : Stay 26 wr w' := Stay.of_grown h.ownt hg
  have hh : ∀ x, Held wr B x → Held w' B x := fun x hx => hx.turn (fun b hlt => hb.block b hlt) (fun b cs m e => hs b cs 29 m e (by decide))
  refine ⟨row_stay h.ownb hs (by decide), ho, ?_, h.below.trans hb, Nat.le_trans h.base (Nat.le_trans h.size hb.size)⟩
  intro x hx
  rcases List.mem_append.1 hx with h2 | h2
  · refine hh x ((h0.held x h2).turn (fun b hlt => ?_) (fun b cs m e => h.keeps b cs m e))
    rw [h.below.block b hlt, h0.below.block b hlt]
  · rw [List.mem_singleton] at h2; subst h2; exact hh x ht

/-! ### The text so far, token by token -/

/-- X is the text of tokens that read back as L. -/
def Said (X : List UInt8) (L : List Pk) : Prop := ∃ its : List (List UInt8 × Pk), X = its.flatMap (fun it => it.1) ∧ L = its.map (fun it => it.2) ∧ ∀ it ∈ its, ∀ Z, parse1 (it.1 ++ Z) = some (it.2, Z)

theorem Said.nil : Said [] [] := ⟨[], rfl, rfl, fun _ h => absurd h List.not_mem_nil⟩

theorem Said.more {X : List UInt8} {L : List Pk} (h : Said X L) {T : List UInt8} {p : Pk} (hp : ∀ Z, parse1 (T ++ Z) = some (p, Z)) : Said (X ++ T) (L ++ [p]) := by
  obtain ⟨its, rfl, rfl, hi⟩ := h
  refine ⟨its ++ [(T, p)], by simp, by simp, ?_⟩
  intro it hit Z
  rcases List.mem_append.1 hit with h | h
  · exact hi it h Z
  · rw [List.mem_singleton] at h; subst h; exact hp Z

theorem Said.parse {X : List UInt8} {L : List Pk} (h : Said X L) : parse X = some L := by
  obtain ⟨its, rfl, rfl, hi⟩ := h
  exact parse_flat _ _ its hi

/-! ### The two writers -/

set_option maxHeartbeats 1000000 in
theorem dlit_any (base : Nat) (v : Value) (bs : List UInt8) (c : UInt8) (esc : Bool) (w : World) (hown : OwnB w base v bs) (hbase : base ≤ w.heap.size) (hlen : bs.length ≤ 1000000000) :
    Calls Ybzm.prog 27 #[v, .int .u8 c.toNat, .bool esc] w fun e w' => ∃ v' l, e = .returned v' ∧ OwnB w' base v' (bs ++ l) ∧ (l = [92, c] ∨ (l = [c] ∧ c.toNat ≠ 42 ∧ c.toNat ≠ 63 ∧ c.toNat ≠ 91 ∧ c.toNat ≠ 92)) ∧ Below base w w' ∧ Stay 5 w w' := by
  have HO := hid hown
  clear hown
  have fin : Hid (∀ (v2 : Value) (w1 w2 : World), OwnB w2 base v2 ((bs ++ [92]) ++ [c]) → Below base w w1 → Below base w1 w2 → Stay 5 w w1 → Stay 5 w1 w2 → ∃ v' l, Ending.returned v2 = .returned v' ∧ OwnB w2 base v' (bs ++ l) ∧ (l = [92, c] ∨ (l = [c] ∧ c.toNat ≠ 42 ∧ c.toNat ≠ 63 ∧ c.toNat ≠ 91 ∧ c.toNat ≠ 92)) ∧ Below base w w2 ∧ Stay 5 w w2) :=
    fun v2 w1 w2 h1 h2 h3 h4 h5 => ⟨v2, [92, c], rfl, by simpa using h1, .inl rfl, h2.trans h3, h4.trans h5⟩
  cases esc with
  | true =>
    go_enter Ybzm.func27, Ybzm.ntmps27
    go_wp2_with (first
      | (at_builtin; refine wpList_appB1k w1 rfl (.tmp 27) (.tmp 29) 30 rfl Ybzm.underlying30 Ybzm.info5 base v1 (bs ++ [92]) rfl hown1 c _ rfl (by simp) (by simp; omega) (Nat.le_trans hbase hb1.size) ?_; intro v2 w2 hown2 hb2 hs2)
      | (at_builtin; refine wpList_appB1k w rfl (.tmp 24) (.tmp 25) 30 rfl Ybzm.underlying30 Ybzm.info5 base v bs rfl HO.out 92 _ rfl (by simp) (by omega) hbase ?_; intro v1 w1 hown1 hb1 hs1))
    go_ret
    exact fin.out v2 w1 w2 hown2 hb1 hb2 hs1 hs2
  | false =>
    by_cases h42 : c.toNat = 42
    · have g42 : ((c.toNat : Int) == 42) = true := by rw [h42]; rfl
      clear h42
      go_enter Ybzm.func27, Ybzm.ntmps27
      go_wp2_with (first
        | (at_builtin; refine wpList_appB1k w1 rfl (.tmp 27) (.tmp 29) 30 rfl Ybzm.underlying30 Ybzm.info5 base v1 (bs ++ [92]) rfl hown1 c _ rfl (by simp) (by simp; omega) (Nat.le_trans hbase hb1.size) ?_; intro v2 w2 hown2 hb2 hs2)
        | (at_builtin; refine wpList_appB1k w rfl (.tmp 24) (.tmp 25) 30 rfl Ybzm.underlying30 Ybzm.info5 base v bs rfl HO.out 92 _ rfl (by simp) (by omega) hbase ?_; intro v1 w1 hown1 hb1 hs1))
      go_ret
      exact fin.out v2 w1 w2 hown2 hb1 hb2 hs1 hs2
    · have g42 : ((c.toNat : Int) == 42) = false := beq_eq_false_iff_ne.2 (by omega)
      by_cases h63 : c.toNat = 63
      · have g63 : ((c.toNat : Int) == 63) = true := by rw [h63]; rfl
        clear h63
        go_enter Ybzm.func27, Ybzm.ntmps27
        go_wp2_with (first
          | (at_builtin; refine wpList_appB1k w1 rfl (.tmp 27) (.tmp 29) 30 rfl Ybzm.underlying30 Ybzm.info5 base v1 (bs ++ [92]) rfl hown1 c _ rfl (by simp) (by simp; omega) (Nat.le_trans hbase hb1.size) ?_; intro v2 w2 hown2 hb2 hs2)
          | (at_builtin; refine wpList_appB1k w rfl (.tmp 24) (.tmp 25) 30 rfl Ybzm.underlying30 Ybzm.info5 base v bs rfl HO.out 92 _ rfl (by simp) (by omega) hbase ?_; intro v1 w1 hown1 hb1 hs1))
        go_ret
        exact fin.out v2 w1 w2 hown2 hb1 hb2 hs1 hs2
      · have g63 : ((c.toNat : Int) == 63) = false := beq_eq_false_iff_ne.2 (by omega)
        by_cases h91 : c.toNat = 91
        · have g91 : ((c.toNat : Int) == 91) = true := by rw [h91]; rfl
          clear h91
          go_enter Ybzm.func27, Ybzm.ntmps27
          go_wp2_with (first
            | (at_builtin; refine wpList_appB1k w1 rfl (.tmp 27) (.tmp 29) 30 rfl Ybzm.underlying30 Ybzm.info5 base v1 (bs ++ [92]) rfl hown1 c _ rfl (by simp) (by simp; omega) (Nat.le_trans hbase hb1.size) ?_; intro v2 w2 hown2 hb2 hs2)
            | (at_builtin; refine wpList_appB1k w rfl (.tmp 24) (.tmp 25) 30 rfl Ybzm.underlying30 Ybzm.info5 base v bs rfl HO.out 92 _ rfl (by simp) (by omega) hbase ?_; intro v1 w1 hown1 hb1 hs1))
          go_ret
          exact fin.out v2 w1 w2 hown2 hb1 hb2 hs1 hs2
        · have g91 : ((c.toNat : Int) == 91) = false := beq_eq_false_iff_ne.2 (by omega)
          by_cases h92 : c.toNat = 92
          · have g92 : ((c.toNat : Int) == 92) = true := by rw [h92]; rfl
            clear h92
            go_enter Ybzm.func27, Ybzm.ntmps27
            go_wp2_with (first
              | (at_builtin; refine wpList_appB1k w1 rfl (.tmp 27) (.tmp 29) 30 rfl Ybzm.underlying30 Ybzm.info5 base v1 (bs ++ [92]) rfl hown1 c _ rfl (by simp) (by simp; omega) (Nat.le_trans hbase hb1.size) ?_; intro v2 w2 hown2 hb2 hs2)
              | (at_builtin; refine wpList_appB1k w rfl (.tmp 24) (.tmp 25) 30 rfl Ybzm.underlying30 Ybzm.info5 base v bs rfl HO.out 92 _ rfl (by simp) (by omega) hbase ?_; intro v1 w1 hown1 hb1 hs1))
            go_ret
            exact fin.out v2 w1 w2 hown2 hb1 hb2 hs1 hs2
          · have g92 : ((c.toNat : Int) == 92) = false := beq_eq_false_iff_ne.2 (by omega)
            have HP : Hid (c.toNat ≠ 42 ∧ c.toNat ≠ 63 ∧ c.toNat ≠ 91 ∧ c.toNat ≠ 92) := ⟨h42, h63, h91, h92⟩
            clear h42 h63 h91 h92
            go_enter Ybzm.func27, Ybzm.ntmps27
            go_wp2_with (at_builtin; go_must (refine wpList_appB1k w rfl (.tmp 27) (.tmp 29) 30 rfl Ybzm.underlying30 Ybzm.info5 base v bs rfl HO.out c _ rfl (by simp) (by omega) hbase ?_); intro v1 w1 hown1 hb1 hs1)
            go_ret
            exact ⟨v1, [c], rfl, hown1, .inr ⟨rfl, HP.out⟩, hb1, hs1⟩

set_option maxHeartbeats 1000000 in
theorem dmember_any (base : Nat) (v : Value) (bs : List UInt8) (c : UInt8) (esc : Bool) (w : World) (hown : OwnB w base v bs) (hbase : base ≤ w.heap.size) (hlen : bs.length ≤ 1000000000) :
    Calls Ybzm.prog 28 #[v, .int .u8 c.toNat, .bool esc] w fun e w' => ∃ v' l, e = .returned v' ∧ OwnB w' base v' (bs ++ l) ∧ (Spelt c l) ∧ Below base w w' ∧ Stay 5 w w' := by
  have HO := hid hown
  clear hown
  have fin : Hid (∀ (v2 : Value) (w1 w2 : World), OwnB w2 base v2 ((bs ++ [92]) ++ [c]) → Below base w w1 → Below base w1 w2 → Stay 5 w w1 → Stay 5 w1 w2 → ∃ v' l, Ending.returned v2 = .returned v' ∧ OwnB w2 base v' (bs ++ l) ∧ (Spelt c l) ∧ Below base w w2 ∧ Stay 5 w w2) :=
    fun v2 w1 w2 h1 h2 h3 h4 h5 => ⟨v2, [92, c], rfl, by simpa using h1, .inl rfl, h2.trans h3, h4.trans h5⟩
  cases esc with
  | true =>
    go_enter Ybzm.func28, Ybzm.ntmps28
    go_wp2_with (first
      | (at_builtin; refine wpList_appB1k w1 rfl (.tmp 27) (.tmp 29) 30 rfl Ybzm.underlying30 Ybzm.info5 base v1 (bs ++ [92]) rfl hown1 c _ rfl (by simp) (by simp; omega) (Nat.le_trans hbase hb1.size) ?_; intro v2 w2 hown2 hb2 hs2)
      | (at_builtin; refine wpList_appB1k w rfl (.tmp 24) (.tmp 25) 30 rfl Ybzm.underlying30 Ybzm.info5 base v bs rfl HO.out 92 _ rfl (by simp) (by omega) hbase ?_; intro v1 w1 hown1 hb1 hs1))
    go_ret
    exact fin.out v2 w1 w2 hown2 hb1 hb2 hs1 hs2
  | false =>
    by_cases h93 : c.toNat = 93
    · have g93 : ((c.toNat : Int) == 93) = true := by rw [h93]; rfl
      clear h93
      go_enter Ybzm.func28, Ybzm.ntmps28
      go_wp2_with (first
        | (at_builtin; refine wpList_appB1k w1 rfl (.tmp 27) (.tmp 29) 30 rfl Ybzm.underlying30 Ybzm.info5 base v1 (bs ++ [92]) rfl hown1 c _ rfl (by simp) (by simp; omega) (Nat.le_trans hbase hb1.size) ?_; intro v2 w2 hown2 hb2 hs2)
        | (at_builtin; refine wpList_appB1k w rfl (.tmp 24) (.tmp 25) 30 rfl Ybzm.underlying30 Ybzm.info5 base v bs rfl HO.out 92 _ rfl (by simp) (by omega) hbase ?_; intro v1 w1 hown1 hb1 hs1))
      go_ret
      exact fin.out v2 w1 w2 hown2 hb1 hb2 hs1 hs2
    · have g93 : ((c.toNat : Int) == 93) = false := beq_eq_false_iff_ne.2 (by omega)
      by_cases h45 : c.toNat = 45
      · have g45 : ((c.toNat : Int) == 45) = true := by rw [h45]; rfl
        clear h45
        go_enter Ybzm.func28, Ybzm.ntmps28
        go_wp2_with (first
          | (at_builtin; refine wpList_appB1k w1 rfl (.tmp 27) (.tmp 29) 30 rfl Ybzm.underlying30 Ybzm.info5 base v1 (bs ++ [92]) rfl hown1 c _ rfl (by simp) (by simp; omega) (Nat.le_trans hbase hb1.size) ?_; intro v2 w2 hown2 hb2 hs2)
          | (at_builtin; refine wpList_appB1k w rfl (.tmp 24) (.tmp 25) 30 rfl Ybzm.underlying30 Ybzm.info5 base v bs rfl HO.out 92 _ rfl (by simp) (by omega) hbase ?_; intro v1 w1 hown1 hb1 hs1))
        go_ret
        exact fin.out v2 w1 w2 hown2 hb1 hb2 hs1 hs2
      · have g45 : ((c.toNat : Int) == 45) = false := beq_eq_false_iff_ne.2 (by omega)
        by_cases h33 : c.toNat = 33
        · have g33 : ((c.toNat : Int) == 33) = true := by rw [h33]; rfl
          clear h33
          go_enter Ybzm.func28, Ybzm.ntmps28
          go_wp2_with (first
            | (at_builtin; refine wpList_appB1k w1 rfl (.tmp 27) (.tmp 29) 30 rfl Ybzm.underlying30 Ybzm.info5 base v1 (bs ++ [92]) rfl hown1 c _ rfl (by simp) (by simp; omega) (Nat.le_trans hbase hb1.size) ?_; intro v2 w2 hown2 hb2 hs2)
            | (at_builtin; refine wpList_appB1k w rfl (.tmp 24) (.tmp 25) 30 rfl Ybzm.underlying30 Ybzm.info5 base v bs rfl HO.out 92 _ rfl (by simp) (by omega) hbase ?_; intro v1 w1 hown1 hb1 hs1))
          go_ret
          exact fin.out v2 w1 w2 hown2 hb1 hb2 hs1 hs2
        · have g33 : ((c.toNat : Int) == 33) = false := beq_eq_false_iff_ne.2 (by omega)
          by_cases h92 : c.toNat = 92
          · have g92 : ((c.toNat : Int) == 92) = true := by rw [h92]; rfl
            clear h92
            go_enter Ybzm.func28, Ybzm.ntmps28
            go_wp2_with (first
              | (at_builtin; refine wpList_appB1k w1 rfl (.tmp 27) (.tmp 29) 30 rfl Ybzm.underlying30 Ybzm.info5 base v1 (bs ++ [92]) rfl hown1 c _ rfl (by simp) (by simp; omega) (Nat.le_trans hbase hb1.size) ?_; intro v2 w2 hown2 hb2 hs2)
              | (at_builtin; refine wpList_appB1k w rfl (.tmp 24) (.tmp 25) 30 rfl Ybzm.underlying30 Ybzm.info5 base v bs rfl HO.out 92 _ rfl (by simp) (by omega) hbase ?_; intro v1 w1 hown1 hb1 hs1))
            go_ret
            exact fin.out v2 w1 w2 hown2 hb1 hb2 hs1 hs2
          · have g92 : ((c.toNat : Int) == 92) = false := beq_eq_false_iff_ne.2 (by omega)
            have HP : Hid (c.toNat ≠ 92 ∧ c.toNat ≠ 93 ∧ c.toNat ≠ 45 ∧ c.toNat ≠ 33) := ⟨h92, h93, h45, h33⟩
            clear h93 h45 h33 h92
            go_enter Ybzm.func28, Ybzm.ntmps28
            go_wp2_with (at_builtin; go_must (refine wpList_appB1k w rfl (.tmp 27) (.tmp 29) 30 rfl Ybzm.underlying30 Ybzm.info5 base v bs rfl HO.out c _ rfl (by simp) (by omega) hbase ?_); intro v1 w1 hown1 hb1 hs1)
            go_ret
            exact ⟨v1, [c], rfl, hown1, .inr ⟨rfl, HP.out⟩, hb1, hs1⟩
end Go.Proofs.Ymbrbz

/-
  A class written out item by item is read back by readClass's function.
-/
import Derived.Test.YmbrbzClassFn
namespace Go.Proofs.Ymbrbz

/-- l is a spelling of the byte c within a class: behind a backslash, or bare where it has no other meaning. -/
def Spelt (c : UInt8) (l : List UInt8) : Prop := l = [92, c] ∨ (l = [c] ∧ c.toNat ≠ 92 ∧ c.toNat ≠ 93 ∧ c.toNat ≠ 45 ∧ c.toNat ≠ 33)

theorem rdIn_spelt {c : UInt8} {l : List UInt8} (h : Spelt c l) (rest : List UInt8) : rdIn (l ++ rest) = some (c, rest) := by
  rcases h with rfl | ⟨rfl, h1, h2, h3, _⟩
  · simp [rdIn]
  · simp [rdIn, h1, h2, h3]

/-- How a spelling begins. -/
theorem spelt_head {c : UInt8} {l : List UInt8} (h : Spelt c l) : ∃ x t, l = x :: t ∧ x.toNat ≠ 93 ∧ x.toNat ≠ 45 ∧ x.toNat ≠ 33 := by
  rcases h with rfl | ⟨rfl, h1, h2, h3, h4⟩
  · exact ⟨92, _, rfl, by decide, by decide, by decide⟩
  · exact ⟨c, _, rfl, h2, h3, h4⟩

/-- txt is a spelling of the item lo to hi. -/
def ItemTxt (lo hi : UInt8) (txt : List UInt8) : Prop := (Spelt lo txt ∧ hi = lo) ∨ ∃ l m, Spelt lo l ∧ Spelt hi m ∧ txt = l ++ 45 :: m ∧ lo.toNat ≤ hi.toNat

theorem item_head {lo hi : UInt8} {txt : List UInt8} (h : ItemTxt lo hi txt) : ∃ x t, txt = x :: t ∧ x.toNat ≠ 93 ∧ x.toNat ≠ 45 ∧ x.toNat ≠ 33 := by
  rcases h with ⟨h, _⟩ | ⟨l, m, h, _, rfl, _⟩
  · exact spelt_head h
  · obtain ⟨x, t, rfl, h1, h2, h3⟩ := spelt_head h
    exact ⟨x, _, rfl, h1, h2, h3⟩

def txts (its : List (UInt8 × UInt8 × List UInt8)) : List UInt8 := its.flatMap fun it => it.2.2
def bnds (its : List (UInt8 × UInt8 × List UInt8)) : List (UInt8 × UInt8) := its.map fun it => (it.1, it.2.1)

theorem rest_head (its : List (UInt8 × UInt8 × List UInt8)) (h : ∀ it ∈ its, ItemTxt it.1 it.2.1 it.2.2) (after : List UInt8) : ∃ x t, txts its ++ 93 :: after = x :: t ∧ x.toNat ≠ 45 ∧ x.toNat ≠ 33 := by
  cases its with
  | nil => exact ⟨93, after, rfl, by decide, by decide⟩
  | cons it r =>
    obtain ⟨x, t, e, _, h2, h3⟩ := item_head (h it (by simp))
    refine ⟨x, t ++ (txts r ++ 93 :: after), ?_, h2, h3⟩
    simp [txts, e]

theorem rcl_items : ∀ (its : List (UInt8 × UInt8 × List UInt8)), (∀ it ∈ its, ItemTxt it.1 it.2.1 it.2.2) → ∀ (f : Nat) (acc : List (UInt8 × UInt8)) (after : List UInt8), its.length < f →
    rcl f acc (txts its ++ 93 :: after) = if acc ++ bnds its = [] then none else some (acc ++ bnds its, after) := by
  intro its
  induction its with
  | nil =>
    intro _ f acc after hf
    cases f with
    | zero => omega
    | succ f =>
      show rcl (f + 1) acc (93 :: after) = _
      unfold rcl
      rw [if_pos (by decide)]
      simp [bnds]
  | cons it r ih =>
    intro h f acc after hf
    cases f with
    | zero => omega
    | succ f =>
      have hit := h it (by simp)
      have hr : ∀ x ∈ r, ItemTxt x.1 x.2.1 x.2.2 := fun x hx => h x (by simp [hx])
      obtain ⟨y, u, hy, hy45, _⟩ := rest_head r hr after
      obtain ⟨x, t, hx, h93, _, _⟩ := item_head hit
      have e : txts (it :: r) ++ 93 :: after = it.2.2 ++ (txts r ++ 93 :: after) := by simp [txts]
      have goal : ∀ hi, it.2.1 = hi → rcl f (acc ++ [(it.1, hi)]) (txts r ++ 93 :: after) = if acc ++ bnds (it :: r) = [] then none else some (acc ++ bnds (it :: r), after) := by
        intro hi e1
        rw [ih hr f _ after (by simp at hf; omega)]
        simp [bnds, e1]
      rw [e]
      have e2 : rcl (f + 1) acc (it.2.2 ++ (txts r ++ 93 :: after)) = (rdIn (it.2.2 ++ (txts r ++ 93 :: after))).bind fun p => (rrng p.1 p.2).bind fun q => rcl f (acc ++ [(p.1, q.1)]) q.2 := by
        rw [hx]
        show rcl (f + 1) acc (x :: (t ++ (txts r ++ 93 :: after))) = _
        conv => lhs; unfold rcl
        rw [if_neg h93]
        rfl
      rw [e2]
      rcases hit with ⟨hs, e1⟩ | ⟨l, m, hl, hm, e1, hle⟩
      · rw [rdIn_spelt hs]
        simp only [Option.bind_some]
        rw [hy]
        simp only [rrng]
        rw [if_neg hy45, ← hy]
        simp only [Option.bind_some]
        exact goal it.1 e1
      · rw [e1, List.append_assoc, rdIn_spelt hl]
        simp only [Option.bind_some]
        show ((rrng it.1 (45 :: (m ++ (txts r ++ 93 :: after)))).bind fun q => rcl f (acc ++ [(it.1, q.1)]) q.2) = _
        simp only [rrng]
        rw [if_pos (by decide), rdIn_spelt hm]
        simp only [Option.bind_some]
        rw [if_neg (by omega)]
        simp only [Option.bind_some]
        exact goal it.2.1 rfl

theorem txts_len (its : List (UInt8 × UInt8 × List UInt8)) (h : ∀ it ∈ its, ItemTxt it.1 it.2.1 it.2.2) : its.length ≤ (txts its).length := by
  induction its with
  | nil => simp
  | cons it r ih =>
    obtain ⟨x, t, e, _⟩ := item_head (h it (by simp))
    have := ih fun x hx => h x (by simp [hx])
    simp [txts, e] at this ⊢
    omega

/-- The whole class behind its '['. -/
theorem rdClass_items (neg : Bool) (its : List (UInt8 × UInt8 × List UInt8)) (h : ∀ it ∈ its, ItemTxt it.1 it.2.1 it.2.2) (after : List UInt8) :
    rdClass ((if neg then [33] else []) ++ (txts its ++ 93 :: after)) = if its = [] then none else some (neg, bnds its, after) := by
  have hlen := txts_len its h
  have hb : ([] ++ bnds its = []) ↔ its = [] := by simp [bnds]
  unfold rdClass
  cases neg with
  | true =>
    show (rcl ((33 :: (txts its ++ 93 :: after)).length + 1) [] (offBang (33 :: (txts its ++ 93 :: after)))).map (fun p => (isBang (33 :: (txts its ++ 93 :: after)), p.1, p.2)) = _
    have e1 : offBang (33 :: (txts its ++ 93 :: after)) = txts its ++ 93 :: after := by simp [offBang]
    have e2 : isBang (33 :: (txts its ++ 93 :: after)) = true := by simp [isBang]
    rw [e1, e2, rcl_items its h _ [] after (by simp; omega)]
    by_cases hi : its = []
    · simp [hi, bnds]
    · rw [if_neg (by rw [hb]; exact hi), if_neg hi]; rfl
  | false =>
    obtain ⟨x, t, e, _, h33⟩ := rest_head its h after
    simp only [Bool.false_eq_true, if_false, List.nil_append]
    have e1 : offBang (txts its ++ 93 :: after) = txts its ++ 93 :: after := by rw [e]; simp [offBang, h33]
    have e2 : isBang (txts its ++ 93 :: after) = false := by rw [e]; simp [isBang, h33]
    rw [e1, e2, rcl_items its h _ [] after (by simp; omega)]
    by_cases hi : its = []
    · simp [hi, bnds]
    · rw [if_neg (by rw [hb]; exact hi), if_neg hi]; rfl
end Go.Proofs.Ymbrbz

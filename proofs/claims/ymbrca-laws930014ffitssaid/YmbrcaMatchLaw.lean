/-
  What it means that tokens match a string, and how the answer is computed from the front and from the back. No Go in sight.
-/
import Derived.Test.YmbrcaTokens
import Derived.Test.YmbrcaMatchOne
namespace Go.Proofs.Ymbrca
open Go.RowKit

def tOne (t : Tk) (c : UInt8) : Bool := mOne t.kind t.char t.neg t.rs c

/-- The tokens match the whole of the bytes. -/
def mt : List Tk → List UInt8 → Bool
  | [], s => s.isEmpty
  | t :: ts, [] => decide (t.kind = 2) && mt ts []
  | t :: ts, c :: s => if t.kind = 2 then mt ts (c :: s) || mt (t :: ts) s else tOne t c && mt ts s

theorem mt_star (t : Tk) (ts : List Tk) (h : t.kind = 2) (s : List UInt8) : mt (t :: ts) s = true ↔ ∃ u v, s = u ++ v ∧ mt ts v = true := by
  induction s with
  | nil =>
    simp only [mt, h, decide_true, Bool.true_and]
    constructor
    · intro q; exact ⟨[], [], rfl, q⟩
    · rintro ⟨u, v, e, q⟩
      have : v = [] := by cases u <;> simp_all
      rw [this] at q; exact q
  | cons c s ih =>
    simp only [mt, h, if_true, Bool.or_eq_true, ih]
    constructor
    · rintro (q | ⟨u, v, e, q⟩)
      · exact ⟨[], _, rfl, q⟩
      · exact ⟨c :: u, v, by rw [e]; rfl, q⟩
    · rintro ⟨u, v, e, q⟩
      cases u with
      | nil => left; rw [show c :: s = v from e]; exact q
      | cons d u => right; simp at e; exact ⟨u, v, e.2, q⟩

theorem mt_one (t : Tk) (ts : List Tk) (h : t.kind ≠ 2) (s : List UInt8) : mt (t :: ts) s = true ↔ ∃ c v, s = c :: v ∧ tOne t c = true ∧ mt ts v = true := by
  cases s with
  | nil => simp [mt, h]
  | cons c s =>
    simp only [mt, if_neg h, Bool.and_eq_true]
    constructor
    · rintro ⟨h1, h2⟩; exact ⟨c, s, rfl, h1, h2⟩
    · rintro ⟨c', v, e, h1, h2⟩
      simp only [List.cons.injEq] at e
      obtain ⟨rfl, rfl⟩ := e
      exact ⟨h1, h2⟩

theorem mt_nil : mt [] [] = true := by simp [mt]

theorem mt_append (p q : List Tk) (s : List UInt8) : mt (p ++ q) s = true ↔ ∃ u v, s = u ++ v ∧ mt p u = true ∧ mt q v = true := by
  induction p generalizing s with
  | nil =>
    constructor
    · intro h; exact ⟨[], s, rfl, mt_nil, h⟩
    · rintro ⟨u, v, rfl, h1, h2⟩
      have : u = [] := by cases u <;> simp_all [mt]
      subst this; exact h2
  | cons t p ih =>
    by_cases h : t.kind = 2
    · rw [List.cons_append, mt_star _ _ h]
      constructor
      · rintro ⟨u, v, rfl, hv⟩
        obtain ⟨u2, v2, rfl, h1, h2⟩ := (ih v).1 hv
        exact ⟨u ++ u2, v2, by simp, (mt_star _ _ h _).2 ⟨u, u2, rfl, h1⟩, h2⟩
      · rintro ⟨u, v, rfl, h1, h2⟩
        obtain ⟨a, b, rfl, h3⟩ := (mt_star _ _ h _).1 h1
        exact ⟨a, b ++ v, by simp, (ih _).2 ⟨b, v, rfl, h3, h2⟩⟩
    · rw [List.cons_append, mt_one _ _ h]
      constructor
      · rintro ⟨c, v, rfl, h0, hv⟩
        obtain ⟨u2, v2, rfl, h1, h2⟩ := (ih v).1 hv
        exact ⟨c :: u2, v2, rfl, (mt_one _ _ h _).2 ⟨c, u2, rfl, h0, h1⟩, h2⟩
      · rintro ⟨u, v, rfl, h1, h2⟩
        obtain ⟨c, b, rfl, h3, h4⟩ := (mt_one _ _ h _).1 h1
        exact ⟨c, b ++ v, rfl, h3, (ih _).2 ⟨b, v, rfl, h4, h2⟩⟩

theorem mt_snoc_star (p : List Tk) (t : Tk) (h : t.kind = 2) (s : List UInt8) : mt (p ++ [t]) s = true ↔ ∃ u v, s = u ++ v ∧ mt p u = true := by
  rw [mt_append]
  constructor
  · rintro ⟨u, v, e, h1, _⟩; exact ⟨u, v, e, h1⟩
  · rintro ⟨u, v, e, h1⟩
    exact ⟨u, v, e, h1, (mt_star _ _ h _).2 ⟨v, [], by simp, mt_nil⟩⟩

theorem mt_snoc_one (p : List Tk) (t : Tk) (h : t.kind ≠ 2) (s : List UInt8) : mt (p ++ [t]) s = true ↔ ∃ u c, s = u ++ [c] ∧ mt p u = true ∧ tOne t c = true := by
  rw [mt_append]
  constructor
  · rintro ⟨u, v, e, h1, h2⟩
    obtain ⟨c, w, rfl, h3, h4⟩ := (mt_one _ _ h _).1 h2
    have : w = [] := by cases w <;> simp_all [mt]
    subst this
    exact ⟨u, c, e, h1, h3⟩
  · rintro ⟨u, c, e, h1, h2⟩
    exact ⟨u, [c], e, h1, (mt_one _ _ h _).2 ⟨c, [], rfl, h2, mt_nil⟩⟩

/-- From the front: a star. -/
theorem fwd_star_zero (p : List Tk) (t : Tk) (h : t.kind = 2) : mt (p ++ [t]) [] = mt p [] := by
  rw [Bool.eq_iff_iff, mt_snoc_star p t h]
  constructor
  · rintro ⟨u, v, e, h1⟩
    have : u = [] := by cases u <;> simp_all
    rw [this] at h1; exact h1
  · intro h1; exact ⟨[], [], rfl, h1⟩

theorem fwd_star_succ (p : List Tk) (t : Tk) (h : t.kind = 2) (u : List UInt8) (c : UInt8) : mt (p ++ [t]) (u ++ [c]) = (mt p (u ++ [c]) || mt (p ++ [t]) u) := by
  rw [Bool.eq_iff_iff, Bool.or_eq_true, mt_snoc_star p t h, mt_snoc_star p t h]
  constructor
  · rintro ⟨a, b, e, h1⟩
    rcases List.eq_nil_or_concat b with rfl | ⟨b', x, rfl⟩
    · left; rw [e, List.append_nil]; exact h1
    · right
      rw [List.concat_eq_append, ← List.append_assoc] at e
      have := List.append_inj' e rfl
      exact ⟨a, b', this.1, h1⟩
  · rintro (h1 | ⟨a, b, e, h1⟩)
    · exact ⟨_, [], by simp, h1⟩
    · exact ⟨a, b ++ [c], by rw [e, List.append_assoc], h1⟩

theorem fwd_one_zero (p : List Tk) (t : Tk) (h : t.kind ≠ 2) : mt (p ++ [t]) [] = false := by
  rw [← Bool.not_eq_true, mt_snoc_one p t h]
  rintro ⟨u, c, e, _⟩
  simp at e

theorem fwd_one_succ (p : List Tk) (t : Tk) (h : t.kind ≠ 2) (u : List UInt8) (c : UInt8) : mt (p ++ [t]) (u ++ [c]) = (mt p u && tOne t c) := by
  rw [Bool.eq_iff_iff, Bool.and_eq_true, mt_snoc_one p t h]
  constructor
  · rintro ⟨a, d, e, h1, h2⟩
    have := List.append_inj' e rfl
    rw [this.1]
    have hd : c = d := by simpa using this.2
    rw [hd]
    exact ⟨h1, h2⟩
  · rintro ⟨h1, h2⟩; exact ⟨u, c, rfl, h1, h2⟩
end Go.Proofs.Ymbrca

/-
  The law's small state machine for a class, one byte a step, agrees with readClass's function.
-/
import Derived.Test.YmbrcbClassFn
namespace Go.Proofs.Ymbrcb

/-- The machine: is this the first byte; the sign; the ranges so far; behind a backslash; state (0 none pending, 1 a low byte pending, 2 the upper bound must come); the low byte. -/
def jrun : Bool → Bool → List (UInt8 × UInt8) → Bool → Int → UInt8 → List UInt8 → Option (Bool × List (UInt8 × UInt8) × List UInt8)
  | _, _, _, _, _, _, [] => none
  | first, neg, rs, e, st, lo, c :: t =>
    if first = true ∧ c.toNat = 33 then jrun false true rs e st lo t
    else if e = false ∧ c.toNat = 92 then jrun false neg rs true st lo t
    else if e = false ∧ c.toNat = 93 then
      (if st = 1 then some (neg, rs ++ [(lo, lo)], t) else if st = 2 ∨ rs = [] then none else some (neg, rs, t))
    else if e = false ∧ c.toNat = 45 then (if st = 1 then jrun false neg rs false 2 lo t else none)
    else if st = 2 then (if c.toNat < lo.toNat then none else jrun false neg (rs ++ [(lo, c)]) false 0 lo t)
    else jrun false neg (if st = 1 then rs ++ [(lo, lo)] else rs) false 1 c t

def withSign (neg : Bool) (o : Option (List (UInt8 × UInt8) × List UInt8)) : Option (Bool × List (UInt8 × UInt8) × List UInt8) := o.map fun p => (neg, p.1, p.2)

theorem jrun_rcl : ∀ (f : Nat) (neg : Bool) (l : List UInt8), l.length < f →
    (∀ acc lo, jrun false neg acc false 0 lo l = withSign neg (rcl f acc l)) ∧
    (∀ acc lo, jrun false neg acc false 1 lo l = (rrng lo l).bind fun q => withSign neg (rcl f (acc ++ [(lo, q.1)]) q.2)) := by
  intro f
  induction f with
  | zero => intro neg l h; omega
  | succ f ih =>
    intro neg l hf
    cases l with
    | nil => exact ⟨fun acc lo => rfl, fun acc lo => rfl⟩
    | cons c t =>
      have ht : t.length < f := by simp only [List.length_cons] at hf; omega
      have hstep : ∀ (acc : List (UInt8 × UInt8)), c.toNat ≠ 93 → rcl (f + 1) acc (c :: t) = (rdIn (c :: t)).bind fun p => (rrng p.1 p.2).bind fun q => rcl f (acc ++ [(p.1, q.1)]) q.2 := by
        intro acc h
        conv => lhs; unfold rcl
        rw [if_neg h]
      -- a byte that begins an item
      have hitem : ∀ acc, c.toNat ≠ 93 → c.toNat ≠ 45 → (c.toNat = 92 → ∀ d t', t = d :: t' → withSign neg (rcl (f + 1) acc (c :: t)) = jrun false neg acc false 1 d t') ∧ (c.toNat ≠ 92 → withSign neg (rcl (f + 1) acc (c :: t)) = jrun false neg acc false 1 c t) := by
        intro acc h93 h45
        constructor
        · rintro h92 d t' rfl
          have ht' : t'.length < f := by simp only [List.length_cons] at ht; omega
          rw [hstep acc h93, (ih neg t' ht').2]
          simp only [rdIn, h92, if_true, Option.bind_some]
          cases rrng d t' <;> rfl
        · intro h92
          rw [hstep acc h93, (ih neg t ht).2]
          have : rdIn (c :: t) = some (c, t) := by simp [rdIn, h92, h93, h45]
          rw [this]
          simp only [Option.bind_some]
          cases rrng c t <;> rfl
      constructor
      · intro acc lo
        unfold jrun
        rw [if_neg (by simp)]
        by_cases h92 : c.toNat = 92
        · rw [if_pos ⟨rfl, h92⟩]
          cases t with
          | nil =>
            rw [hstep acc (by omega)]
            simp [rdIn, h92, jrun, withSign]
          | cons d t' =>
            rw [(hitem acc (by omega) (by omega)).1 h92 d t' rfl]
            simp [jrun]
        · rw [if_neg (by simp [h92])]
          by_cases h93 : c.toNat = 93
          · rw [if_pos ⟨rfl, h93⟩]
            unfold rcl
            rw [if_pos h93]
            by_cases ha : acc = []
            · simp [ha, withSign]
            · simp [ha, withSign]
          · rw [if_neg (by simp [h93])]
            by_cases h45 : c.toNat = 45
            · rw [if_pos ⟨rfl, h45⟩, hstep acc h93]
              simp [rdIn, h45, withSign]
            · rw [if_neg (by simp [h45]), (hitem acc h93 h45).2 h92]
              simp
      · intro acc lo
        unfold jrun
        rw [if_neg (by simp)]
        by_cases h92 : c.toNat = 92
        · rw [if_pos ⟨rfl, h92⟩]
          have hr : rrng lo (c :: t) = some (lo, c :: t) := by simp [rrng, h92]
          rw [hr]
          simp only [Option.bind_some]
          cases t with
          | nil =>
            rw [hstep _ (by omega)]
            simp [rdIn, h92, jrun, withSign]
          | cons d t' =>
            rw [(hitem _ (by omega) (by omega)).1 h92 d t' rfl]
            simp [jrun]
        · rw [if_neg (by simp [h92])]
          by_cases h93 : c.toNat = 93
          · rw [if_pos ⟨rfl, h93⟩]
            have hr : rrng lo (c :: t) = some (lo, c :: t) := by simp [rrng, h93]
            rw [hr]
            simp only [Option.bind_some]
            unfold rcl
            rw [if_pos h93]
            simp [withSign]
          · rw [if_neg (by simp [h93])]
            by_cases h45 : c.toNat = 45
            · rw [if_pos ⟨rfl, h45⟩]
              simp only [rrng, h45, if_true]
              cases t with
              | nil => simp [rdIn, jrun]
              | cons d u =>
                unfold jrun
                rw [if_neg (by simp)]
                by_cases d92 : d.toNat = 92
                · rw [if_pos ⟨rfl, d92⟩]
                  cases u with
                  | nil => simp [rdIn, d92, jrun]
                  | cons x u' =>
                    have hu : u'.length < f + 1 := by simp only [List.length_cons] at ht; omega
                    have hu2 : u'.length < f := by simp only [List.length_cons] at ht; omega
                    by_cases hx : x.toNat < lo.toNat
                    · simp [rdIn, d92, jrun, hx]
                    · simp [rdIn, d92, jrun, hx]
                      rw [(ih neg u' hu2).1, rcl_fuel f (f + 1) _ _ hu2 hu]
                · rw [if_neg (by simp [d92])]
                  by_cases d93 : d.toNat = 93
                  · rw [if_pos ⟨rfl, d93⟩]
                    simp [rdIn, d93]
                  · rw [if_neg (by simp [d93])]
                    by_cases d45 : d.toNat = 45
                    · rw [if_pos ⟨rfl, d45⟩]
                      simp [rdIn, d45]
                    · rw [if_neg (by simp [d45])]
                      have hu : u.length < f + 1 := by simp only [List.length_cons] at ht; omega
                      have hu2 : u.length < f := by simp only [List.length_cons] at ht; omega
                      by_cases hx : d.toNat < lo.toNat
                      · simp [rdIn, d92, d93, d45, hx]
                      · simp [rdIn, d92, d93, d45, hx]
                        rw [(ih neg u hu2).1, rcl_fuel f (f + 1) _ _ hu2 hu]
            · have hr : rrng lo (c :: t) = some (lo, c :: t) := by simp [rrng, h45]
              rw [if_neg (by simp [h45]), hr]
              simp only [Option.bind_some]
              rw [(hitem _ h93 h45).2 h92]
              simp

theorem jrun_rdClass (l : List UInt8) : jrun true false [] false 0 0 l = rdClass l := by
  unfold rdClass
  cases l with
  | nil => rfl
  | cons c t =>
    by_cases h33 : c.toNat = 33
    · have e : jrun true false [] false 0 0 (c :: t) = jrun false true [] false 0 0 t := by
        conv => lhs; unfold jrun
        rw [if_pos ⟨rfl, h33⟩]
      rw [e, (jrun_rcl ((c :: t).length + 1) true t (by simp; omega)).1]
      simp [isBang, offBang, h33, withSign]
    · have e : jrun true false [] false 0 0 (c :: t) = jrun false false [] false 0 0 (c :: t) := by
        conv => lhs; unfold jrun
        conv => rhs; unfold jrun
        simp [h33]
      rw [e, (jrun_rcl ((c :: t).length + 1) false (c :: t) (by omega)).1]
      simp [isBang, offBang, h33, withSign]
end Go.Proofs.Ymbrcb

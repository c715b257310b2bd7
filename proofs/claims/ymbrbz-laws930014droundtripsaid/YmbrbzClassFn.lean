/-
  readClass as a plain function of what is left of the pattern.
-/
namespace Go.Proofs.Ymbrbz

/-- One byte within a class. -/
def rdIn : List UInt8 → Option (UInt8 × List UInt8)
  | [] => none
  | c :: t => if c.toNat = 92 then (match t with | [] => none | d :: t' => some (d, t')) else if c.toNat = 93 ∨ c.toNat = 45 then none else some (c, t)

/-- Behind a low byte: the high byte of the item. -/
def rrng (lo : UInt8) : List UInt8 → Option (UInt8 × List UInt8)
  | [] => some (lo, [])
  | d :: t => if d.toNat = 45 then (rdIn t).bind fun p => if p.1.toNat < lo.toNat then none else some p else some (lo, d :: t)

/-- The items of a class up to its ']': the ranges, and what is left behind it. -/
def rcl : Nat → List (UInt8 × UInt8) → List UInt8 → Option (List (UInt8 × UInt8) × List UInt8)
  | 0, _, _ => none
  | _ + 1, _, [] => none
  | f + 1, acc, c :: t =>
    if c.toNat = 93 then (if acc = [] then none else some (acc, t))
    else (rdIn (c :: t)).bind fun p => (rrng p.1 p.2).bind fun q => rcl f (acc ++ [(p.1, q.1)]) q.2

def isBang : List UInt8 → Bool
  | [] => false
  | c :: _ => decide (c.toNat = 33)
def offBang : List UInt8 → List UInt8
  | [] => []
  | c :: t => if c.toNat = 33 then t else c :: t
/-- readClass: the sign, the ranges, what is left. -/
def rdClass (l : List UInt8) : Option (Bool × List (UInt8 × UInt8) × List UInt8) := (rcl (l.length + 1) [] (offBang l)).map fun p => (isBang l, p.1, p.2)

theorem rdIn_drop {l r : List UInt8} {c : UInt8} (h : rdIn l = some (c, r)) : r.length < l.length ∧ ∃ n, r = l.drop n := by
  cases l with
  | nil => cases h
  | cons x t =>
    simp only [rdIn] at h
    split at h
    · cases t with
      | nil => cases h
      | cons d t' => cases h; exact ⟨by simp; omega, 2, rfl⟩
    · split at h
      · cases h
      · cases h; exact ⟨by simp, 1, rfl⟩

theorem rrng_drop {lo hi : UInt8} {l r : List UInt8} (h : rrng lo l = some (hi, r)) : r.length ≤ l.length ∧ ∃ n, r = l.drop n := by
  cases l with
  | nil => cases h; exact ⟨Nat.le_refl _, 0, rfl⟩
  | cons d t =>
    simp only [rrng] at h
    split at h
    · cases hm : rdIn t with
      | none => rw [hm] at h; cases h
      | some p =>
        rw [hm] at h
        simp only [Option.bind_some] at h
        split at h
        · cases h
        · cases h
          obtain ⟨h1, n, h2⟩ := rdIn_drop hm
          exact ⟨by simp; omega, n + 1, by rw [h2]; rfl⟩
    · cases h; exact ⟨Nat.le_refl _, 0, rfl⟩

theorem rcl_drop : ∀ (f : Nat) (acc : List (UInt8 × UInt8)) {l r : List UInt8} {rs : List (UInt8 × UInt8)}, rcl f acc l = some (rs, r) → r.length < l.length ∧ (∃ n, r = l.drop n) ∧ rs ≠ [] := by
  intro f
  induction f with
  | zero => intro acc l r rs h; cases h
  | succ f ih =>
    intro acc l r rs h
    cases l with
    | nil => cases h
    | cons c t =>
      unfold rcl at h
      split at h
      · split at h
        · cases h
        · cases h; exact ⟨by simp, ⟨1, rfl⟩, by assumption⟩
      · cases hm : rdIn (c :: t) with
        | none => rw [hm] at h; cases h
        | some p =>
          rw [hm] at h
          simp only [Option.bind_some] at h
          cases hr : rrng p.1 p.2 with
          | none => rw [hr] at h; cases h
          | some q =>
            rw [hr] at h
            simp only [Option.bind_some] at h
            obtain ⟨a1, n1, e1⟩ := rdIn_drop hm
            obtain ⟨a2, n2, e2⟩ := rrng_drop (hi := q.1) (r := q.2) hr
            obtain ⟨a3, ⟨n3, e3⟩, h4⟩ := ih _ h
            refine ⟨by omega, ⟨n1 + n2 + n3, ?_⟩, h4⟩
            rw [e3, e2, e1, List.drop_drop, List.drop_drop, Nat.add_assoc]

theorem offBang_drop (l : List UInt8) : (offBang l).length ≤ l.length ∧ ∃ n, offBang l = l.drop n := by
  cases l with
  | nil => exact ⟨Nat.le_refl _, 0, rfl⟩
  | cons c t =>
    simp only [offBang]
    split
    · exact ⟨by simp, 1, rfl⟩
    · exact ⟨Nat.le_refl _, 0, rfl⟩

theorem rdClass_drop {l r : List UInt8} {b : Bool} {rs : List (UInt8 × UInt8)} (h : rdClass l = some (b, rs, r)) : r.length < l.length ∧ (∃ n, r = l.drop n) ∧ rs ≠ [] := by
  unfold rdClass at h
  cases hc : rcl (l.length + 1) [] (offBang l) with
  | none => rw [hc] at h; cases h
  | some p =>
    rw [hc] at h
    simp only [Option.map_some, Option.some.injEq, Prod.mk.injEq] at h
    obtain ⟨_, h2, h3⟩ := h
    obtain ⟨a1, n1, e1⟩ := offBang_drop l
    obtain ⟨a2, ⟨n2, e2⟩, h4⟩ := rcl_drop _ _ hc
    subst h2 h3
    exact ⟨by omega, ⟨n1 + n2, by rw [e2, e1, List.drop_drop]⟩, h4⟩

/-- More fuel than the text is long changes nothing. -/
theorem rcl_fuel : ∀ (f g : Nat) (acc : List (UInt8 × UInt8)) (l : List UInt8), l.length < f → l.length < g → rcl f acc l = rcl g acc l := by
  intro f
  induction f with
  | zero => intro g acc l h; omega
  | succ f ih =>
    intro g acc l hf hg
    cases g with
    | zero => omega
    | succ g =>
      cases l with
      | nil => rfl
      | cons c t =>
        unfold rcl
        split
        · rfl
        · cases hm : rdIn (c :: t) with
          | none => rfl
          | some p =>
            simp only [Option.bind_some]
            cases hr : rrng p.1 p.2 with
            | none => rfl
            | some q =>
              simp only [Option.bind_some]
              have a1 := (rdIn_drop hm).1
              have a2 := (rrng_drop (hi := q.1) (r := q.2) hr).1
              simp only [List.length_cons] at hf hg a1
              exact ih g _ q.2 (by omega) (by omega)

end Go.Proofs.Ymbrbz

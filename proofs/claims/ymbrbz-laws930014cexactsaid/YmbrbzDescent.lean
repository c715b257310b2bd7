/-
  The grammar read by descent, on what is left of the pattern; it agrees with the machine behind Valid.
-/
import Derived.Test.YmbrbzVmachine
namespace Go.Proofs.Ymbrbz

/-- One byte, escaped or not. -/
def mchar : List UInt8 → Option (UInt8 × List UInt8)
  | [] => none
  | c :: t => if c.toNat = 92 then (match t with | [] => none | d :: t' => some (d, t')) else some (c, t)

/-- Behind a '-': the high byte. -/
def mhi (lo : UInt8) : List UInt8 → Option (List UInt8)
  | [] => none
  | d :: t => if d.toNat = 93 ∨ d.toNat = 45 then none else (mchar (d :: t)).bind fun p => if p.1.toNat < lo.toNat then none else some p.2

/-- Behind a low byte: perhaps '-' and a high byte. -/
def mrng (lo : UInt8) : List UInt8 → Option (List UInt8)
  | [] => some []
  | d :: t => if d.toNat = 45 then mhi lo t else some (d :: t)

/-- The items of a class up to its ']'; what is left behind it. -/
def mcl : Nat → Bool → List UInt8 → Option (List UInt8)
  | 0, _, _ => none
  | _ + 1, _, [] => none
  | f + 1, it, c :: t =>
    if c.toNat = 93 then (if it then some t else none)
    else if c.toNat = 45 then none
    else (mchar (c :: t)).bind fun p => (mrng p.1 p.2).bind fun r => mcl f true r

def mbang : List UInt8 → List UInt8
  | [] => []
  | c :: t => if c.toNat = 33 then t else c :: t
def mclass (l : List UInt8) : Option (List UInt8) := mcl (l.length + 1) false (mbang l)

def mmodel : Nat → List UInt8 → Bool
  | 0, _ => false
  | _ + 1, [] => true
  | f + 1, c :: t => if c.toNat = 91 then (match mclass t with | none => false | some r => mmodel f r) else (match mchar (c :: t) with | none => false | some p => mmodel f p.2)

theorem mchar_drop {l r : List UInt8} {c : UInt8} (h : mchar l = some (c, r)) : r.length < l.length ∧ ∃ n, r = l.drop n := by
  cases l with
  | nil => cases h
  | cons x t =>
    simp only [mchar] at h
    split at h
    · cases t with
      | nil => cases h
      | cons d t' => cases h; exact ⟨by simp; omega, 2, rfl⟩
    · cases h; exact ⟨by simp, 1, rfl⟩

theorem mrng_drop {lo : UInt8} {l r : List UInt8} (h : mrng lo l = some r) : r.length ≤ l.length ∧ ∃ n, r = l.drop n := by
  cases l with
  | nil => cases h; exact ⟨Nat.le_refl _, 0, rfl⟩
  | cons d t =>
    simp only [mrng] at h
    split at h
    · cases t with
      | nil => cases h
      | cons e u =>
        simp only [mhi] at h
        split at h
        · cases h
        · cases hm : mchar (e :: u) with
          | none => rw [hm] at h; cases h
          | some p =>
            rw [hm] at h
            simp only [Option.bind_some] at h
            split at h
            · cases h
            · cases h
              obtain ⟨h1, n, h2⟩ := mchar_drop hm
              refine ⟨by simp at h1 ⊢; omega, n + 1, ?_⟩
              rw [h2]; rfl
    · cases h; exact ⟨Nat.le_refl _, 0, rfl⟩

theorem drop_drop' (l : List UInt8) (a b : Nat) : (l.drop a).drop b = l.drop (a + b) := by rw [List.drop_drop]

theorem mcl_drop : ∀ (f : Nat) (it : Bool) {l r : List UInt8}, mcl f it l = some r → r.length < l.length ∧ ∃ n, r = l.drop n := by
  intro f
  induction f with
  | zero => intro it l r h; cases h
  | succ f ih =>
    intro it l r h
    cases l with
    | nil => cases h
    | cons c t =>
      unfold mcl at h
      split at h
      · split at h
        · cases h; exact ⟨by simp, 1, rfl⟩
        · cases h
      · split at h
        · cases h
        · cases hm : mchar (c :: t) with
          | none => rw [hm] at h; cases h
          | some p =>
            rw [hm] at h
            simp only [Option.bind_some] at h
            cases hr : mrng p.1 p.2 with
            | none => rw [hr] at h; cases h
            | some q =>
              rw [hr] at h
              simp only [Option.bind_some] at h
              obtain ⟨a1, n1, e1⟩ := mchar_drop hm
              obtain ⟨a2, n2, e2⟩ := mrng_drop hr
              obtain ⟨a3, n3, e3⟩ := ih true h
              refine ⟨by omega, n1 + n2 + n3, ?_⟩
              rw [e3, e2, e1, List.drop_drop, List.drop_drop, Nat.add_assoc]

theorem mbang_drop (l : List UInt8) : (mbang l).length ≤ l.length ∧ ∃ n, mbang l = l.drop n := by
  cases l with
  | nil => exact ⟨Nat.le_refl _, 0, rfl⟩
  | cons c t =>
    simp only [mbang]
    split
    · exact ⟨by simp, 1, rfl⟩
    · exact ⟨Nat.le_refl _, 0, rfl⟩

theorem mclass_drop {l r : List UInt8} (h : mclass l = some r) : r.length < l.length ∧ ∃ n, r = l.drop n := by
  obtain ⟨a1, n1, e1⟩ := mbang_drop l
  obtain ⟨a2, n2, e2⟩ := mcl_drop _ _ h
  exact ⟨by omega, n1 + n2, by rw [e2, e1, List.drop_drop]⟩

/-- More fuel than the text is long changes nothing. -/
theorem mcl_fuel : ∀ (f g : Nat) (it : Bool) (l : List UInt8), l.length < f → l.length < g → mcl f it l = mcl g it l := by
  intro f
  induction f with
  | zero => intro g it l h; omega
  | succ f ih =>
    intro g it l hf hg
    cases g with
    | zero => omega
    | succ g =>
      cases l with
      | nil => rfl
      | cons c t =>
        unfold mcl
        split
        · rfl
        · split
          · rfl
          · cases hm : mchar (c :: t) with
            | none => rfl
            | some p =>
              simp only [Option.bind_some]
              cases hr : mrng p.1 p.2 with
              | none => rfl
              | some q =>
                simp only [Option.bind_some]
                have a1 := (mchar_drop hm).1
                have a2 := (mrng_drop hr).1
                simp only [List.length_cons] at hf hg a1
                exact ih g true q (by omega) (by omega)

theorem mmodel_fuel : ∀ (f g : Nat) (l : List UInt8), l.length < f → l.length < g → mmodel f l = mmodel g l := by
  intro f
  induction f with
  | zero => intro g l h; omega
  | succ f ih =>
    intro g l hf hg
    cases g with
    | zero => omega
    | succ g =>
      cases l with
      | nil => rfl
      | cons c t =>
        unfold mmodel
        split
        · cases hm : mclass t with
          | none => rfl
          | some r =>
            have := (mclass_drop hm).1
            simp only [List.length_cons] at hf hg
            exact ih g r (by omega) (by omega)
        · cases hm : mchar (c :: t) with
          | none => rfl
          | some p =>
            have := (mchar_drop hm).1
            simp only [List.length_cons] at hf hg this
            exact ih g p.2 (by omega) (by omega)

end Go.Proofs.Ymbrbz

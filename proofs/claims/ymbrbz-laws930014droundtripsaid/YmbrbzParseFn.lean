/-
  Parse as a plain function of the pattern's bytes.
-/
import Derived.Test.YmbrbzClassFn
namespace Go.Proofs.Ymbrbz

/-- A token's plain fields. -/
structure Pk where
  kind : Int
  char : UInt8
  neg : Bool
  rs : List (UInt8 × UInt8)
deriving DecidableEq

/-- The first token, and what is left. -/
def parse1 : List UInt8 → Option (Pk × List UInt8)
  | [] => none
  | c :: t =>
    if c.toNat = 42 then some (⟨2, 0, false, []⟩, t)
    else if c.toNat = 63 then some (⟨1, 0, false, []⟩, t)
    else if c.toNat = 91 then (rdClass t).map fun q => (⟨3, 0, q.1, q.2.1⟩, q.2.2)
    else if c.toNat = 92 then (match t with | [] => none | d :: t' => some (⟨0, d, false, []⟩, t'))
    else some (⟨0, c, false, []⟩, t)

def parseF : Nat → List UInt8 → Option (List Pk)
  | 0, _ => none
  | _ + 1, [] => some []
  | f + 1, c :: t => (parse1 (c :: t)).bind fun p => (parseF f p.2).map (p.1 :: ·)

def parse (l : List UInt8) : Option (List Pk) := parseF (l.length + 1) l

theorem parse1_less {l r : List UInt8} {p : Pk} (h : parse1 l = some (p, r)) : r.length < l.length := by
  cases l with
  | nil => cases h
  | cons c t =>
    simp only [parse1] at h
    split at h
    · cases h; simp
    · split at h
      · cases h; simp
      · split at h
        · cases hc : rdClass t with
          | none => rw [hc] at h; cases h
          | some q =>
            rw [hc] at h
            simp only [Option.map_some, Option.some.injEq, Prod.mk.injEq] at h
            have := (rdClass_drop (b := q.1) (rs := q.2.1) (r := q.2.2) hc).1
            rw [← h.2]
            simp; omega
        · split at h
          · cases t with
            | nil => cases h
            | cons d t' => cases h; simp; omega
          · cases h; simp

theorem parseF_fuel : ∀ (f g : Nat) (l : List UInt8), l.length < f → l.length < g → parseF f l = parseF g l := by
  intro f
  induction f with
  | zero => intro g l h; omega
  | succ f ih =>
    intro g l hf hg
    cases g with
    | zero => omega
    | succ g =>
      cases l with
      | nil => rfl
      | cons c t =>
        unfold parseF
        cases hp : parse1 (c :: t) with
        | none => rfl
        | some p =>
          have := parse1_less (p := p.1) (r := p.2) hp
          simp only [Option.bind_some]
          simp only [List.length_cons] at this hf hg
          rw [ih g p.2 (by omega) (by omega)]

theorem parse_nil : parse [] = some [] := rfl

theorem parse_cons (c : UInt8) (t : List UInt8) : parse (c :: t) = (parse1 (c :: t)).bind fun p => (parse p.2).map (p.1 :: ·) := by
  unfold parse
  conv => lhs; unfold parseF
  cases hp : parse1 (c :: t) with
  | none => rfl
  | some p =>
    have := parse1_less (p := p.1) (r := p.2) hp
    simp only [Option.bind_some]
    rw [parseF_fuel _ (p.2.length + 1) p.2 (by simp only [List.length_cons] at this ⊢; omega) (by omega)]

theorem parse_step {l r : List UInt8} {p : Pk} (h : parse1 l = some (p, r)) : parse l = (parse r).map (p :: ·) := by
  cases l with
  | nil => cases h
  | cons c t => rw [parse_cons, h]; rfl

theorem parse_stop {c : UInt8} {t : List UInt8} (h : parse1 (c :: t) = none) : parse (c :: t) = none := by rw [parse_cons, h]; rfl
end Go.Proofs.Ymbrbz

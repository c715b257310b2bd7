/-
  Parse as an automaton that reads one byte at a time: what is still to come, state by state, told by Parse's own plain functions.
-/
import Derived.Test.YmbrbzParseFn
namespace Go.Proofs.Ymbrbz

def rclA (acc : List (UInt8 × UInt8)) (r : List UInt8) : Option (List (UInt8 × UInt8) × List UInt8) := rcl (r.length + 1) acc r

def fin (neg : Bool) (o : Option (List (UInt8 × UInt8) × List UInt8)) : Option (List Pk) := o.bind fun p => (parse p.2).map (⟨3, 0, neg, p.1⟩ :: ·)

/-- Behind a backslash outside a class. -/
def st1 : List UInt8 → Option (List Pk)
  | [] => none
  | d :: t => (parse t).map (⟨0, d, false, []⟩ :: ·)
/-- Just behind '['. -/
def st2 (r : List UInt8) : Option (List Pk) := (rdClass r).bind fun q => (parse q.2.2).map (⟨3, 0, q.1, q.2.1⟩ :: ·)
/-- A member or ']' is due. -/
def st3 (neg : Bool) (acc : List (UInt8 × UInt8)) (r : List UInt8) : Option (List Pk) := fin neg (rclA acc r)
/-- Behind the member lo. -/
def st5 (neg : Bool) (acc : List (UInt8 × UInt8)) (lo : UInt8) (r : List UInt8) : Option (List Pk) := (rrng lo r).bind fun q => st3 neg (acc ++ [(lo, q.1)]) q.2
/-- Behind a backslash where a member begins. -/
def st4 (neg : Bool) (acc : List (UInt8 × UInt8)) : List UInt8 → Option (List Pk)
  | [] => none
  | d :: t => st5 neg acc d t
/-- Behind '-'. -/
def st6 (neg : Bool) (acc : List (UInt8 × UInt8)) (lo : UInt8) (r : List UInt8) : Option (List Pk) := ((rdIn r).bind fun p => if p.1.toNat < lo.toNat then none else some p).bind fun q => st3 neg (acc ++ [(lo, q.1)]) q.2
/-- Behind a backslash behind '-'. -/
def st7 (neg : Bool) (acc : List (UInt8 × UInt8)) (lo : UInt8) : List UInt8 → Option (List Pk)
  | [] => none
  | d :: t => if d.toNat < lo.toNat then none else st3 neg (acc ++ [(lo, d)]) t

theorem top_star {c : UInt8} (h : c.toNat = 42) (t : List UInt8) : parse (c :: t) = (parse t).map (⟨2, 0, false, []⟩ :: ·) := parse_step (by simp [parse1, h])
theorem top_any {c : UInt8} (h : c.toNat = 63) (t : List UInt8) : parse (c :: t) = (parse t).map (⟨1, 0, false, []⟩ :: ·) := parse_step (by simp [parse1, h])
theorem top_lit {c : UInt8} (h1 : c.toNat ≠ 42) (h2 : c.toNat ≠ 63) (h3 : c.toNat ≠ 91) (h4 : c.toNat ≠ 92) (t : List UInt8) : parse (c :: t) = (parse t).map (⟨0, c, false, []⟩ :: ·) := parse_step (by simp [parse1, h1, h2, h3, h4])
theorem top_esc {c : UInt8} (h : c.toNat = 92) (t : List UInt8) : parse (c :: t) = st1 t := by
  rw [parse_cons]
  cases t with
  | nil => simp [parse1, h, st1]
  | cons d t' => simp [parse1, h, st1]
theorem top_open {c : UInt8} (h : c.toNat = 91) (t : List UInt8) : parse (c :: t) = st2 t := by
  rw [parse_cons]
  simp only [parse1, h, st2]
  rw [if_neg (by decide), if_neg (by decide), if_pos trivial]
  cases rdClass t with
  | none => rfl
  | some q => rfl

theorem st2_nil : st2 [] = none := rfl
theorem st2_bang {c : UInt8} (h : c.toNat = 33) (t : List UInt8) : st2 (c :: t) = st3 true [] t := by
  unfold st2 rdClass st3 fin rclA
  have e1 : offBang (c :: t) = t := by simp [offBang, h]
  have e2 : isBang (c :: t) = true := by simp [isBang, h]
  rw [e1, e2, rcl_fuel _ (t.length + 1) [] t (by simp; omega) (by omega)]
  cases rcl (t.length + 1) [] t with
  | none => rfl
  | some p => rfl
theorem st2_other {c : UInt8} (h : c.toNat ≠ 33) (t : List UInt8) : st2 (c :: t) = st3 false [] (c :: t) := by
  unfold st2 rdClass st3 fin rclA
  have e1 : offBang (c :: t) = c :: t := by simp [offBang, h]
  have e2 : isBang (c :: t) = false := by simp [isBang, h]
  rw [e1, e2]
  cases rcl ((c :: t).length + 1) [] (c :: t) with
  | none => rfl
  | some p => rfl

theorem rclA_step (acc : List (UInt8 × UInt8)) (c : UInt8) (t : List UInt8) (h : c.toNat ≠ 93) : rclA acc (c :: t) = (rdIn (c :: t)).bind fun p => (rrng p.1 p.2).bind fun q => rclA (acc ++ [(p.1, q.1)]) q.2 := by
  unfold rclA
  conv => lhs; unfold rcl
  rw [if_neg h]
  cases hm : rdIn (c :: t) with
  | none => rfl
  | some p =>
    simp only [Option.bind_some]
    cases hr : rrng p.1 p.2 with
    | none => rfl
    | some q =>
      simp only [Option.bind_some]
      have a1 := (rdIn_drop (c := p.1) (r := p.2) hm).1
      have a2 := (rrng_drop (hi := q.1) (r := q.2) hr).1
      simp only [List.length_cons] at a1 ⊢
      exact rcl_fuel _ _ _ _ (by omega) (by omega)

theorem st3_nil (neg : Bool) (acc : List (UInt8 × UInt8)) : st3 neg acc [] = none := rfl
theorem st3_end {c : UInt8} (h : c.toNat = 93) (neg : Bool) (acc : List (UInt8 × UInt8)) (h0 : acc ≠ []) (t : List UInt8) : st3 neg acc (c :: t) = (parse t).map (⟨3, 0, neg, acc⟩ :: ·) := by
  unfold st3 fin rclA rcl
  rw [if_pos h, if_neg h0]
  rfl
theorem st3_end0 {c : UInt8} (h : c.toNat = 93) (neg : Bool) (t : List UInt8) : st3 neg [] (c :: t) = none := by
  unfold st3 fin rclA rcl
  rw [if_pos h, if_pos rfl]
  rfl
theorem st3_dash {c : UInt8} (h : c.toNat = 45) (neg : Bool) (acc : List (UInt8 × UInt8)) (t : List UInt8) : st3 neg acc (c :: t) = none := by
  unfold st3 fin
  rw [rclA_step acc c t (by omega)]
  simp [rdIn, h]
theorem st3_esc {c : UInt8} (h : c.toNat = 92) (neg : Bool) (acc : List (UInt8 × UInt8)) (t : List UInt8) : st3 neg acc (c :: t) = st4 neg acc t := by
  unfold st3 fin
  rw [rclA_step acc c t (by omega)]
  cases t with
  | nil => simp [rdIn, h, st4]
  | cons d t' =>
    simp only [rdIn, h, if_true, Option.bind_some, st4, st5, st3, fin]
    cases rrng d t' with
    | none => rfl
    | some q => rfl
theorem st3_byte {c : UInt8} (h1 : c.toNat ≠ 92) (h2 : c.toNat ≠ 93) (h3 : c.toNat ≠ 45) (neg : Bool) (acc : List (UInt8 × UInt8)) (t : List UInt8) : st3 neg acc (c :: t) = st5 neg acc c t := by
  unfold st3 fin
  rw [rclA_step acc c t h2]
  have e : rdIn (c :: t) = some (c, t) := by simp [rdIn, h1, h2, h3]
  rw [e]
  simp only [Option.bind_some, st5, st3, fin]
  cases rrng c t with
  | none => rfl
  | some q => rfl

theorem st5_nil (neg : Bool) (acc : List (UInt8 × UInt8)) (lo : UInt8) : st5 neg acc lo [] = none := rfl
theorem st5_dash {c : UInt8} (h : c.toNat = 45) (neg : Bool) (acc : List (UInt8 × UInt8)) (lo : UInt8) (t : List UInt8) : st5 neg acc lo (c :: t) = st6 neg acc lo t := by
  unfold st5 st6
  simp only [rrng, if_pos h]
theorem st5_other {c : UInt8} (h : c.toNat ≠ 45) (neg : Bool) (acc : List (UInt8 × UInt8)) (lo : UInt8) (t : List UInt8) : st5 neg acc lo (c :: t) = st3 neg (acc ++ [(lo, lo)]) (c :: t) := by
  unfold st5
  simp only [rrng, if_neg h, Option.bind_some]

theorem st6_nil (neg : Bool) (acc : List (UInt8 × UInt8)) (lo : UInt8) : st6 neg acc lo [] = none := rfl
theorem st6_esc {c : UInt8} (h : c.toNat = 92) (neg : Bool) (acc : List (UInt8 × UInt8)) (lo : UInt8) (t : List UInt8) : st6 neg acc lo (c :: t) = st7 neg acc lo t := by
  unfold st6
  cases t with
  | nil => simp [rdIn, h, st7]
  | cons d t' =>
    simp only [rdIn, h, if_true, Option.bind_some, st7]
    split <;> rfl
theorem st6_bad {c : UInt8} (h : c.toNat = 93 ∨ c.toNat = 45) (neg : Bool) (acc : List (UInt8 × UInt8)) (lo : UInt8) (t : List UInt8) : st6 neg acc lo (c :: t) = none := by
  unfold st6
  have e : rdIn (c :: t) = none := by simp only [rdIn]; rw [if_neg (by omega), if_pos h]
  rw [e]; rfl
theorem st6_less {c : UInt8} (h1 : c.toNat ≠ 92) (neg : Bool) (acc : List (UInt8 × UInt8)) (lo : UInt8) (h : c.toNat < lo.toNat) (t : List UInt8) : st6 neg acc lo (c :: t) = none := by
  unfold st6
  simp only [rdIn, if_neg h1]
  split
  · rfl
  · simp [h]
theorem st6_byte {c : UInt8} (h1 : c.toNat ≠ 92) (h2 : c.toNat ≠ 93) (h3 : c.toNat ≠ 45) (neg : Bool) (acc : List (UInt8 × UInt8)) (lo : UInt8) (h : ¬ c.toNat < lo.toNat) (t : List UInt8) : st6 neg acc lo (c :: t) = st3 neg (acc ++ [(lo, c)]) t := by
  unfold st6
  have e : rdIn (c :: t) = some (c, t) := by simp [rdIn, h1, h2, h3]
  rw [e]
  simp [h]
theorem st7_less {d : UInt8} (neg : Bool) (acc : List (UInt8 × UInt8)) (lo : UInt8) (h : d.toNat < lo.toNat) (t : List UInt8) : st7 neg acc lo (d :: t) = none := by simp [st7, h]
theorem st7_byte {d : UInt8} (neg : Bool) (acc : List (UInt8 × UInt8)) (lo : UInt8) (h : ¬ d.toNat < lo.toNat) (t : List UInt8) : st7 neg acc lo (d :: t) = st3 neg (acc ++ [(lo, d)]) t := by simp [st7, h]
end Go.Proofs.Ymbrbz

/-
  Valid as a plain machine: one step a byte.
-/
namespace Go.Proofs.Ymbrbz

/-- One step of Valid: the state, 'behind a backslash', the low byte. None: Valid answers false. -/
def vstep (s : Int × Bool × UInt8) (c : UInt8) : Option (Int × Bool × UInt8) :=
  if s.2.1 = false ∧ c.toNat = 92 then some (s.1, true, s.2.2)
  else if s.1 = 0 then some (if s.2.1 = false ∧ c.toNat = 91 then 1 else 0, false, s.2.2)
  else if s.2.1 = false ∧ c.toNat = 33 ∧ s.1 = 1 then some (2, false, s.2.2)
  else if s.2.1 = false ∧ c.toNat = 93 then (if s.1 = 3 ∨ s.1 = 5 then some (0, false, s.2.2) else none)
  else if s.2.1 = false ∧ c.toNat = 45 then (if s.1 = 3 then some (4, false, s.2.2) else none)
  else if s.1 = 4 then (if c.toNat < s.2.2.toNat then none else some (5, false, s.2.2))
  else some (3, false, c)

def vrun (s : Int × Bool × UInt8) (l : List UInt8) : Option (Int × Bool × UInt8) := l.foldlM vstep s
def vok : Option (Int × Bool × UInt8) → Bool
  | some (st, e, _) => decide (st = 0) && !e
  | none => false
/-- What Valid answers. -/
def valid (l : List UInt8) : Bool := vok (vrun (0, false, 0) l)

theorem vrun_append (s : Int × Bool × UInt8) (a b : List UInt8) : vrun s (a ++ b) = (vrun s a).bind fun t => vrun t b := by
  unfold vrun
  rw [List.foldlM_append]
  rfl
theorem vrun_nil (s : Int × Bool × UInt8) : vrun s [] = some s := rfl
theorem vrun_cons (s : Int × Bool × UInt8) (c : UInt8) (t : List UInt8) : vrun s (c :: t) = (vstep s c).bind fun u => vrun u t := by
  unfold vrun
  rw [List.foldlM_cons]
  rfl

theorem vrun_take_succ (l : List UInt8) (k : Nat) (hk : k < l.length) (s t : Int × Bool × UInt8) (h : vrun s (l.take k) = some t) : vrun s (l.take (k + 1)) = vstep t l[k] := by
  rw [List.take_succ_eq_append_getElem hk, vrun_append, h]
  show vrun t [l[k]] = _
  rw [vrun_cons]
  cases vstep t l[k] <;> rfl

theorem vrun_dead (l : List UInt8) (k : Nat) (s : Int × Bool × UInt8) (h : vrun s (l.take k) = none) : vrun s l = none := by
  rw [← List.take_append_drop k l, vrun_append, h]
  rfl

end Go.Proofs.Ymbrbz

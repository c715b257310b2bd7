/-
  Plain laws of the machine behind Valid: a pattern built of escaped bytes, one class of escaped items, a tail.
-/
import Derived.Test.YmbrbzVmachine
namespace Go.Proofs.Ymbrbz

/-- Two states that the rest of the pattern cannot tell apart. -/
def VR (s t : Int × Bool × UInt8) : Prop := s.1 = t.1 ∧ s.2.1 = t.2.1 ∧ (s.1 = 4 ∨ s.1 = 3 → s.2.2 = t.2.2)

theorem vstep_VR {s t : Int × Bool × UInt8} (h : VR s t) (c : UInt8) : (vstep s c = none ∧ vstep t c = none) ∨ ∃ s' t', vstep s c = some s' ∧ vstep t c = some t' ∧ VR s' t' := by
  obtain ⟨st, e, lo⟩ := s
  obtain ⟨st', e', lo'⟩ := t
  obtain ⟨h1, h2, h3⟩ := h
  simp only at h1 h2 h3
  subst h1 h2
  unfold vstep
  simp only
  by_cases c1 : e = false ∧ c.toNat = 92
  · rw [if_pos c1, if_pos c1]; exact .inr ⟨_, _, rfl, rfl, rfl, rfl, h3⟩
  rw [if_neg c1, if_neg c1]
  by_cases c2 : st = 0
  · rw [if_pos c2, if_pos c2]
    refine .inr ⟨_, _, rfl, rfl, rfl, rfl, ?_⟩
    simp only
    split <;> intro h <;> omega
  rw [if_neg c2, if_neg c2]
  by_cases c3 : e = false ∧ c.toNat = 33 ∧ st = 1
  · rw [if_pos c3, if_pos c3]; exact .inr ⟨_, _, rfl, rfl, rfl, rfl, by intro h; simp only at h; omega⟩
  rw [if_neg c3, if_neg c3]
  by_cases c4 : e = false ∧ c.toNat = 93
  · rw [if_pos c4, if_pos c4]
    by_cases c5 : st = 3 ∨ st = 5
    · rw [if_pos c5, if_pos c5]; exact .inr ⟨_, _, rfl, rfl, rfl, rfl, by intro h; simp only at h; omega⟩
    · rw [if_neg c5, if_neg c5]; exact .inl ⟨rfl, rfl⟩
  rw [if_neg c4, if_neg c4]
  by_cases c6 : e = false ∧ c.toNat = 45
  · rw [if_pos c6, if_pos c6]
    by_cases c7 : st = 3
    · rw [if_pos c7, if_pos c7]; exact .inr ⟨_, _, rfl, rfl, rfl, rfl, fun _ => h3 (.inr c7)⟩
    · rw [if_neg c7, if_neg c7]; exact .inl ⟨rfl, rfl⟩
  rw [if_neg c6, if_neg c6]
  by_cases c8 : st = 4
  · rw [if_pos c8, if_pos c8]
    have := h3 (.inl c8)
    subst this
    by_cases c9 : c.toNat < lo.toNat
    · rw [if_pos c9]; exact .inl ⟨rfl, rfl⟩
    · rw [if_neg c9]; exact .inr ⟨_, _, rfl, rfl, rfl, rfl, fun _ => rfl⟩
  · rw [if_neg c8, if_neg c8]; exact .inr ⟨_, _, rfl, rfl, rfl, rfl, fun _ => rfl⟩

theorem vrun_VR (l : List UInt8) : ∀ {s t : Int × Bool × UInt8}, VR s t → vok (vrun s l) = vok (vrun t l) := by
  induction l with
  | nil =>
    rintro ⟨st, e, lo⟩ ⟨st', e', lo'⟩ ⟨h1, h2, _⟩
    simp only at h1 h2
    subst h1 h2
    rfl
  | cons c r ih =>
    intro s t h
    rw [vrun_cons, vrun_cons]
    rcases vstep_VR h c with ⟨a, b⟩ | ⟨s', t', a, b, h'⟩
    · rw [a, b]
    · rw [a, b]; exact ih h'

def escs (pre : List UInt8) : List UInt8 := pre.flatMap fun c => [92, c]
/-- An item of a class: low byte, high byte, is it a range? -/
def itemTxt (it : UInt8 × UInt8 × Bool) : List UInt8 := if it.2.2 then [92, it.1, 45, 92, it.2.1] else [92, it.1]
def itemOk (it : UInt8 × UInt8 × Bool) : Bool := !(it.2.2 && decide (it.2.1.toNat < it.1.toNat))
def itemsTxt (l : List (UInt8 × UInt8 × Bool)) : List UInt8 := l.flatMap itemTxt

theorem vrun_escs (pre : List UInt8) (lo : UInt8) : vrun (0, false, lo) (escs pre) = some (0, false, lo) := by
  induction pre with
  | nil => rfl
  | cons c t ih =>
    show vrun (0, false, lo) (92 :: c :: escs t) = _
    rw [vrun_cons, show vstep (0, false, lo) 92 = some (0, true, lo) from rfl]
    show vrun (0, true, lo) (c :: escs t) = _
    rw [vrun_cons, show vstep (0, true, lo) c = some (0, false, lo) from by simp [vstep]]
    exact ih

theorem vrun_item (st : Int) (lo : UInt8) (hst : st = 1 ∨ st = 2 ∨ st = 3 ∨ st = 5) (it : UInt8 × UInt8 × Bool) :
    (itemOk it = false ∧ vrun (st, false, lo) (itemTxt it) = none) ∨ (itemOk it = true ∧ ∃ st', (st' = 3 ∨ st' = 5) ∧ vrun (st, false, lo) (itemTxt it) = some (st', false, it.1)) := by
  obtain ⟨a, b, r⟩ := it
  have e1 : vstep (st, false, lo) 92 = some (st, true, lo) := by simp [vstep]
  have e2 : vstep (st, true, lo) a = some (3, false, a) := by
    simp only [vstep]
    rcases hst with rfl | rfl | rfl | rfl <;> simp
  cases r with
  | false =>
    right
    refine ⟨rfl, 3, .inl rfl, ?_⟩
    show vrun (st, false, lo) [92, a] = _
    rw [vrun_cons, e1]
    show vrun (st, true, lo) [a] = _
    rw [vrun_cons, e2]
    rfl
  | true =>
    have e3 : vrun (st, false, lo) (itemTxt (a, b, true)) = vstep (4, true, a) b := by
      show vrun (st, false, lo) [92, a, 45, 92, b] = _
      rw [vrun_cons, e1]
      show vrun (st, true, lo) [a, 45, 92, b] = _
      rw [vrun_cons, e2]
      show vrun (3, false, a) [45, 92, b] = _
      rw [vrun_cons, show vstep (3, false, a) 45 = some (4, false, a) from by simp [vstep]]
      show vrun (4, false, a) [92, b] = _
      rw [vrun_cons, show vstep (4, false, a) 92 = some (4, true, a) from by simp [vstep]]
      show vrun (4, true, a) [b] = _
      rw [vrun_cons]
      cases vstep (4, true, a) b <;> rfl
    rw [e3]
    by_cases h : b.toNat < a.toNat
    · left; simp [itemOk, h, vstep]
    · right; exact ⟨by simp [itemOk, h], 5, .inr rfl, by simp [vstep, h]⟩

theorem vrun_items (l : List (UInt8 × UInt8 × Bool)) : ∀ (st : Int) (lo : UInt8), (st = 1 ∨ st = 2 ∨ st = 3 ∨ st = 5) →
    (l.all itemOk = false ∧ vrun (st, false, lo) (itemsTxt l) = none) ∨
    (l.all itemOk = true ∧ ∃ st' lo', ((l = [] ∧ st' = st) ∨ (l ≠ [] ∧ (st' = 3 ∨ st' = 5))) ∧ vrun (st, false, lo) (itemsTxt l) = some (st', false, lo')) := by
  induction l with
  | nil => intro st lo _; exact .inr ⟨rfl, st, lo, .inl ⟨rfl, rfl⟩, rfl⟩
  | cons it t ih =>
    intro st lo hst
    have e : itemsTxt (it :: t) = itemTxt it ++ itemsTxt t := rfl
    rw [e, vrun_append]
    rcases vrun_item st lo hst it with ⟨h, hr⟩ | ⟨h, st', hst', hr⟩
    · left; rw [hr]; simp [h]
    · rw [hr]
      show (_ ∧ vrun (st', false, it.1) (itemsTxt t) = none) ∨ (_ ∧ ∃ x y, _ ∧ vrun (st', false, it.1) (itemsTxt t) = some (x, false, y))
      rcases ih st' it.1 (by omega) with ⟨g, gr⟩ | ⟨g, s2, l2, hs2, gr⟩
      · left; exact ⟨by simp [g], gr⟩
      · right
        refine ⟨by simp [h, g], s2, l2, .inr ⟨by simp, ?_⟩, gr⟩
        rcases hs2 with ⟨_, rfl⟩ | ⟨_, q⟩
        · exact hst'
        · exact q

/-- The text before the class is closed. -/
def openTxt (pre : List UInt8) (neg : Bool) (l : List (UInt8 × UInt8 × Bool)) : List UInt8 := escs pre ++ [91] ++ (if neg then [33] else []) ++ itemsTxt l
def goodC (l : List (UInt8 × UInt8 × Bool)) : Bool := decide (0 < l.length) && l.all itemOk

theorem vrun_open (pre : List UInt8) (neg : Bool) (l : List (UInt8 × UInt8 × Bool)) :
    (l.all itemOk = false ∧ vrun (0, false, 0) (openTxt pre neg l) = none) ∨
    (l.all itemOk = true ∧ ∃ st' lo', ((l = [] ∧ (st' = 1 ∨ st' = 2)) ∨ (l ≠ [] ∧ (st' = 3 ∨ st' = 5))) ∧ vrun (0, false, 0) (openTxt pre neg l) = some (st', false, lo')) := by
  unfold openTxt
  have e : vrun (0, false, 0) (escs pre ++ [91] ++ (if neg then [33] else [])) = some (if neg then 2 else 1, false, 0) := by
    rw [vrun_append, vrun_append, vrun_escs]
    show ((vrun (0, false, 0) [91]).bind fun t => vrun t (if neg then [33] else [])) = _
    rw [vrun_cons, show vstep (0, false, 0) 91 = some (1, false, 0) from rfl]
    show vrun (1, false, 0) (if neg then [33] else []) = _
    cases neg
    · rfl
    · show vrun (1, false, 0) [33] = some (2, false, 0)
      rfl
  rw [vrun_append, e]
  show (_ ∧ vrun (if neg then 2 else 1, false, 0) (itemsTxt l) = none) ∨ (_ ∧ ∃ x y, _ ∧ vrun (if neg then 2 else 1, false, 0) (itemsTxt l) = some (x, false, y))
  rcases vrun_items l (if neg then 2 else 1) 0 (by cases neg <;> simp) with h | ⟨h, s2, l2, hs2, gr⟩
  · exact .inl h
  · refine .inr ⟨h, s2, l2, ?_, gr⟩
    rcases hs2 with ⟨a, b⟩ | q
    · exact .inl ⟨a, by cases neg <;> simp_all⟩
    · exact .inr q

theorem valid_open (pre : List UInt8) (neg : Bool) (l : List (UInt8 × UInt8 × Bool)) : valid (openTxt pre neg l) = false := by
  unfold valid
  rcases vrun_open pre neg l with ⟨_, h⟩ | ⟨_, st, lo, hs, h⟩
  · rw [h]; rfl
  · rw [h]
    show (decide (st = 0) && true) = false
    have : ¬ st = 0 := by rcases hs with ⟨_, h | h⟩ | ⟨_, h | h⟩ <;> omega
    simp [this]

theorem vrun_closed (pre : List UInt8) (neg : Bool) (l : List (UInt8 × UInt8 × Bool)) :
    (goodC l = false ∧ vrun (0, false, 0) (openTxt pre neg l ++ [93]) = none) ∨ (goodC l = true ∧ ∃ lo, vrun (0, false, 0) (openTxt pre neg l ++ [93]) = some (0, false, lo)) := by
  rw [vrun_append]
  rcases vrun_open pre neg l with ⟨h, hr⟩ | ⟨h, st, lo, hs, hr⟩
  · left; rw [hr]; simp [goodC, h]
  · rw [hr]
    show (_ ∧ vrun (st, false, lo) [93] = none) ∨ (_ ∧ ∃ y, vrun (st, false, lo) [93] = some (0, false, y))
    rcases hs with ⟨rfl, hs⟩ | ⟨hne, hs⟩
    · left
      refine ⟨rfl, ?_⟩
      rcases hs with rfl | rfl <;> rfl
    · right
      have hpos : 0 < l.length := List.length_pos_iff.2 hne
      refine ⟨by simp [goodC, h, hpos], lo, ?_⟩
      rcases hs with rfl | rfl
      · rw [vrun_cons]; simp [vstep]; rfl
      · rw [vrun_cons]; simp [vstep]; rfl

theorem valid_closed (pre : List UInt8) (neg : Bool) (l : List (UInt8 × UInt8 × Bool)) : valid (openTxt pre neg l ++ [93]) = goodC l := by
  unfold valid
  rcases vrun_closed pre neg l with ⟨g, h⟩ | ⟨g, lo, h⟩
  · rw [h, g]; rfl
  · rw [h, g]; rfl

theorem valid_tail (pre : List UInt8) (neg : Bool) (l : List (UInt8 × UInt8 × Bool)) (tl : List UInt8) : valid (openTxt pre neg l ++ [93] ++ tl) = (goodC l && valid tl) := by
  unfold valid
  rw [vrun_append]
  rcases vrun_closed pre neg l with ⟨g, h⟩ | ⟨g, lo, h⟩
  · rw [h, g]; rfl
  · rw [h, g]
    show vok (vrun (0, false, lo) tl) = _
    rw [Bool.true_and]
    exact vrun_VR tl ⟨rfl, rfl, by intro h; simp only at h; omega⟩
end Go.Proofs.Ymbrbz

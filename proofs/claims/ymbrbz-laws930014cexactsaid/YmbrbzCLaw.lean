/-
  The machine behind Valid agrees with the grammar read by descent.
-/
import Derived.Test.YmbrbzVlaws
import Derived.Test.YmbrbzDescent
namespace Go.Proofs.Ymbrbz

def V (st : Int) (e : Bool) (lo : UInt8) (l : List UInt8) : Bool := vok (vrun (st, e, lo) l)

theorem V_cons (st : Int) (e : Bool) (lo c : UInt8) (t : List UInt8) : V st e lo (c :: t) = (match vstep (st, e, lo) c with | none => false | some s => V s.1 s.2.1 s.2.2 t) := by
  unfold V
  rw [vrun_cons]
  cases vstep (st, e, lo) c <;> rfl

theorem V_low (lo lo' : UInt8) (l : List UInt8) : V 0 false lo l = V 0 false lo' l :=
  vrun_VR l ⟨rfl, rfl, by intro h; simp only at h; omega⟩

theorem V_nil (st : Int) (e : Bool) (lo : UInt8) : V st e lo [] = (decide (st = 0) && !e) := rfl

/-- Outside a class. -/
theorem V_out (lo c : UInt8) (t : List UInt8) (h : c.toNat ≠ 91) : V 0 false lo (c :: t) = (match mchar (c :: t) with | none => false | some p => V 0 false lo p.2) := by
  rw [V_cons]
  by_cases h92 : c.toNat = 92
  · simp only [vstep, h92, mchar]
    cases t with
    | nil => simp [V_nil]
    | cons d t' =>
      simp
      rw [V_cons]
      simp [vstep]
  · simp [vstep, h92, h, mchar]

/-- Within a class, where an item begins. -/
theorem V_in (st : Int) (lo c : UInt8) (t : List UInt8) (hst : st = 1 ∨ st = 2 ∨ st = 3 ∨ st = 5) (h93 : c.toNat ≠ 93) (h45 : c.toNat ≠ 45) (h33 : ¬ (c.toNat = 33 ∧ st = 1)) :
    V st false lo (c :: t) = (match mchar (c :: t) with | none => false | some p => V 3 false p.1 p.2) := by
  rw [V_cons]
  have h0 : ¬ st = 0 := by omega
  have h4 : ¬ st = 4 := by omega
  by_cases h92 : c.toNat = 92
  · simp only [vstep, h92, mchar]
    cases t with
    | nil => simp [V_nil]
    | cons d t' =>
      simp
      rw [V_cons]
      simp [vstep, h0, h4]
  · simp [vstep, h92, h0, h93, h45, h4, mchar]
    simp [h33]

theorem V_hi (lo : UInt8) (l : List UInt8) : V 4 false lo l = (match mhi lo l with | none => false | some r => V 5 false lo r) := by
  cases l with
  | nil => simp [V_nil, mhi]
  | cons d t =>
    rw [V_cons]
    by_cases h93 : d.toNat = 93
    · simp [vstep, h93, mhi]
    · by_cases h45 : d.toNat = 45
      · simp [vstep, h45, mhi]
      · by_cases h92 : d.toNat = 92
        · simp only [vstep, h92, mhi, mchar]
          cases t with
          | nil => simp [V_nil]
          | cons x t' =>
            simp
            rw [V_cons]
            by_cases hx : x.toNat < lo.toNat
            · simp [vstep, hx]
            · simp [vstep, hx]
        · by_cases hx : d.toNat < lo.toNat
          · simp [vstep, h92, h93, h45, hx, mhi, mchar]
          · simp [vstep, h92, h93, h45, hx, mhi, mchar]

theorem V_dash (lo d : UInt8) (t : List UInt8) (h : d.toNat = 45) : V 3 false lo (d :: t) = V 4 false lo t := by
  rw [V_cons]
  simp [vstep, h]

/-- May the class's loop stand at this state before this text? -/
def HeadOk (st : Int) (l : List UInt8) : Prop := st = 2 ∨ st = 5 ∨ (st = 1 ∧ ∀ c t, l = c :: t → c.toNat ≠ 33) ∨ (st = 3 ∧ ∀ c t, l = c :: t → c.toNat ≠ 45)

theorem V_class : ∀ (f : Nat) (st : Int) (lo : UInt8) (l : List UInt8), l.length < f → HeadOk st l →
    V st false lo l = (match mcl f (decide (st = 3 ∨ st = 5)) l with | none => false | some r => V 0 false 0 r) := by
  intro f
  induction f with
  | zero => intro st lo l h; omega
  | succ f ih =>
    intro st lo l hf hh
    have hst : st = 1 ∨ st = 2 ∨ st = 3 ∨ st = 5 := by
      rcases hh with h | h | ⟨h, _⟩ | ⟨h, _⟩ <;> omega
    cases l with
    | nil =>
      have : ¬ st = 0 := by omega
      simp [V_nil, mcl, this]
    | cons c t =>
      unfold mcl
      by_cases h93 : c.toNat = 93
      · rw [if_pos h93, V_cons]
        have h0 : ¬ st = 0 := by omega
        by_cases h35 : st = 3 ∨ st = 5
        · simp [vstep, h93, h0, h35]
          exact V_low _ _ _
        · simp [vstep, h93, h0, h35]
      · rw [if_neg h93]
        by_cases h45 : c.toNat = 45
        · rw [if_pos h45, V_cons]
          have h0 : ¬ st = 0 := by omega
          have h3 : ¬ st = 3 := by
            rcases hh with h | h | ⟨h, _⟩ | ⟨_, h⟩
            · omega
            · omega
            · omega
            · exact absurd h45 (h c t rfl)
          simp [vstep, h45, h0, h3]
        · rw [if_neg h45]
          have h33 : ¬ (c.toNat = 33 ∧ st = 1) := by
            rintro ⟨a, b⟩
            rcases hh with h | h | ⟨_, h⟩ | ⟨h, _⟩
            · omega
            · omega
            · exact absurd a (h c t rfl)
            · omega
          rw [V_in st lo c t hst h93 h45 h33]
          cases hm : mchar (c :: t) with
          | none => rfl
          | some p =>
            obtain ⟨d, r⟩ := p
            have hlen := (mchar_drop hm).1
            simp only [List.length_cons] at hlen hf
            simp only [Option.bind_some]
            cases r with
            | nil =>
              simp only [mrng, Option.bind_some]
              have := ih 3 d [] (by simp at hlen ⊢; omega) (.inr (.inr (.inr ⟨rfl, fun c t h => by cases h⟩)))
              simpa using this
            | cons x u =>
              simp only [mrng]
              by_cases hx : x.toNat = 45
              · rw [if_pos hx, V_dash d x u hx, V_hi]
                cases hh2 : mhi d u with
                | none => rfl
                | some q =>
                  simp only [Option.bind_some]
                  have hq := (mrng_drop (lo := d) (l := x :: u) (r := q) (by simp only [mrng]; rw [if_pos hx]; exact hh2)).1
                  have := ih 5 d q (by simp only [List.length_cons] at hq hlen; omega) (.inr (.inl rfl))
                  simpa using this
              · rw [if_neg hx]
                simp only [Option.bind_some]
                have := ih 3 d (x :: u) (by simp only [List.length_cons] at hlen ⊢; omega) (.inr (.inr (.inr ⟨rfl, fun c t h => by cases h; exact hx⟩)))
                simpa using this

theorem V_bang (lo : UInt8) (l : List UInt8) : V 1 false lo l = (match mclass l with | none => false | some r => V 0 false 0 r) := by
  unfold mclass
  cases l with
  | nil =>
    have := V_class 1 1 lo [] (by simp) (.inr (.inr (.inl ⟨rfl, fun c t h => by cases h⟩)))
    simpa [mbang] using this
  | cons c t =>
    by_cases h33 : c.toNat = 33
    · rw [V_cons]
      simp only [mbang]
      rw [if_pos h33]
      have := V_class ((c :: t).length + 1) 2 lo t (by simp; omega) (.inl rfl)
      simp [vstep, h33]
      simpa using this
    · simp only [mbang]
      rw [if_neg h33]
      have := V_class ((c :: t).length + 1) 1 lo (c :: t) (by omega) (.inr (.inr (.inl ⟨rfl, fun a b h => by cases h; exact h33⟩)))
      simpa using this

theorem V_model : ∀ (f : Nat) (l : List UInt8) (lo : UInt8), l.length < f → V 0 false lo l = mmodel f l := by
  intro f
  induction f with
  | zero => intro l lo h; omega
  | succ f ih =>
    intro l lo hf
    cases l with
    | nil => rfl
    | cons c t =>
      unfold mmodel
      by_cases h91 : c.toNat = 91
      · rw [if_pos h91, V_cons]
        simp only [vstep, h91]
        simp
        rw [V_bang]
        cases hm : mclass t with
        | none => rfl
        | some r =>
          have := (mclass_drop hm).1
          simp only [List.length_cons] at hf
          exact ih r 0 (by omega)
      · rw [if_neg h91, V_out lo c t h91]
        cases hm : mchar (c :: t) with
        | none => rfl
        | some p =>
          have := (mchar_drop hm).1
          simp only [List.length_cons] at hf this
          exact ih p.2 lo (by omega)

theorem valid_model (l : List UInt8) : valid l = mmodel (l.length + 1) l := V_model (l.length + 1) l 0 (by omega)
end Go.Proofs.Ymbrbz

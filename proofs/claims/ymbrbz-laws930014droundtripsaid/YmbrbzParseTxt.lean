import Derived.Test.YmbrbzParse
import Derived.Test.YmbrbzClassTxt
import Derived.Test.YmbrbzPrint
import Derived.Test.YmbrbzEspecial
namespace Go.Proofs.Ymbrbz

theorem parse_flat {α : Type} (f : α → List UInt8) (g : α → Pk) (xs : List α) (h : ∀ x ∈ xs, ∀ Z, parse1 (f x ++ Z) = some (g x, Z)) : parse (xs.flatMap f) = some (xs.map g) := by
  induction xs with
  | nil => rfl
  | cons x t ih =>
    rw [List.flatMap_cons, parse_step (h x (by simp) _), ih (fun y hy => h y (by simp [hy]))]
    rfl

theorem esc_spelt (c : UInt8) : Spelt c (esc c) := by
  rcases isSp_cases c with ⟨_, he⟩ | ⟨_, he⟩ | ⟨_, he⟩ | ⟨_, he⟩ | ⟨_, he⟩ | ⟨_, he⟩ | ⟨_, he⟩ | ⟨h1, h2, h3, h4, h5, h6, h7, he⟩
  case inr.inr.inr.inr.inr.inr.inr => exact .inr ⟨by simp [esc, he], h5, h4, h6, h7⟩
  all_goals exact .inl (by simp [esc, he])

theorem prR_item (r : UInt8 × UInt8) (h : okR r = true) : ItemTxt r.1 r.2 (prR r) := by
  have h' : r.1.toNat ≤ r.2.toNat := by simpa [okR] using h
  by_cases hlt : r.1.toNat < r.2.toNat
  · exact .inr ⟨esc r.1, esc r.2, esc_spelt _, esc_spelt _, by simp [prR, hlt], h'⟩
  · refine .inl ⟨?_, (UInt8.toNat_inj.1 (by omega))⟩
    have : prR r = esc r.1 := by simp [prR, hlt]
    rw [this]; exact esc_spelt _

/-- The token with its unused fields zero. -/
def norm (t : Tk) : Pk := if t.kind = 0 then ⟨0, t.char, false, []⟩ else if t.kind = 1 then ⟨1, 0, false, []⟩ else if t.kind = 2 then ⟨2, 0, false, []⟩ else ⟨3, 0, t.neg, t.rs⟩

theorem parse1_lit {c : UInt8} {l : List UInt8} (h : l = [92, c] ∨ (l = [c] ∧ c.toNat ≠ 42 ∧ c.toNat ≠ 63 ∧ c.toNat ≠ 91 ∧ c.toNat ≠ 92)) (Z : List UInt8) : parse1 (l ++ Z) = some (⟨0, c, false, []⟩, Z) := by
  rcases h with rfl | ⟨rfl, h1, h2, h3, h4⟩
  · simp [parse1]
  · simp [parse1, h1, h2, h3, h4]

theorem parse1_class (neg : Bool) (its : List (UInt8 × UInt8 × List UInt8)) (h : ∀ it ∈ its, ItemTxt it.1 it.2.1 it.2.2) (h0 : its ≠ []) (Z : List UInt8) :
    parse1 (91 :: ((if neg then [33] else []) ++ (txts its ++ 93 :: Z))) = some (⟨3, 0, neg, bnds its⟩, Z) := by
  have h1 := rdClass_items neg its h Z
  rw [if_neg h0] at h1
  simp only [parse1]
  rw [if_neg (by decide), if_neg (by decide), if_pos (by decide), h1]
  rfl

theorem prRs_txts (rs : List (UInt8 × UInt8)) : txts (rs.map fun r => (r.1, r.2, prR r)) = prRs rs := by
  simp [txts, prRs, List.flatMap_map]

theorem prRs_bnds (rs : List (UInt8 × UInt8)) : bnds (rs.map fun r => (r.1, r.2, prR r)) = rs := by
  have e : ((fun it : UInt8 × UInt8 × List UInt8 => (it.1, it.2.1)) ∘ fun r : UInt8 × UInt8 => (r.1, r.2, prR r)) = id := rfl
  unfold bnds
  rw [List.map_map, e, List.map_id]

theorem parse1_prT (t : Tk) (hok : okT t = true) (Z : List UInt8) : parse1 (prT t ++ Z) = some (norm t, Z) := by
  by_cases h0 : t.kind = 0
  · simp only [prT, norm, if_pos h0]
    refine parse1_lit ?_ Z
    rcases isSp_cases t.char with ⟨_, he⟩ | ⟨_, he⟩ | ⟨_, he⟩ | ⟨_, he⟩ | ⟨_, he⟩ | ⟨_, he⟩ | ⟨_, he⟩ | ⟨h1, h2, h3, h4, h5, h6, h7, he⟩
    case inr.inr.inr.inr.inr.inr.inr => exact .inr ⟨by simp [esc, he], h1, h2, h3, h5⟩
    all_goals exact .inl (by simp [esc, he])
  · by_cases h1 : t.kind = 1
    · simp only [prT, norm, if_neg h0, if_pos h1]; simp [parse1]
    · by_cases h2 : t.kind = 2
      · simp only [prT, norm, if_neg h0, if_neg h1, if_pos h2]; simp [parse1]
      · simp only [prT, norm, if_neg h0, if_neg h1, if_neg h2]
        have h3 : t.kind = 3 := by
          simp only [okT] at hok
          split at hok
          · assumption
          · simp at hok; omega
        simp only [okT, if_pos h3, Bool.and_eq_true, Bool.not_eq_true'] at hok
        have hne : t.rs ≠ [] := by intro h; rw [h] at hok; simp at hok
        have hc := parse1_class t.neg (t.rs.map fun r => (r.1, r.2, prR r)) (by
          intro it hit
          obtain ⟨r, hr, rfl⟩ := List.mem_map.1 hit
          exact prR_item r (List.all_eq_true.1 hok.2 r hr)) (by simpa using hne) Z
        rw [prRs_txts, prRs_bnds] at hc
        rw [← hc]
        simp [bangs]

theorem parse_prA (ts : List Tk) (h : ts.all okT = true) : parse (prA ts) = some (ts.map norm) :=
  parse_flat prT norm ts fun t ht Z => parse1_prT t (List.all_eq_true.1 h t ht) Z
end Go.Proofs.Ymbrbz

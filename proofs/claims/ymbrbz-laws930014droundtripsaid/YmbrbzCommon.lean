/-
  Plain notions shared by this seat's proofs: a slice of glob.Range in memory, what it means that a byte lies in it.
-/
import Derived.WalkKit
namespace Go.Proofs.Ymbrbz
open Go.RowKit

/-- From address a on lie the ranges rs, two cells each. -/
def RangesAt (w : World) (a : Option Addr) (rs : List (UInt8 × UInt8)) : Prop :=
  ∀ k, k < rs.length → ∃ b off, a = some ⟨b, off, none⟩ ∧ w.cell? ⟨b, off + k * 2, none⟩ = some (.int .u8 (rs.getD k (0, 0)).1.toNat) ∧
    w.cell? ⟨b, off + k * 2 + 1, none⟩ = some (.int .u8 (rs.getD k (0, 0)).2.toNat)

theorem block_lt {w : World} {p : Addr} {v : Value} (h : w.cell? p = some v) : p.block < w.heap.size := World.block_lt_of_cell? w p h

theorem RangesAt.below {w w' : World} {a : Option Addr} {rs : List (UInt8 × UInt8)} (h : RangesAt w a rs) (hb : Below w.heap.size w w') : RangesAt w' a rs := by
  intro k hk
  obtain ⟨b, off, e, h0, h1⟩ := h k hk
  exact ⟨b, off, e, (hb.cell (block_lt h0)).trans h0, (hb.cell (block_lt h1)).trans h1⟩

/-- From address a on lie the bytes bs. -/
def BytesAt (w : World) (a : Option Addr) (bs : List UInt8) : Prop :=
  ∀ k, k < bs.length → ∃ b off, a = some ⟨b, off, none⟩ ∧ w.cell? ⟨b, off + k, none⟩ = some (.int .u8 (bs.getD k 0).toNat)

theorem BytesAt.below {w w' : World} {a : Option Addr} {bs : List UInt8} (h : BytesAt w a bs) (hb : Below w.heap.size w w') : BytesAt w' a bs := by
  intro k hk
  obtain ⟨b, off, e, h0⟩ := h k hk
  exact ⟨b, off, e, (hb.cell (block_lt h0)).trans h0⟩

/-- Is c in one of the ranges? -/
def inR (rs : List (UInt8 × UInt8)) (c : UInt8) : Bool := rs.any fun r => decide (r.1.toNat ≤ c.toNat) && decide (c.toNat ≤ r.2.toNat)

theorem inR_take_succ (rs : List (UInt8 × UInt8)) (c : UInt8) (k : Nat) (hk : k < rs.length) :
    inR (rs.take (k + 1)) c = (inR (rs.take k) c || (decide ((rs.getD k (0, 0)).1.toNat ≤ c.toNat) && decide (c.toNat ≤ (rs.getD k (0, 0)).2.toNat))) := by
  unfold inR
  rw [List.take_succ_eq_append_getElem hk, List.any_append]
  simp [List.getD_eq_getElem?_getD, hk]

theorem inR_of_hit (rs : List (UInt8 × UInt8)) (c : UInt8) (k : Nat) (hk : k < rs.length) (h0 : (rs.getD k (0, 0)).1.toNat ≤ c.toNat) (h1 : c.toNat ≤ (rs.getD k (0, 0)).2.toNat) : inR rs c = true := by
  unfold inR
  rw [List.any_eq_true]
  refine ⟨rs[k], List.getElem_mem hk, ?_⟩
  simp [List.getD_eq_getElem?_getD, hk] at h0 h1
  simp [h0, h1]

theorem ret_bool {a b : Bool} (h : a = b) : Ending.returned (.bool a) = .returned (.bool b) := by rw [h]

theorem nat_of_u8 {z : Int} (h : 0 ≤ z ∧ z ≤ 255) : ∃ c : UInt8, z = c.toNat :=
  ⟨UInt8.ofNat z.toNat, by simp; omega⟩

end Go.Proofs.Ymbrbz

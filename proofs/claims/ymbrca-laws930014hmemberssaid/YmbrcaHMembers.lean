import Derived.Test.YmbrcaInRanges
namespace Go.Proofs.Ymbrca
open Go.RowKit

theorem RangesAt.open {w : World} {a : Option Addr} {rs : List (UInt8 × UInt8)} (hr : RangesAt w a rs) (h0 : rs ≠ []) :
    ∃ b off, a = some ⟨b, off, none⟩ ∧ ∀ k, k < rs.length → w.cell? ⟨b, off + k * 2, none⟩ = some (.int .u8 (rs.getD k (0, 0)).1.toNat) ∧ w.cell? ⟨b, off + k * 2 + 1, none⟩ = some (.int .u8 (rs.getD k (0, 0)).2.toNat) := by
  have hpos : 0 < rs.length := List.length_pos_iff.2 h0
  obtain ⟨b, off, ea, _, _⟩ := hr 0 hpos
  refine ⟨b, off, ea, fun k hk => ?_⟩
  obtain ⟨b', off', ea', g0, g1⟩ := hr k hk
  rw [ea] at ea'
  simp at ea'
  obtain ⟨rfl, rfl⟩ := ea'
  exact ⟨g0, g1⟩

/-- What the inner loop has met when it stands at x. -/
def metTo (old : Bool) (lo x c : Nat) : Bool := old || (decide (lo ≤ c) && decide (c < x))

theorem metTo_start (old : Bool) (lo c : Nat) : metTo old lo lo c = old := by
  unfold metTo
  by_cases h : lo ≤ c
  · simp [h, Nat.not_lt.2 h]
  · simp [h]
theorem metTo_hit (old : Bool) (lo x c : Nat) (h : x = c) (hl : lo ≤ x) : metTo old lo (x + 1) c = true := by
  subst h; simp [metTo, hl]
theorem metTo_miss (old : Bool) (lo x c : Nat) (h : ¬ x = c) : metTo old lo (x + 1) c = metTo old lo x c := by
  unfold metTo
  have : decide (c < x + 1) = decide (c < x) := by simp; omega
  rw [this]
theorem metTo_end (old : Bool) (lo hi x c : Nat) (hx : (x = lo ∧ hi < lo) ∨ x = hi + 1) : metTo old lo x c = (old || (decide (lo ≤ c) && decide (c ≤ hi))) := by
  unfold metTo
  rcases hx with ⟨rfl, h⟩ | rfl
  · have : ¬ (x ≤ c ∧ c < x) := by omega
    have h2 : ¬ (x ≤ c ∧ c ≤ hi) := by omega
    rw [← Bool.decide_and, ← Bool.decide_and, decide_eq_false this, decide_eq_false h2]
  · have : decide (c < hi + 1) = decide (c ≤ hi) := by simp; omega
    rw [this]

theorem val_bool {a b : Bool} (h : a = b) : Value.bool a = .bool b := by rw [h]

set_option maxHeartbeats 400000 in
theorem hmembers (w : World) (a : Option Addr) (n cap : Nat) (rs : List (UInt8 × UInt8)) (hl : rs.length = n) (hn : n ≤ 9223372036854775807) (hr : RangesAt w a rs) (c : UInt8) :
    Calls Ycam.prog 11 #[.slice a n cap, .int .u8 c.toNat] w fun e w' => e = .returned (.bool true) ∧ Below w.heap.size w w' := by
  by_cases h0 : rs = []
  · subst h0
    simp at hl
    subst hl
    go_enter Ycam.func11, Ycam.ntmps11
    go_wp2_with fail
    refine wp_loop_rounds 1 ?_
    rw [rounds_succ]
    go_wp2_with fail
    refine (inRanges_any _ _ _ [] (by omega) rfl c _ hr).mono ?_
    rintro e w1 ⟨rfl, hb1⟩
    rw [show inR [] c = false from rfl]
    go_wp2_with fail
    go_ret
    exact ⟨rfl, hb1⟩
  · obtain ⟨b, off, rfl, hb⟩ := hr.open h0
    have HB : Hid (∀ k, k < rs.length → w.cell? ⟨b, off + k * 2, none⟩ = some (.int .u8 (rs.getD k (0, 0)).1.toNat) ∧ w.cell? ⟨b, off + k * 2 + 1, none⟩ = some (.int .u8 (rs.getD k (0, 0)).2.toNat)) := hb
    have HL : Hid (rs.length = n) := hl
    clear hb hl
    go_enter Ycam.func11, Ycam.ntmps11
    go_wp2_with fail
    go_loop [5, 6] (fun m i => ∃ k : Nat, k ≤ n ∧ i = .int .i64 k ∧ m = .bool (inR (rs.take k) c)) (fun _ i => n - (intOf i).toNat)
    case atStart => exact ⟨0, Nat.zero_le _, rfl, rfl⟩
    case round =>
      obtain ⟨k, hk, rfl, rfl⟩ := hrel
      by_cases hkn : k < n
      · obtain ⟨g0, g1⟩ := HB.out k (by rw [HL.out]; exact hkn)
        have hkl : k < rs.length := by rw [HL.out]; exact hkn
        have HS := inR_take_succ rs c k hkl
        obtain ⟨lo, hlo⟩ : ∃ lo, lo = (rs.getD k (0, 0)).1 := ⟨_, rfl⟩
        obtain ⟨hi, hhi⟩ : ∃ hi, hi = (rs.getD k (0, 0)).2 := ⟨_, rfl⟩
        rw [← hlo] at g0 HS
        rw [← hhi] at g1 HS
        obtain ⟨old, hold⟩ : ∃ old, old = inR (rs.take k) c := ⟨_, rfl⟩
        rw [← hold] at HS ⊢
        have HT : Hid (inR (rs.take (k + 1)) c = (old || (decide (lo.toNat ≤ c.toNat) && decide (c.toNat ≤ hi.toNat)))) := HS
        clear HS hkl hlo hhi hold
        have bl := lo.toNat_lt
        have bc := c.toNat_lt
        have bh := hi.toNat_lt
        go_wp2_with fail
        go_loop [5, 8] (fun m i => ∃ x : Nat, lo.toNat ≤ x ∧ (x = lo.toNat ∨ x ≤ hi.toNat + 1) ∧ i = .int .i64 x ∧ m = .bool (metTo old lo.toNat x c.toNat)) (fun _ i => hi.toNat + 1 - (intOf i).toNat)
        case atStart => exact ⟨lo.toNat, Nat.le_refl _, .inl rfl, by simp, val_bool (metTo_start _ _ _).symm⟩
        case round =>
          obtain ⟨x, hx1, hx2, rfl, rfl⟩ := hrel
          by_cases hxh : x ≤ hi.toNat
          · by_cases hxc : x = c.toNat
            · have g : ((x : Int) == (c.toNat : Int)) = true := beq_iff_eq.2 (by omega)
              have HX : Hid (x = c.toNat) := hxc
              clear hxc
              go_wp2_with fail
              go_round
              case rel => exact ⟨x + 1, by omega, by omega, by go_num, val_bool (metTo_hit _ _ _ _ HX.out hx1).symm⟩
              case measure => simp [intOf]; omega
            · have g : ((x : Int) == (c.toNat : Int)) = false := beq_eq_false_iff_ne.2 (by omega)
              go_wp2_with fail
              go_round
              case rel => exact ⟨x + 1, by omega, by omega, by go_num, val_bool (metTo_miss _ _ _ _ hxc).symm⟩
              case measure => simp [intOf]; omega
          · go_wp2_with fail
            go_round
            case rel => exact ⟨k + 1, by omega, by go_num, val_bool (by rw [HT.out]; exact metTo_end _ _ _ _ _ (by omega))⟩
            case measure => simp [intOf]; omega
      · have hkk : rs.take k = rs := List.take_of_length_le (by rw [HL.out]; omega)
        rw [hkk]
        clear hkk
        obtain ⟨r, hr'⟩ : ∃ r, r = inR rs c := ⟨_, rfl⟩
        rw [← hr']
        have HR : Hid (r = inR rs c) := hr'
        clear hr'
        go_wp2_with fail
        refine (inRanges_any _ _ _ rs hn HL.out c _ hr).mono ?_
        rintro e w1 ⟨rfl, hb1⟩
        rw [← HR.out]
        go_wp2_with fail
        go_ret
        exact ⟨ret_bool (by simp), hb1⟩
end Go.Proofs.Ymbrca

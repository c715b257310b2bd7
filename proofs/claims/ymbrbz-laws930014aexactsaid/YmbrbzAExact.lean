import Derived.Test.YmbrbzMatchOne
namespace Go.Proofs.Ymbrbz
open Go.RowKit

theorem RangesAt.open {w : World} {a : Option Addr} {rs : List (UInt8 × UInt8)} (hr : RangesAt w a rs) (h0 : rs ≠ []) :
    ∃ b off, a = some ⟨b, off, none⟩ ∧ ∀ k, k < rs.length → w.cell? ⟨b, off + k * 2, none⟩ = some (.int .u8 (rs.getD k (0, 0)).1.toNat) ∧ w.cell? ⟨b, off + k * 2 + 1, none⟩ = some (.int .u8 (rs.getD k (0, 0)).2.toNat) := by
  have hpos : 0 < rs.length := List.length_pos_iff.2 h0
  obtain ⟨b, off, ea, _, _⟩ := hr 0 hpos
  refine ⟨b, off, ea, fun k hk => ?_⟩
  obtain ⟨b', off', ea', g0, g1⟩ := hr k hk
  rw [ea] at ea'
  simp at ea'
  obtain ⟨rfl, rfl⟩ := ea'
  exact ⟨g0, g1⟩

theorem val_bool {a b : Bool} (h : a = b) : Value.bool a = .bool b := by rw [h]

set_option maxHeartbeats 400000 in
theorem ahit_any (a : Option Addr) (n cap : Nat) (rs : List (UInt8 × UInt8)) (hn : n ≤ 9223372036854775807) (hl : rs.length = n) (c : UInt8) (w : World) (hr : RangesAt w a rs) :
    Calls Ybzm.prog 15 #[.slice a n cap, .int .u8 c.toNat] w fun e w' => e = .returned (.bool (inR rs c)) ∧ w' = w := by
  by_cases h0 : rs = []
  · subst h0
    simp at hl
    subst hl
    go_enter Ybzm.func15, Ybzm.ntmps15
    go_wp2
    refine wp_loop_rounds 1 ?_
    rw [rounds_succ]
    go_wp2
    go_ret
    exact ⟨rfl, rfl⟩
  · obtain ⟨b, off, rfl, hb⟩ := hr.open h0
    have HB : Hid (_) := hb
    have HL : Hid (rs.length = n) := hl
    clear hb hl hr h0
    go_enter Ybzm.func15, Ybzm.ntmps15
    go_wp2
    go_loop [5, 6] (fun m i => ∃ k : Nat, k ≤ n ∧ i = .int .i64 k ∧ m = .bool (inR (rs.take k) c)) (fun _ i => n - (intOf i).toNat)
    case atStart => exact ⟨0, Nat.zero_le _, rfl, rfl⟩
    case round =>
      obtain ⟨k, hk, rfl, rfl⟩ := hrel
      by_cases hkn : k < n
      · obtain ⟨g0, g1⟩ := HB.out k (by rw [HL.out]; exact hkn)
        have hkl : k < rs.length := by rw [HL.out]; exact hkn
        have HS := inR_take_succ rs c k hkl
        obtain ⟨lo, hlo⟩ : ∃ lo, lo = (rs.getD k (0, 0)).1 := ⟨_, rfl⟩
        obtain ⟨hi, hhi⟩ : ∃ hi, hi = (rs.getD k (0, 0)).2 := ⟨_, rfl⟩
        rw [← hlo] at g0 HS
        rw [← hhi] at g1 HS
        have HT : Hid (_) := HS
        clear HS hkl hlo hhi
        by_cases h1 : lo.toNat ≤ c.toNat
        · by_cases h2 : c.toNat ≤ hi.toNat
          · have d1 : decide (c.toNat < lo.toNat) = false := decide_eq_false (by omega)
            have d2 : decide (hi.toNat < c.toNat) = false := decide_eq_false (by omega)
            go_wp2
            go_round
            case rel => exact ⟨k + 1, by omega, by go_num, val_bool (by rw [HT.out]; simp [h1, h2])⟩
            case measure => simp [intOf]; omega
          · have d1 : decide (c.toNat < lo.toNat) = false := decide_eq_false (by omega)
            have d2 : decide (hi.toNat < c.toNat) = true := decide_eq_true (by omega)
            go_wp2
            go_round
            case rel => exact ⟨k + 1, by omega, by go_num, val_bool (by rw [HT.out]; simp [h2])⟩
            case measure => simp [intOf]; omega
        · have d1 : decide (c.toNat < lo.toNat) = true := decide_eq_true (by omega)
          go_wp2
          go_round
          case rel => exact ⟨k + 1, by omega, by go_num, val_bool (by rw [HT.out]; simp [h1])⟩
          case measure => simp [intOf]; omega
      · have hkk : rs.take k = rs := List.take_of_length_le (by rw [HL.out]; omega)
        rw [hkk]
        clear hkk
        go_wp2
        go_ret
        exact ⟨rfl, rfl⟩


/-- What the law reckons by itself is what MatchOne answers. -/
def aWant (kind : Int) (ch : UInt8) (neg hit : Bool) (c : UInt8) : Bool :=
  kind == 1 || (kind == 0 && decide (c = ch)) || (kind == 3 && ((hit && !neg) || (!hit && neg)))

theorem aWant_eq (kind : Int) (ch : UInt8) (neg : Bool) (rs : List (UInt8 × UInt8)) (c : UInt8) : mOne kind ch neg rs c = aWant kind ch neg (inR rs c) c := by
  unfold mOne aWant
  by_cases h0 : kind = 0
  · subst h0; simp [eq_comm]
  · by_cases h1 : kind = 1
    · subst h1; simp
    · by_cases h3 : kind = 3
      · subst h3; cases inR rs c <;> cases neg <;> simp
      · simp [h0, h1, h3]


theorem u8_beq_false {x y : UInt8} (h : ¬ x = y) : ((x.toNat : Int) == (y.toNat : Int)) = false :=
  beq_eq_false_iff_ne.2 (fun e => h (UInt8.toNat_inj.1 (by omega)))
theorem u8_beq_true {x y : UInt8} (h : x = y) : ((x.toNat : Int) == (y.toNat : Int)) = true := by subst h; simp

/-- All ways through the law: the kind is 1; 0 and the byte hits or not; 3 with the range's hit and the sign; any other. -/
theorem aways (kind : Int) (ch : UInt8) (neg : Bool) (hit : Bool) (c : UInt8) (p : Prop)
    (k1 : kind = 1 → p) (k0 : kind = 0 → ((c.toNat : Int) == (ch.toNat : Int)) = true → aWant 0 ch neg hit c = true → p) (k0' : kind = 0 → ((c.toNat : Int) == (ch.toNat : Int)) = false → aWant 0 ch neg hit c = false → p)
    (k3 : kind = 3 → p) (ko : (kind == 1) = false → (kind == 0) = false → (kind == 3) = false → aWant kind ch neg hit c = false → p) : p := by
  by_cases h1 : kind = 1
  · exact k1 h1
  · by_cases h0 : kind = 0
    · by_cases hc : c = ch
      · exact k0 h0 (u8_beq_true hc) (by simp [aWant, hc])
      · exact k0' h0 (u8_beq_false hc) (by simp [aWant, hc])
    · by_cases h3 : kind = 3
      · exact k3 h3
      · exact ko (beq_eq_false_iff_ne.2 h1) (beq_eq_false_iff_ne.2 h0) (beq_eq_false_iff_ne.2 h3) (by simp [aWant, h1, h0, h3])

set_option maxHeartbeats 4000000 in
theorem aexact_lo_other (w : World) (sel : UInt8) (raw : Int) (kind : Int) (ch : UInt8) (neg : Bool) (a : Option Addr) (n cap : Nat) (rs : List (UInt8 × UInt8)) (hl : rs.length = n) (hn : n ≤ 9223372036854775807) (hr : RangesAt w a rs) (c : UInt8) (h4 : (sel.toNat : Int) % 5 < 4) (hE : (sel.toNat : Int) % 5 = kind) :
    Calls Ybzm.prog 3 #[.int .u8 sel.toNat, .int .i64 raw, .int .u8 ch.toNat, .bool neg, .slice a n cap, .bool false, .int .u8 c.toNat] w fun e w' => e = .returned (.bool true) ∧ Below w.heap.size w w' := by
  have bs := sel.toNat_lt
  have HL : Hid (rs.length = n) := hl
  clear hl
  obtain ⟨hit, hh⟩ : ∃ hit, inR rs c = hit := ⟨_, rfl⟩
  have HH : Hid (inR rs c = hit) := hh
  have hm := aWant_eq kind ch neg rs c
  rw [hh] at hm
  clear hh
  refine aways kind ch neg hit c _ ?_ ?_ ?_ ?_ ?_
  · intro hk
    subst hk
    have HM : Hid (mOne 1 ch neg rs c = true) := by unfold Hid; rw [hm]; simp [aWant]
    clear hm
    go_enter Ybzm.func3, Ybzm.ntmps3
    go_wp2_with fail
    refine (ahit_any _ _ _ rs hn HL.out _ _ hr).mono ?_
    rintro e w1 ⟨rfl, rfl⟩
    rw [HH.out]
    go_wp2_with fail
    refine (matchOne_any _ ch neg _ _ _ rs hn HL.out _ _ hr).mono ?_
    rintro e w2 ⟨rfl, hb⟩
    rw [HM.out]
    go_wp2_with fail
    go_ret
    exact ⟨rfl, hb⟩
  · intro hk g hv
    subst hk
    have HM : Hid (mOne 0 ch neg rs c = true) := by rw [hm]; exact hv
    clear hm hv
    go_enter Ybzm.func3, Ybzm.ntmps3
    go_wp2_with fail
    refine (ahit_any _ _ _ rs hn HL.out _ _ hr).mono ?_
    rintro e w1 ⟨rfl, rfl⟩
    rw [HH.out]
    go_wp2_with fail
    refine (matchOne_any _ ch neg _ _ _ rs hn HL.out _ _ hr).mono ?_
    rintro e w2 ⟨rfl, hb⟩
    rw [HM.out]
    go_wp2_with fail
    go_ret
    exact ⟨rfl, hb⟩
  · intro hk g hv
    subst hk
    have HM : Hid (mOne 0 ch neg rs c = false) := by rw [hm]; exact hv
    clear hm hv
    go_enter Ybzm.func3, Ybzm.ntmps3
    go_wp2_with fail
    refine (ahit_any _ _ _ rs hn HL.out _ _ hr).mono ?_
    rintro e w1 ⟨rfl, rfl⟩
    rw [HH.out]
    go_wp2_with fail
    refine (matchOne_any _ ch neg _ _ _ rs hn HL.out _ _ hr).mono ?_
    rintro e w2 ⟨rfl, hb⟩
    rw [HM.out]
    go_wp2_with fail
    go_ret
    exact ⟨rfl, hb⟩
  · intro hk
    subst hk
    cases hit <;> cases neg
    · have HM : Hid (mOne 3 ch false rs c = false) := by unfold Hid; rw [hm]; simp [aWant]
      clear hm
      go_enter Ybzm.func3, Ybzm.ntmps3
      go_wp2_with fail
      refine (ahit_any _ _ _ rs hn HL.out _ _ hr).mono ?_
      rintro e w1 ⟨rfl, rfl⟩
      rw [HH.out]
      go_wp2_with fail
      refine (matchOne_any _ ch false _ _ _ rs hn HL.out _ _ hr).mono ?_
      rintro e w2 ⟨rfl, hb⟩
      rw [HM.out]
      go_wp2_with fail
      go_ret
      exact ⟨rfl, hb⟩
    · have HM : Hid (mOne 3 ch true rs c = true) := by unfold Hid; rw [hm]; simp [aWant]
      clear hm
      go_enter Ybzm.func3, Ybzm.ntmps3
      go_wp2_with fail
      refine (ahit_any _ _ _ rs hn HL.out _ _ hr).mono ?_
      rintro e w1 ⟨rfl, rfl⟩
      rw [HH.out]
      go_wp2_with fail
      refine (matchOne_any _ ch true _ _ _ rs hn HL.out _ _ hr).mono ?_
      rintro e w2 ⟨rfl, hb⟩
      rw [HM.out]
      go_wp2_with fail
      go_ret
      exact ⟨rfl, hb⟩
    · have HM : Hid (mOne 3 ch false rs c = true) := by unfold Hid; rw [hm]; simp [aWant]
      clear hm
      go_enter Ybzm.func3, Ybzm.ntmps3
      go_wp2_with fail
      refine (ahit_any _ _ _ rs hn HL.out _ _ hr).mono ?_
      rintro e w1 ⟨rfl, rfl⟩
      rw [HH.out]
      go_wp2_with fail
      refine (matchOne_any _ ch false _ _ _ rs hn HL.out _ _ hr).mono ?_
      rintro e w2 ⟨rfl, hb⟩
      rw [HM.out]
      go_wp2_with fail
      go_ret
      exact ⟨rfl, hb⟩
    · have HM : Hid (mOne 3 ch true rs c = false) := by unfold Hid; rw [hm]; simp [aWant]
      clear hm
      go_enter Ybzm.func3, Ybzm.ntmps3
      go_wp2_with fail
      refine (ahit_any _ _ _ rs hn HL.out _ _ hr).mono ?_
      rintro e w1 ⟨rfl, rfl⟩
      rw [HH.out]
      go_wp2_with fail
      refine (matchOne_any _ ch true _ _ _ rs hn HL.out _ _ hr).mono ?_
      rintro e w2 ⟨rfl, hb⟩
      rw [HM.out]
      go_wp2_with fail
      go_ret
      exact ⟨rfl, hb⟩
  · intro g1 g0 g3 hv
    have HM : Hid (mOne kind ch neg rs c = false) := by rw [hm]; exact hv
    clear hm hv
    go_enter Ybzm.func3, Ybzm.ntmps3
    go_wp2_with fail
    refine (ahit_any _ _ _ rs hn HL.out _ _ hr).mono ?_
    rintro e w1 ⟨rfl, rfl⟩
    rw [HH.out]
    go_wp2_with fail
    refine (matchOne_any _ ch neg _ _ _ rs hn HL.out _ _ hr).mono ?_
    rintro e w2 ⟨rfl, hb⟩
    rw [HM.out]
    go_wp2_with fail
    go_ret
    exact ⟨rfl, hb⟩

set_option maxHeartbeats 4000000 in
theorem aexact_lo_same (w : World) (sel : UInt8) (raw : Int) (kind : Int) (ch : UInt8) (neg : Bool) (a : Option Addr) (n cap : Nat) (rs : List (UInt8 × UInt8)) (hl : rs.length = n) (hn : n ≤ 9223372036854775807) (hr : RangesAt w a rs) (other : UInt8) (h4 : (sel.toNat : Int) % 5 < 4) (hE : (sel.toNat : Int) % 5 = kind) :
    Calls Ybzm.prog 3 #[.int .u8 sel.toNat, .int .i64 raw, .int .u8 ch.toNat, .bool neg, .slice a n cap, .bool true, .int .u8 other.toNat] w fun e w' => e = .returned (.bool true) ∧ Below w.heap.size w w' := by
  have bs := sel.toNat_lt
  have HL : Hid (rs.length = n) := hl
  clear hl
  obtain ⟨hit, hh⟩ : ∃ hit, inR rs ch = hit := ⟨_, rfl⟩
  have HH : Hid (inR rs ch = hit) := hh
  have hm := aWant_eq kind ch neg rs ch
  rw [hh] at hm
  clear hh
  refine aways kind ch neg hit ch _ ?_ ?_ ?_ ?_ ?_
  · intro hk
    subst hk
    have HM : Hid (mOne 1 ch neg rs ch = true) := by unfold Hid; rw [hm]; simp [aWant]
    clear hm
    go_enter Ybzm.func3, Ybzm.ntmps3
    go_wp2_with fail
    refine (ahit_any _ _ _ rs hn HL.out _ _ hr).mono ?_
    rintro e w1 ⟨rfl, rfl⟩
    rw [HH.out]
    go_wp2_with fail
    refine (matchOne_any _ ch neg _ _ _ rs hn HL.out _ _ hr).mono ?_
    rintro e w2 ⟨rfl, hb⟩
    rw [HM.out]
    go_wp2_with fail
    go_ret
    exact ⟨rfl, hb⟩
  · intro hk g hv
    subst hk
    have HM : Hid (mOne 0 ch neg rs ch = true) := by rw [hm]; exact hv
    clear hm hv
    go_enter Ybzm.func3, Ybzm.ntmps3
    go_wp2_with fail
    refine (ahit_any _ _ _ rs hn HL.out _ _ hr).mono ?_
    rintro e w1 ⟨rfl, rfl⟩
    rw [HH.out]
    go_wp2_with fail
    refine (matchOne_any _ ch neg _ _ _ rs hn HL.out _ _ hr).mono ?_
    rintro e w2 ⟨rfl, hb⟩
    rw [HM.out]
    go_wp2_with fail
    go_ret
    exact ⟨rfl, hb⟩
  · intro hk g hv
    simp at g
  · intro hk
    subst hk
    cases hit <;> cases neg
    · have HM : Hid (mOne 3 ch false rs ch = false) := by unfold Hid; rw [hm]; simp [aWant]
      clear hm
      go_enter Ybzm.func3, Ybzm.ntmps3
      go_wp2_with fail
      refine (ahit_any _ _ _ rs hn HL.out _ _ hr).mono ?_
      rintro e w1 ⟨rfl, rfl⟩
      rw [HH.out]
      go_wp2_with fail
      refine (matchOne_any _ ch false _ _ _ rs hn HL.out _ _ hr).mono ?_
      rintro e w2 ⟨rfl, hb⟩
      rw [HM.out]
      go_wp2_with fail
      go_ret
      exact ⟨rfl, hb⟩
    · have HM : Hid (mOne 3 ch true rs ch = true) := by unfold Hid; rw [hm]; simp [aWant]
      clear hm
      go_enter Ybzm.func3, Ybzm.ntmps3
      go_wp2_with fail
      refine (ahit_any _ _ _ rs hn HL.out _ _ hr).mono ?_
      rintro e w1 ⟨rfl, rfl⟩
      rw [HH.out]
      go_wp2_with fail
      refine (matchOne_any _ ch true _ _ _ rs hn HL.out _ _ hr).mono ?_
      rintro e w2 ⟨rfl, hb⟩
      rw [HM.out]
      go_wp2_with fail
      go_ret
      exact ⟨rfl, hb⟩
    · have HM : Hid (mOne 3 ch false rs ch = true) := by unfold Hid; rw [hm]; simp [aWant]
      clear hm
      go_enter Ybzm.func3, Ybzm.ntmps3
      go_wp2_with fail
      refine (ahit_any _ _ _ rs hn HL.out _ _ hr).mono ?_
      rintro e w1 ⟨rfl, rfl⟩
      rw [HH.out]
      go_wp2_with fail
      refine (matchOne_any _ ch false _ _ _ rs hn HL.out _ _ hr).mono ?_
      rintro e w2 ⟨rfl, hb⟩
      rw [HM.out]
      go_wp2_with fail
      go_ret
      exact ⟨rfl, hb⟩
    · have HM : Hid (mOne 3 ch true rs ch = false) := by unfold Hid; rw [hm]; simp [aWant]
      clear hm
      go_enter Ybzm.func3, Ybzm.ntmps3
      go_wp2_with fail
      refine (ahit_any _ _ _ rs hn HL.out _ _ hr).mono ?_
      rintro e w1 ⟨rfl, rfl⟩
      rw [HH.out]
      go_wp2_with fail
      refine (matchOne_any _ ch true _ _ _ rs hn HL.out _ _ hr).mono ?_
      rintro e w2 ⟨rfl, hb⟩
      rw [HM.out]
      go_wp2_with fail
      go_ret
      exact ⟨rfl, hb⟩
  · intro g1 g0 g3 hv
    have HM : Hid (mOne kind ch neg rs ch = false) := by rw [hm]; exact hv
    clear hm hv
    go_enter Ybzm.func3, Ybzm.ntmps3
    go_wp2_with fail
    refine (ahit_any _ _ _ rs hn HL.out _ _ hr).mono ?_
    rintro e w1 ⟨rfl, rfl⟩
    rw [HH.out]
    go_wp2_with fail
    refine (matchOne_any _ ch neg _ _ _ rs hn HL.out _ _ hr).mono ?_
    rintro e w2 ⟨rfl, hb⟩
    rw [HM.out]
    go_wp2_with fail
    go_ret
    exact ⟨rfl, hb⟩

set_option maxHeartbeats 4000000 in
theorem aexact_hi_other (w : World) (sel : UInt8) (kind : Int) (ch : UInt8) (neg : Bool) (a : Option Addr) (n cap : Nat) (rs : List (UInt8 × UInt8)) (hl : rs.length = n) (hn : n ≤ 9223372036854775807) (hr : RangesAt w a rs) (c : UInt8) (h4 : ¬ (sel.toNat : Int) % 5 < 4) :
    Calls Ybzm.prog 3 #[.int .u8 sel.toNat, .int .i64 kind, .int .u8 ch.toNat, .bool neg, .slice a n cap, .bool false, .int .u8 c.toNat] w fun e w' => e = .returned (.bool true) ∧ Below w.heap.size w w' := by
  have bs := sel.toNat_lt
  have HL : Hid (rs.length = n) := hl
  clear hl
  obtain ⟨hit, hh⟩ : ∃ hit, inR rs c = hit := ⟨_, rfl⟩
  have HH : Hid (inR rs c = hit) := hh
  have hm := aWant_eq kind ch neg rs c
  rw [hh] at hm
  clear hh
  refine aways kind ch neg hit c _ ?_ ?_ ?_ ?_ ?_
  · intro hk
    subst hk
    have HM : Hid (mOne 1 ch neg rs c = true) := by unfold Hid; rw [hm]; simp [aWant]
    clear hm
    go_enter Ybzm.func3, Ybzm.ntmps3
    go_wp2_with fail
    refine (ahit_any _ _ _ rs hn HL.out _ _ hr).mono ?_
    rintro e w1 ⟨rfl, rfl⟩
    rw [HH.out]
    go_wp2_with fail
    refine (matchOne_any _ ch neg _ _ _ rs hn HL.out _ _ hr).mono ?_
    rintro e w2 ⟨rfl, hb⟩
    rw [HM.out]
    go_wp2_with fail
    go_ret
    exact ⟨rfl, hb⟩
  · intro hk g hv
    subst hk
    have HM : Hid (mOne 0 ch neg rs c = true) := by rw [hm]; exact hv
    clear hm hv
    go_enter Ybzm.func3, Ybzm.ntmps3
    go_wp2_with fail
    refine (ahit_any _ _ _ rs hn HL.out _ _ hr).mono ?_
    rintro e w1 ⟨rfl, rfl⟩
    rw [HH.out]
    go_wp2_with fail
    refine (matchOne_any _ ch neg _ _ _ rs hn HL.out _ _ hr).mono ?_
    rintro e w2 ⟨rfl, hb⟩
    rw [HM.out]
    go_wp2_with fail
    go_ret
    exact ⟨rfl, hb⟩
  · intro hk g hv
    subst hk
    have HM : Hid (mOne 0 ch neg rs c = false) := by rw [hm]; exact hv
    clear hm hv
    go_enter Ybzm.func3, Ybzm.ntmps3
    go_wp2_with fail
    refine (ahit_any _ _ _ rs hn HL.out _ _ hr).mono ?_
    rintro e w1 ⟨rfl, rfl⟩
    rw [HH.out]
    go_wp2_with fail
    refine (matchOne_any _ ch neg _ _ _ rs hn HL.out _ _ hr).mono ?_
    rintro e w2 ⟨rfl, hb⟩
    rw [HM.out]
    go_wp2_with fail
    go_ret
    exact ⟨rfl, hb⟩
  · intro hk
    subst hk
    cases hit <;> cases neg
    · have HM : Hid (mOne 3 ch false rs c = false) := by unfold Hid; rw [hm]; simp [aWant]
      clear hm
      go_enter Ybzm.func3, Ybzm.ntmps3
      go_wp2_with fail
      refine (ahit_any _ _ _ rs hn HL.out _ _ hr).mono ?_
      rintro e w1 ⟨rfl, rfl⟩
      rw [HH.out]
      go_wp2_with fail
      refine (matchOne_any _ ch false _ _ _ rs hn HL.out _ _ hr).mono ?_
      rintro e w2 ⟨rfl, hb⟩
      rw [HM.out]
      go_wp2_with fail
      go_ret
      exact ⟨rfl, hb⟩
    · have HM : Hid (mOne 3 ch true rs c = true) := by unfold Hid; rw [hm]; simp [aWant]
      clear hm
      go_enter Ybzm.func3, Ybzm.ntmps3
      go_wp2_with fail
      refine (ahit_any _ _ _ rs hn HL.out _ _ hr).mono ?_
      rintro e w1 ⟨rfl, rfl⟩
      rw [HH.out]
      go_wp2_with fail
      refine (matchOne_any _ ch true _ _ _ rs hn HL.out _ _ hr).mono ?_
      rintro e w2 ⟨rfl, hb⟩
      rw [HM.out]
      go_wp2_with fail
      go_ret
      exact ⟨rfl, hb⟩
    · have HM : Hid (mOne 3 ch false rs c = true) := by unfold Hid; rw [hm]; simp [aWant]
      clear hm
      go_enter Ybzm.func3, Ybzm.ntmps3
      go_wp2_with fail
      refine (ahit_any _ _ _ rs hn HL.out _ _ hr).mono ?_
      rintro e w1 ⟨rfl, rfl⟩
      rw [HH.out]
      go_wp2_with fail
      refine (matchOne_any _ ch false _ _ _ rs hn HL.out _ _ hr).mono ?_
      rintro e w2 ⟨rfl, hb⟩
      rw [HM.out]
      go_wp2_with fail
      go_ret
      exact ⟨rfl, hb⟩
    · have HM : Hid (mOne 3 ch true rs c = false) := by unfold Hid; rw [hm]; simp [aWant]
      clear hm
      go_enter Ybzm.func3, Ybzm.ntmps3
      go_wp2_with fail
      refine (ahit_any _ _ _ rs hn HL.out _ _ hr).mono ?_
      rintro e w1 ⟨rfl, rfl⟩
      rw [HH.out]
      go_wp2_with fail
      refine (matchOne_any _ ch true _ _ _ rs hn HL.out _ _ hr).mono ?_
      rintro e w2 ⟨rfl, hb⟩
      rw [HM.out]
      go_wp2_with fail
      go_ret
      exact ⟨rfl, hb⟩
  · intro g1 g0 g3 hv
    have HM : Hid (mOne kind ch neg rs c = false) := by rw [hm]; exact hv
    clear hm hv
    go_enter Ybzm.func3, Ybzm.ntmps3
    go_wp2_with fail
    refine (ahit_any _ _ _ rs hn HL.out _ _ hr).mono ?_
    rintro e w1 ⟨rfl, rfl⟩
    rw [HH.out]
    go_wp2_with fail
    refine (matchOne_any _ ch neg _ _ _ rs hn HL.out _ _ hr).mono ?_
    rintro e w2 ⟨rfl, hb⟩
    rw [HM.out]
    go_wp2_with fail
    go_ret
    exact ⟨rfl, hb⟩

set_option maxHeartbeats 4000000 in
theorem aexact_hi_same (w : World) (sel : UInt8) (kind : Int) (ch : UInt8) (neg : Bool) (a : Option Addr) (n cap : Nat) (rs : List (UInt8 × UInt8)) (hl : rs.length = n) (hn : n ≤ 9223372036854775807) (hr : RangesAt w a rs) (other : UInt8) (h4 : ¬ (sel.toNat : Int) % 5 < 4) :
    Calls Ybzm.prog 3 #[.int .u8 sel.toNat, .int .i64 kind, .int .u8 ch.toNat, .bool neg, .slice a n cap, .bool true, .int .u8 other.toNat] w fun e w' => e = .returned (.bool true) ∧ Below w.heap.size w w' := by
  have bs := sel.toNat_lt
  have HL : Hid (rs.length = n) := hl
  clear hl
  obtain ⟨hit, hh⟩ : ∃ hit, inR rs ch = hit := ⟨_, rfl⟩
  have HH : Hid (inR rs ch = hit) := hh
  have hm := aWant_eq kind ch neg rs ch
  rw [hh] at hm
  clear hh
  refine aways kind ch neg hit ch _ ?_ ?_ ?_ ?_ ?_
  · intro hk
    subst hk
    have HM : Hid (mOne 1 ch neg rs ch = true) := by unfold Hid; rw [hm]; simp [aWant]
    clear hm
    go_enter Ybzm.func3, Ybzm.ntmps3
    go_wp2_with fail
    refine (ahit_any _ _ _ rs hn HL.out _ _ hr).mono ?_
    rintro e w1 ⟨rfl, rfl⟩
    rw [HH.out]
    go_wp2_with fail
    refine (matchOne_any _ ch neg _ _ _ rs hn HL.out _ _ hr).mono ?_
    rintro e w2 ⟨rfl, hb⟩
    rw [HM.out]
    go_wp2_with fail
    go_ret
    exact ⟨rfl, hb⟩
  · intro hk g hv
    subst hk
    have HM : Hid (mOne 0 ch neg rs ch = true) := by rw [hm]; exact hv
    clear hm hv
    go_enter Ybzm.func3, Ybzm.ntmps3
    go_wp2_with fail
    refine (ahit_any _ _ _ rs hn HL.out _ _ hr).mono ?_
    rintro e w1 ⟨rfl, rfl⟩
    rw [HH.out]
    go_wp2_with fail
    refine (matchOne_any _ ch neg _ _ _ rs hn HL.out _ _ hr).mono ?_
    rintro e w2 ⟨rfl, hb⟩
    rw [HM.out]
    go_wp2_with fail
    go_ret
    exact ⟨rfl, hb⟩
  · intro hk g hv
    simp at g
  · intro hk
    subst hk
    cases hit <;> cases neg
    · have HM : Hid (mOne 3 ch false rs ch = false) := by unfold Hid; rw [hm]; simp [aWant]
      clear hm
      go_enter Ybzm.func3, Ybzm.ntmps3
      go_wp2_with fail
      refine (ahit_any _ _ _ rs hn HL.out _ _ hr).mono ?_
      rintro e w1 ⟨rfl, rfl⟩
      rw [HH.out]
      go_wp2_with fail
      refine (matchOne_any _ ch false _ _ _ rs hn HL.out _ _ hr).mono ?_
      rintro e w2 ⟨rfl, hb⟩
      rw [HM.out]
      go_wp2_with fail
      go_ret
      exact ⟨rfl, hb⟩
    · have HM : Hid (mOne 3 ch true rs ch = true) := by unfold Hid; rw [hm]; simp [aWant]
      clear hm
      go_enter Ybzm.func3, Ybzm.ntmps3
      go_wp2_with fail
      refine (ahit_any _ _ _ rs hn HL.out _ _ hr).mono ?_
      rintro e w1 ⟨rfl, rfl⟩
      rw [HH.out]
      go_wp2_with fail
      refine (matchOne_any _ ch true _ _ _ rs hn HL.out _ _ hr).mono ?_
      rintro e w2 ⟨rfl, hb⟩
      rw [HM.out]
      go_wp2_with fail
      go_ret
      exact ⟨rfl, hb⟩
    · have HM : Hid (mOne 3 ch false rs ch = true) := by unfold Hid; rw [hm]; simp [aWant]
      clear hm
      go_enter Ybzm.func3, Ybzm.ntmps3
      go_wp2_with fail
      refine (ahit_any _ _ _ rs hn HL.out _ _ hr).mono ?_
      rintro e w1 ⟨rfl, rfl⟩
      rw [HH.out]
      go_wp2_with fail
      refine (matchOne_any _ ch false _ _ _ rs hn HL.out _ _ hr).mono ?_
      rintro e w2 ⟨rfl, hb⟩
      rw [HM.out]
      go_wp2_with fail
      go_ret
      exact ⟨rfl, hb⟩
    · have HM : Hid (mOne 3 ch true rs ch = false) := by unfold Hid; rw [hm]; simp [aWant]
      clear hm
      go_enter Ybzm.func3, Ybzm.ntmps3
      go_wp2_with fail
      refine (ahit_any _ _ _ rs hn HL.out _ _ hr).mono ?_
      rintro e w1 ⟨rfl, rfl⟩
      rw [HH.out]
      go_wp2_with fail
      refine (matchOne_any _ ch true _ _ _ rs hn HL.out _ _ hr).mono ?_
      rintro e w2 ⟨rfl, hb⟩
      rw [HM.out]
      go_wp2_with fail
      go_ret
      exact ⟨rfl, hb⟩
  · intro g1 g0 g3 hv
    have HM : Hid (mOne kind ch neg rs ch = false) := by rw [hm]; exact hv
    clear hm hv
    go_enter Ybzm.func3, Ybzm.ntmps3
    go_wp2_with fail
    refine (ahit_any _ _ _ rs hn HL.out _ _ hr).mono ?_
    rintro e w1 ⟨rfl, rfl⟩
    rw [HH.out]
    go_wp2_with fail
    refine (matchOne_any _ ch neg _ _ _ rs hn HL.out _ _ hr).mono ?_
    rintro e w2 ⟨rfl, hb⟩
    rw [HM.out]
    go_wp2_with fail
    go_ret
    exact ⟨rfl, hb⟩

theorem aexact (w : World) (sel : UInt8) (raw : Int) (_hraw : -9223372036854775808 ≤ raw ∧ raw ≤ 9223372036854775807) (ch : UInt8) (neg : Bool) (a : Option Addr) (n cap : Nat) (rs : List (UInt8 × UInt8)) (hl : rs.length = n) (hm : n ≤ cap ∧ cap ≤ 9223372036854775807) (hr : RangesAt w a rs) (same : Bool) (other : UInt8) :
    Calls Ybzm.prog 3 #[.int .u8 sel.toNat, .int .i64 raw, .int .u8 ch.toNat, .bool neg, .slice a n cap, .bool same, .int .u8 other.toNat] w fun e w' => e = .returned (.bool true) ∧ Below w.heap.size w w' := by
  have hn : n ≤ 9223372036854775807 := Nat.le_trans hm.1 hm.2
  by_cases h4 : (sel.toNat : Int) % 5 < 4
  · cases same
    · exact aexact_lo_other w sel raw _ ch neg a n cap rs hl hn hr other h4 rfl
    · exact aexact_lo_same w sel raw _ ch neg a n cap rs hl hn hr other h4 rfl
  · cases same
    · exact aexact_hi_other w sel raw ch neg a n cap rs hl hn hr other h4
    · exact aexact_hi_same w sel raw ch neg a n cap rs hl hn hr other h4
end Go.Proofs.Ymbrbz

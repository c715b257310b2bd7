import Derived.Test.YmbrbzPrint
import Derived.Test.YmbrbzTokMake
import Derived.RegionTactic
import Derived.Deep.QuietTactic
import Derived.BigQuiet
namespace Go.Proofs.Ymbrbz
open Go.RowKit

theorem below_drewN {B : Nat} {a w : World} (h : Below B a w) (n : Nat) : Below B a (w.drewN n) := h.trans ⟨rfl, rfl, rfl, Nat.le_refl _, fun _ _ => rfl⟩

/-- Is the raw list beyond the laws' size? -/
def bigT (ts : List Tk) : Bool := decide (1024 < ts.length) || ts.any fun t => decide (1024 < t.rs.length)

theorem bigT_take (ts : List Tk) (k : Nat) (hk : k < ts.length) : (ts.take (k + 1)).any (fun t => decide (1024 < t.rs.length)) = ((ts.take k).any (fun t => decide (1024 < t.rs.length)) || decide (1024 < (ts.getD k tk0).rs.length)) := by
  rw [take_tk ts k hk, List.any_append]; simp

theorem bigT_hit (ts : List Tk) (k : Nat) (hk : k < ts.length) (h : 1024 < (ts.getD k tk0).rs.length) : bigT ts = true := by
  unfold bigT
  rw [Bool.or_eq_true]
  exact .inr (List.any_eq_true.2 ⟨_, getD_mem_tk hk, by simpa using h⟩)

theorem bigT_le {ts : List Tk} (h : bigT ts = false) : ts.length ≤ 1024 ∧ ∀ t ∈ ts, t.rs.length ≤ 1024 := by
  unfold bigT at h
  rw [Bool.or_eq_false_iff] at h
  refine ⟨by simpa using h.1, fun t ht => ?_⟩
  have := (List.any_eq_false.1 h.2) t ht
  simpa using this

set_option maxHeartbeats 1000000 in
theorem bbig_any (a : Option Addr) (n cap : Nat) (ts : List Tk) (hn : n ≤ 9223372036854775807) (hl : ts.length = n) (w : World) (hr : TokensAt w a ts) :
    Calls Ybzm.prog 18 #[.slice a n cap] w fun e w' => e = .returned (.bool (bigT ts)) ∧ w' = w := by
  by_cases hbig : 1024 < n
  · have hv : bigT ts = true := by unfold bigT; rw [hl]; simp [hbig]
    rw [hv]
    go_enter Ybzm.func18, Ybzm.ntmps18
    go_wp2_with fail
    go_ret
    exact ⟨rfl, rfl⟩
  have HR := hid hr
  have HL := hid hl
  clear hr hl
  go_enter Ybzm.func18, Ybzm.ntmps18
  go_wp2_with fail
  go_loopg [3] n (fun g i wr => ∃ k : Nat, g = n - k ∧ k ≤ n ∧ i = .int .i64 k ∧ (ts.take k).any (fun t => decide (1024 < t.rs.length)) = false ∧ wr = w)
  case atStart => exact ⟨0, rfl, Nat.zero_le _, rfl, rfl, rfl⟩
  case round =>
    obtain ⟨k, rfl, hk, rfl, hall, hw⟩ := hrel
    subst hw
    have HA := hid hall
    clear hall
    by_cases hkn : k < n
    · obtain ⟨b, off, rfl, ta, tr⟩ := HR.out k (by rw [HL.out]; exact hkn)
      have HN := hid (bigT_take ts k (by rw [HL.out]; exact hkn))
      have HH := hid (bigT_hit ts k (by rw [HL.out]; exact hkn))
      have c3 := ta.c3
      generalize ts.getD k tk0 = t at c3 HN HH tr
      have hrm : t.rs.length ≤ 9223372036854775807 := Nat.le_trans tr.le tr.room
      clear ta tr
      generalize t.rs.length = m at *
      by_cases hm : 1024 < m
      · go_wp2_with fail
        go_ret
        exact ⟨ret_bool (HH.out hm).symm, rfl⟩
      · go_wp2_with fail
        go_roundg (n - (k + 1))
        case rel => exact ⟨k + 1, rfl, by omega, by go_num, by rw [HN.out, HA.out]; simp; omega, rfl⟩
        case measure => omega
    · have hkk : ts.take k = ts := List.take_of_length_le (by rw [HL.out]; omega)
      rw [hkk] at HA
      go_wp2_with fail
      go_ret
      refine ⟨ret_bool ?_, rfl⟩
      unfold bigT
      rw [HA.out, HL.out]
      simp; omega

theorem okRs_take (rs : List (UInt8 × UInt8)) (k : Nat) (hk : k < rs.length) : (rs.take (k + 1)).all okR = ((rs.take k).all okR && okR (rs.getD k (0, 0))) := by
  rw [take_rg rs k hk, List.all_append]; simp

set_option maxHeartbeats 2000000 in
theorem bgood_any (t : Tk) (w : World) (hr : RsOk w t) :
    Calls Ybzm.prog 19 #[.agg #[.int .i64 t.kind, .int .u8 t.char.toNat, .bool t.neg, .slice t.ra t.rs.length t.cap]] w fun e w' => e = .returned (.bool (okT t)) ∧ Below w.heap.size w w' := by
  have h63 : t.rs.length ≤ 9223372036854775807 := Nat.le_trans hr.le hr.room
  have hra := hr.at_
  obtain ⟨kind, ch, neg, rs, ra, cap⟩ := t
  simp only at h63 hra ⊢
  clear hr
  by_cases h3 : kind = 3
  · subst h3
    have HV : Hid (okT ⟨3, ch, neg, rs, ra, cap⟩ = (!rs.isEmpty && rs.all okR)) := by simp [Hid, okT]
    rw [HV.out]
    obtain ⟨n, hn⟩ : ∃ n, n = rs.length := ⟨_, rfl⟩
    rw [← hn] at h63 ⊢
    have HR := hid hra
    have HL := hid hn.symm
    have HTN := hid (block_new w #[.int .i64 3, .int .u8 ch.toNat, .bool neg, .slice ra n cap] 26)
    clear HV hra hn
    go_enter Ybzm.func19, Ybzm.ntmps19
    go_wp2_with fail
    go_loopg [3] n (fun g i wr => ∃ k : Nat, g = n - k ∧ k ≤ n ∧ i = .int .i64 k ∧ (rs.take k).all okR = true ∧ wr.heap[w.heap.size]? = some (.cells #[.int .i64 3, .int .u8 ch.toNat, .bool neg, .slice ra n cap] 26 (0, 0)) ∧ Below w.heap.size w wr)
    case atStart => exact ⟨0, rfl, Nat.zero_le _, rfl, rfl, HTN.out, (Below.refl _ _).alloc (Nat.le_refl _) _⟩
    case round =>
      clear HTN
      obtain ⟨k, rfl, hk, rfl, hall, hblk, hb⟩ := hrel
      have t3 := cell_block hblk 3
      simp only [List.getElem?_toArray, List.getElem?_cons_zero, List.getElem?_cons_succ] at t3
      have HBLK := hid hblk
      have HA := hid hall
      clear hblk hall
      by_cases hkn : k < n
      · obtain ⟨b, off, rfl, g0, g1⟩ := HR.out k (by rw [HL.out]; exact hkn)
        have c0 := (hb.cell (p := ⟨b, off + k * 2, none⟩) (block_lt g0)).trans g0
        have c1 := (hb.cell (p := ⟨b, off + k * 2 + 1, none⟩) (block_lt g1)).trans g1
        have HS := hid (okRs_take rs k (by rw [HL.out]; exact hkn))
        have HB := hid (fun h => rs_bad (rs := rs) (k := k) (by rw [HL.out]; exact hkn) h)
        generalize rs.getD k (0, 0) = r at c0 c1 HS HB
        obtain ⟨lo, hi⟩ := r
        simp only at c0 c1
        clear g0 g1
        by_cases h1 : hi.toNat < lo.toNat
        · go_wp2_with fail
          go_quiet (fail)
          go_wp2_with fail
          go_ret
          exact ⟨ret_bool (by rw [HB.out (by simp [okR]; omega)]; simp), below_drewN hb _⟩
        · go_wp2_with fail
          go_quiet (fail)
          go_wp2_with fail
          go_roundg (n - (k + 1))
          case rel => exact ⟨k + 1, rfl, by omega, by go_num, by rw [HS.out, HA.out]; simp [okR]; omega, HBLK.out, below_drewN hb _⟩
          case measure => omega
      · have hkk : rs.take k = rs := List.take_of_length_le (by rw [HL.out]; omega)
        rw [hkk] at HA
        by_cases hn0 : 0 < n
        · go_wp2_with fail
          go_ret
          exact ⟨ret_bool (by rw [HA.out]; have : rs ≠ [] := (by intro h; have := HL.out; rw [h] at this; simp at this; omega); simp [this]), hb⟩
        · go_wp2_with fail
          go_ret
          exact ⟨ret_bool (by rw [HA.out]; have : rs = [] := List.length_eq_zero_iff.1 (by rw [HL.out]; omega); simp [this]), hb⟩
  · have g3 : (kind != 3) = true := bne_iff_ne.2 h3
    have HV : Hid (okT ⟨kind, ch, neg, rs, ra, cap⟩ = decide (kind = 0 ∨ kind = 1 ∨ kind = 2)) := by simp [Hid, okT, h3]
    rw [HV.out]
    clear HV
    by_cases h0 : kind < 0
    · go_enter Ybzm.func19, Ybzm.ntmps19
      go_wp2_with fail
      go_ret
      exact ⟨ret_bool (by simp; omega), (Below.refl _ _).alloc (Nat.le_refl _) _⟩
    · by_cases h1 : 3 < kind
      · go_enter Ybzm.func19, Ybzm.ntmps19
        go_wp2_with fail
        go_ret
        exact ⟨ret_bool (by simp; omega), (Below.refl _ _).alloc (Nat.le_refl _) _⟩
      · go_enter Ybzm.func19, Ybzm.ntmps19
        go_wp2_with fail
        go_ret
        exact ⟨ret_bool (by simp; omega), (Below.refl _ _).alloc (Nat.le_refl _) _⟩
end Go.Proofs.Ymbrbz

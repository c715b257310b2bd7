import Derived.Test.YmbrbzParseTxt
import Derived.Test.YmbrbzBText
import Derived.Test.YmbrbzMatchOne
import Derived.Lib.SmallJoins
namespace Go.Proofs.Ymbrbz
open Go.RowKit Go.ChangeShapes Go.WideShapes Go.Deep Go.Joins

section
variable {H : Type} {enc : TypeId × Value → H} {P : Program} {w : World} {base : Nat} {spare : Nat → Bool} {held : Bool}

/-- A range by value that came in. -/
theorem open_range {r : Reach} {b0 : Nat} {t : TypeId} {f0 f1 : Field} {v : Value} {d : DataW H} {p : List MemPlace} (hs : P.underlying t = some (.struct #[f0, f1])) (hone : oneCellFields P #[f0, f1] = true) (hC : P.cellsOf t = 2)
    (h0 : P.underlying f0.type = some (.int .u8)) (h1 : P.underlying f1.type = some (.int .u8)) (hv : Value.okWide P w r b0 t v) (h : DataW.Trod enc P w base spare held t v d p) :
    ∃ lo hi : UInt8, v = .agg #[.int .u8 lo.toNat, .int .u8 hi.toNat] := by
  obtain ⟨v0, v1, y0, y1, m, rfl, _, _, t0, t1⟩ := open_agg2 hs hone hC hv h
  obtain ⟨z0, e0, _, b0⟩ := DataW.trod_int h0 t0
  obtain ⟨z1, e1, _, b1⟩ := DataW.trod_int h1 t1
  simp only [List.cons.injEq, and_true] at e0 e1
  obtain ⟨lo, hlo⟩ := nat_of_u8 (bounds_u8 b0)
  obtain ⟨hi, hhi⟩ := nat_of_u8 (bounds_u8 b1)
  exact ⟨lo, hi, by rw [e0, e1, hlo, hhi]⟩
end

def srt (r : UInt8 × UInt8) : UInt8 × UInt8 := if r.2.toNat < r.1.toNat then (r.2, r.1) else r
def txtA (r : UInt8 × UInt8) : List UInt8 := [92, r.1, 45, 92, r.2]

theorem srt_le (r : UInt8 × UInt8) : (srt r).1.toNat ≤ (srt r).2.toNat := by
  unfold srt; split
  · simp; omega
  · omega

theorem txtA_item (r : UInt8 × UInt8) (h : r.1.toNat ≤ r.2.toNat) : ItemTxt r.1 r.2 (txtA r) := .inr ⟨[92, r.1], [92, r.2], .inl rfl, .inl rfl, rfl, h⟩

theorem parse_A (neg : Bool) (rs : List (UInt8 × UInt8)) (h : ∀ r ∈ rs, r.1.toNat ≤ r.2.toNat) (h0 : rs ≠ []) :
    parse ([91] ++ bangs neg ++ rs.flatMap txtA ++ [93]) = some [⟨3, 0, neg, rs⟩] := by
  have hc := parse1_class neg (rs.map fun r => (r.1, r.2, txtA r)) (by
    intro it hit
    obtain ⟨r, hr, rfl⟩ := List.mem_map.1 hit
    exact txtA_item r (h r hr)) (by simpa using h0) []
  have e1 : txts (rs.map fun r => (r.1, r.2, txtA r)) = rs.flatMap txtA := by simp [txts, List.flatMap_map]
  have e2 : bnds (rs.map fun r => (r.1, r.2, txtA r)) = rs := by
    have e : ((fun it : UInt8 × UInt8 × List UInt8 => (it.1, it.2.1)) ∘ fun r : UInt8 × UInt8 => (r.1, r.2, txtA r)) = id := rfl
    unfold bnds
    rw [List.map_map, e, List.map_id]
  rw [e1, e2] at hc
  have e3 : [91] ++ bangs neg ++ rs.flatMap txtA ++ [93] = 91 :: ((if neg then [33] else []) ++ (rs.flatMap txtA ++ [93])) := by simp [bangs]
  rw [e3, parse_step hc]
  rfl

theorem txtA_len (rs : List (UInt8 × UInt8)) : (rs.flatMap txtA).length = 5 * rs.length := by
  induction rs with
  | nil => rfl
  | cons r t ih => rw [List.flatMap_cons, List.length_append, ih]; simp [txtA]; omega

theorem txtA_take (rs : List (UInt8 × UInt8)) (k : Nat) (hk : k < rs.length) : (rs.take (k + 1)).flatMap txtA = (rs.take k).flatMap txtA ++ txtA (rs.getD k (0, 0)) := by
  rw [take_rg rs k hk, List.flatMap_append]; simp

theorem srt_cases (r : UInt8 × UInt8) : (r.2.toNat < r.1.toNat ∧ srt r = (r.2, r.1)) ∨ (¬ r.2.toNat < r.1.toNat ∧ srt r = r) := by
  unfold srt; split
  · exact .inl ⟨by assumption, rfl⟩
  · exact .inr ⟨by assumption, rfl⟩

theorem getD_map_srt (l : List (UInt8 × UInt8)) (k : Nat) (hk : k < l.length) : (l.map srt).getD k (0, 0) = srt (l.getD k (0, 0)) := by
  rw [getD_at _ _ _ (by simpa using hk), getD_at _ _ _ hk]; simp

set_option maxHeartbeats 4000000 in
set_option maxRecDepth 4000 in
theorem aparsed (w : World) (neg : Bool) (lo0 hi0 : UInt8) (a : Option Addr) (n cap : Nat) (rs : List (UInt8 × UInt8)) (hl : rs.length = n) (hm : n ≤ cap ∧ cap ≤ 9223372036854775807) (hr : RangesAt w a rs) (c : UInt8) :
    Calls Ybzm.prog 4 #[.bool neg, .agg #[.int .u8 lo0.toNat, .int .u8 hi0.toNat], .slice a n cap, .int .u8 c.toNat] w fun e w' => e = .returned (.bool true) ∧ Below w.heap.size w w' := by
  have hn : n ≤ 9223372036854775807 := Nat.le_trans hm.1 hm.2
  clear hm
  have HW0 := hid ((Below.refl w.heap.size w).alloc (Nat.le_refl _) (.cells #[.int .u8 lo0.toNat, .int .u8 hi0.toNat] 29))
  by_cases hbig : 1024 < n
  · go_enter Ybzm.func4, Ybzm.ntmps4
    go_wp2_with fail
    go_ret
    exact ⟨rfl, HW0.out⟩
  obtain ⟨S, hS⟩ : ∃ S, S = ((lo0, hi0) :: rs).map srt := ⟨_, rfl⟩
  have HSL : Hid (S.length = n + 1) := by rw [Hid, hS]; simp [hl]
  have HSG : Hid (∀ k, k < n + 1 → S.getD k (0, 0) = srt (((lo0, hi0) :: rs).getD k (0, 0))) := fun k hk => by rw [hS]; exact getD_map_srt _ k (by simp [hl]; omega)
  have HSO : Hid (∀ r ∈ S, r.1.toNat ≤ r.2.toNat) := by
    intro r hr
    rw [hS] at hr
    obtain ⟨x, _, rfl⟩ := List.mem_map.1 hr
    exact srt_le x
  have HR := hid hr
  have HL := hid hl
  obtain ⟨W, hW⟩ : ∃ W, W = w.alloc (.cells #[.int .u8 lo0.toNat, .int .u8 hi0.toNat] 29) := ⟨_, rfl⟩
  have HF0 : Hid (W.cell? ⟨w.heap.size, 0, none⟩ = some (.int .u8 lo0.toNat)) := by rw [hW]; exact cell_block (block_new w #[.int .u8 lo0.toNat, .int .u8 hi0.toNat] 29) 0
  have HF1 : Hid (W.cell? ⟨w.heap.size, 1, none⟩ = some (.int .u8 hi0.toNat)) := by rw [hW]; exact cell_block (block_new w #[.int .u8 lo0.toNat, .int .u8 hi0.toNat] 29) 1
  have HWS : Hid (w.heap.size < W.heap.size) := by rw [hW]; simp [Hid]
  have HRW : Hid (RangesAt W a rs) := by rw [hW]; exact HR.out.below HW0.out
  have HWB : Hid (Below w.heap.size w W) := by rw [hW]; exact HW0.out
  have HWE := hid hW
  clear hr hl hS hW HW0 HR
  go_enter Ybzm.func4, Ybzm.ntmps4
  cases neg with
  | false =>
    go_wp2_with (at_builtin; go_must (refine wpList_appB1k _ rfl (.tmp 21) (.tmp 22) 30 rfl Ybzm.underlying30 Ybzm.info5 W.heap.size _ [] (by rfl) (OwnB.nil _ _) 91 _ rfl (by simp) (by simp) (by rw [HWE.out]; exact Nat.le_refl _) ?_); intro v1 w1 hown1 hb1 _; have HO1 := hid hown1; clear hown1)
    rw [← HWE.out] at hb1
    clear HWE
    have HPL : Hid (∀ k, ([91] ++ bangs false ++ (S.take k).flatMap txtA).length ≤ 6000) := fun k => by
      have h1 := List.length_take_le k S
      have h2 := HSL.out
      rw [List.length_append, txtA_len]
      simp [bangs]; omega
    go_wp2_with fail
    go_loopg [9, 10, 11] (n + 1) (fun g v hv iv wr => ∃ k : Nat, g = n + 1 - k ∧ k ≤ n + 1 ∧ iv = .int .i64 k ∧ hv = .bool (inR (S.take k) c) ∧ OwnB wr W.heap.size v ([91] ++ bangs false ++ (S.take k).flatMap txtA) ∧ Below W.heap.size W wr)
    case atStart => exact ⟨0, rfl, Nat.zero_le _, rfl, rfl, by simpa [bangs] using HO1.out, hb1⟩
    case round =>
      clear HO1
      rename World => wA
      obtain ⟨k, rfl, hk, rfl, rfl, hown, hb⟩ := hrel
      have HO := hid hown
      have HLN := hid (HPL.out k)
      clear hown
      by_cases hkn : k < n + 1
      · have f0 := (hb.cell (p := ⟨w.heap.size, 0, none⟩) HWS.out).trans HF0.out
        have f1 := (hb.cell (p := ⟨w.heap.size, 1, none⟩) HWS.out).trans HF1.out
        have HSK := hid (HSG.out k hkn)
        have HTX := hid (txtA_take S k (by rw [HSL.out]; exact hkn))
        have HIN := hid (inR_take_succ S c k (by rw [HSL.out]; exact hkn))
        rw [HSK.out] at HTX HIN
        clear HSK
        generalize inR (S.take k) c = hit at *
        obtain ⟨X, hX⟩ : ∃ X, X = [91] ++ bangs false ++ (S.take k).flatMap txtA := ⟨_, rfl⟩
        rw [← hX] at HO HLN
        have HNX : Hid (∀ r, (S.take (k + 1)).flatMap txtA = (S.take k).flatMap txtA ++ txtA r → [91] ++ bangs false ++ (S.take (k + 1)).flatMap txtA = X ++ txtA r) := fun r h => by rw [h, hX]; simp only [List.append_assoc]
        clear hX
        have hbA := hb.alloc hb.size
        cases k with
        | zero =>
          have e0 : ((lo0, hi0) :: rs).getD 0 (0, 0) = (lo0, hi0) := rfl
          rw [e0] at HTX HIN
          clear e0
          rcases srt_cases (lo0, hi0) with ⟨hsw, hse⟩ | ⟨hsw, hse⟩
          · rw [hse] at HTX HIN
            simp only at hsw
            have HY := hid (HNX.out _ HTX.out)
            clear hse HTX HNX
            by_cases h1 : c.toNat < hi0.toNat
            · go_wp2_with (at_builtin; go_must (refine wpList_appB (wA.alloc (.cells #[.int .u8 lo0.toNat, .int .u8 hi0.toNat] 29)) rfl (.tmp 53) (.tmp 56) 30 rfl Ybzm.underlying30 Ybzm.info5 W.heap.size _ X (by rfl) (HO.out.alloc _) _ 5 5 [92, hi0, 45, 92, lo0] rfl rfl (by simp [Act.eval]) (by have := HLN.out; simp; omega) (hbA _).size ?_); intro v7 w7 hown7 hb7 _; have HO7 := hid hown7; clear hown7)
              go_roundg (n + 1 - (0 + 1))
              case rel => exact ⟨0 + 1, rfl, by omega, by go_num, val_of (by rw [HIN.out]; simp; omega), by rw [HY.out]; exact HO7.out, (hbA _).trans hb7⟩
              case measure => omega
            · by_cases h2 : lo0.toNat < c.toNat
              · go_wp2_with (at_builtin; go_must (refine wpList_appB (wA.alloc (.cells #[.int .u8 lo0.toNat, .int .u8 hi0.toNat] 29)) rfl (.tmp 53) (.tmp 56) 30 rfl Ybzm.underlying30 Ybzm.info5 W.heap.size _ X (by rfl) (HO.out.alloc _) _ 5 5 [92, hi0, 45, 92, lo0] rfl rfl (by simp [Act.eval]) (by have := HLN.out; simp; omega) (hbA _).size ?_); intro v7 w7 hown7 hb7 _; have HO7 := hid hown7; clear hown7)
                go_roundg (n + 1 - (0 + 1))
                case rel => exact ⟨0 + 1, rfl, by omega, by go_num, val_of (by rw [HIN.out]; simp; omega), by rw [HY.out]; exact HO7.out, (hbA _).trans hb7⟩
                case measure => omega
              · go_wp2_with (at_builtin; go_must (refine wpList_appB (wA.alloc (.cells #[.int .u8 lo0.toNat, .int .u8 hi0.toNat] 29)) rfl (.tmp 53) (.tmp 56) 30 rfl Ybzm.underlying30 Ybzm.info5 W.heap.size _ X (by rfl) (HO.out.alloc _) _ 5 5 [92, hi0, 45, 92, lo0] rfl rfl (by simp [Act.eval]) (by have := HLN.out; simp; omega) (hbA _).size ?_); intro v7 w7 hown7 hb7 _; have HO7 := hid hown7; clear hown7)
                go_roundg (n + 1 - (0 + 1))
                case rel => exact ⟨0 + 1, rfl, by omega, by go_num, val_of (by rw [HIN.out]; simp; omega), by rw [HY.out]; exact HO7.out, (hbA _).trans hb7⟩
                case measure => omega
          · rw [hse] at HTX HIN
            simp only at hsw
            have HY := hid (HNX.out _ HTX.out)
            clear hse HTX HNX
            by_cases h1 : c.toNat < lo0.toNat
            · go_wp2_with (at_builtin; go_must (refine wpList_appB (wA.alloc (.cells #[.int .u8 lo0.toNat, .int .u8 hi0.toNat] 29)) rfl (.tmp 53) (.tmp 56) 30 rfl Ybzm.underlying30 Ybzm.info5 W.heap.size _ X (by rfl) (HO.out.alloc _) _ 5 5 [92, lo0, 45, 92, hi0] rfl rfl (by simp [Act.eval]) (by have := HLN.out; simp; omega) (hbA _).size ?_); intro v7 w7 hown7 hb7 _; have HO7 := hid hown7; clear hown7)
              go_roundg (n + 1 - (0 + 1))
              case rel => exact ⟨0 + 1, rfl, by omega, by go_num, val_of (by rw [HIN.out]; simp; omega), by rw [HY.out]; exact HO7.out, (hbA _).trans hb7⟩
              case measure => omega
            · by_cases h2 : hi0.toNat < c.toNat
              · go_wp2_with (at_builtin; go_must (refine wpList_appB (wA.alloc (.cells #[.int .u8 lo0.toNat, .int .u8 hi0.toNat] 29)) rfl (.tmp 53) (.tmp 56) 30 rfl Ybzm.underlying30 Ybzm.info5 W.heap.size _ X (by rfl) (HO.out.alloc _) _ 5 5 [92, lo0, 45, 92, hi0] rfl rfl (by simp [Act.eval]) (by have := HLN.out; simp; omega) (hbA _).size ?_); intro v7 w7 hown7 hb7 _; have HO7 := hid hown7; clear hown7)
                go_roundg (n + 1 - (0 + 1))
                case rel => exact ⟨0 + 1, rfl, by omega, by go_num, val_of (by rw [HIN.out]; simp; omega), by rw [HY.out]; exact HO7.out, (hbA _).trans hb7⟩
                case measure => omega
              · go_wp2_with (at_builtin; go_must (refine wpList_appB (wA.alloc (.cells #[.int .u8 lo0.toNat, .int .u8 hi0.toNat] 29)) rfl (.tmp 53) (.tmp 56) 30 rfl Ybzm.underlying30 Ybzm.info5 W.heap.size _ X (by rfl) (HO.out.alloc _) _ 5 5 [92, lo0, 45, 92, hi0] rfl rfl (by simp [Act.eval]) (by have := HLN.out; simp; omega) (hbA _).size ?_); intro v7 w7 hown7 hb7 _; have HO7 := hid hown7; clear hown7)
                go_roundg (n + 1 - (0 + 1))
                case rel => exact ⟨0 + 1, rfl, by omega, by go_num, val_of (by rw [HIN.out]; simp; omega), by rw [HY.out]; exact HO7.out, (hbA _).trans hb7⟩
                case measure => omega
        | succ j =>
          have e0 : ((lo0, hi0) :: rs).getD (j + 1) (0, 0) = rs.getD j (0, 0) := rfl
          rw [e0] at HTX HIN
          obtain ⟨b2, off2, rfl, g0, g1⟩ := HRW.out j (by rw [HL.out]; omega)
          have q0 := (hb.cell (p := ⟨b2, off2 + j * 2, none⟩) (block_lt g0)).trans g0
          have q1 := (hb.cell (p := ⟨b2, off2 + j * 2 + 1, none⟩) (block_lt g1)).trans g1
          have hblt : b2 < wA.heap.size := block_lt q0
          generalize rs.getD j (0, 0) = r at q0 q1 HTX HIN
          obtain ⟨lo1, hi1⟩ := r
          simp only at q0 q1
          have p0 := ((Below.refl wA.heap.size wA).alloc (Nat.le_refl _) (.cells #[.int .u8 lo0.toNat, .int .u8 hi0.toNat] 29)).cell (p := ⟨b2, off2 + j * 2, none⟩) hblt |>.trans q0
          have p1 := ((Below.refl wA.heap.size wA).alloc (Nat.le_refl _) (.cells #[.int .u8 lo0.toNat, .int .u8 hi0.toNat] 29)).cell (p := ⟨b2, off2 + j * 2 + 1, none⟩) hblt |>.trans q1
          have ek : ((j + 1 : Nat) : Int) - 1 = j := by omega
          clear e0 g0 g1 q0 q1
          rcases srt_cases (lo1, hi1) with ⟨hsw, hse⟩ | ⟨hsw, hse⟩
          · rw [hse] at HTX HIN
            simp only at hsw
            have HY := hid (HNX.out _ HTX.out)
            clear hse HTX HNX
            by_cases h1 : c.toNat < hi1.toNat
            · go_wp2_with (at_builtin; go_must (refine wpList_appB (wA.alloc (.cells #[.int .u8 lo1.toNat, .int .u8 hi1.toNat] 29)) rfl (.tmp 53) (.tmp 56) 30 rfl Ybzm.underlying30 Ybzm.info5 W.heap.size _ X (by rfl) (HO.out.alloc _) _ 5 5 [92, hi1, 45, 92, lo1] rfl rfl (by simp [Act.eval]) (by have := HLN.out; simp; omega) (hbA _).size ?_); intro v7 w7 hown7 hb7 _; have HO7 := hid hown7; clear hown7)
              go_roundg (n + 1 - ((j + 1) + 1))
              case rel => exact ⟨(j + 1) + 1, rfl, by omega, by go_num, val_of (by rw [HIN.out]; simp; omega), by rw [HY.out]; exact HO7.out, (hbA _).trans hb7⟩
              case measure => omega
            · by_cases h2 : lo1.toNat < c.toNat
              · go_wp2_with (at_builtin; go_must (refine wpList_appB (wA.alloc (.cells #[.int .u8 lo1.toNat, .int .u8 hi1.toNat] 29)) rfl (.tmp 53) (.tmp 56) 30 rfl Ybzm.underlying30 Ybzm.info5 W.heap.size _ X (by rfl) (HO.out.alloc _) _ 5 5 [92, hi1, 45, 92, lo1] rfl rfl (by simp [Act.eval]) (by have := HLN.out; simp; omega) (hbA _).size ?_); intro v7 w7 hown7 hb7 _; have HO7 := hid hown7; clear hown7)
                go_roundg (n + 1 - ((j + 1) + 1))
                case rel => exact ⟨(j + 1) + 1, rfl, by omega, by go_num, val_of (by rw [HIN.out]; simp; omega), by rw [HY.out]; exact HO7.out, (hbA _).trans hb7⟩
                case measure => omega
              · go_wp2_with (at_builtin; go_must (refine wpList_appB (wA.alloc (.cells #[.int .u8 lo1.toNat, .int .u8 hi1.toNat] 29)) rfl (.tmp 53) (.tmp 56) 30 rfl Ybzm.underlying30 Ybzm.info5 W.heap.size _ X (by rfl) (HO.out.alloc _) _ 5 5 [92, hi1, 45, 92, lo1] rfl rfl (by simp [Act.eval]) (by have := HLN.out; simp; omega) (hbA _).size ?_); intro v7 w7 hown7 hb7 _; have HO7 := hid hown7; clear hown7)
                go_roundg (n + 1 - ((j + 1) + 1))
                case rel => exact ⟨(j + 1) + 1, rfl, by omega, by go_num, val_of (by rw [HIN.out]; simp; omega), by rw [HY.out]; exact HO7.out, (hbA _).trans hb7⟩
                case measure => omega
          · rw [hse] at HTX HIN
            simp only at hsw
            have HY := hid (HNX.out _ HTX.out)
            clear hse HTX HNX
            by_cases h1 : c.toNat < lo1.toNat
            · go_wp2_with (at_builtin; go_must (refine wpList_appB (wA.alloc (.cells #[.int .u8 lo1.toNat, .int .u8 hi1.toNat] 29)) rfl (.tmp 53) (.tmp 56) 30 rfl Ybzm.underlying30 Ybzm.info5 W.heap.size _ X (by rfl) (HO.out.alloc _) _ 5 5 [92, lo1, 45, 92, hi1] rfl rfl (by simp [Act.eval]) (by have := HLN.out; simp; omega) (hbA _).size ?_); intro v7 w7 hown7 hb7 _; have HO7 := hid hown7; clear hown7)
              go_roundg (n + 1 - ((j + 1) + 1))
              case rel => exact ⟨(j + 1) + 1, rfl, by omega, by go_num, val_of (by rw [HIN.out]; simp; omega), by rw [HY.out]; exact HO7.out, (hbA _).trans hb7⟩
              case measure => omega
            · by_cases h2 : hi1.toNat < c.toNat
              · go_wp2_with (at_builtin; go_must (refine wpList_appB (wA.alloc (.cells #[.int .u8 lo1.toNat, .int .u8 hi1.toNat] 29)) rfl (.tmp 53) (.tmp 56) 30 rfl Ybzm.underlying30 Ybzm.info5 W.heap.size _ X (by rfl) (HO.out.alloc _) _ 5 5 [92, lo1, 45, 92, hi1] rfl rfl (by simp [Act.eval]) (by have := HLN.out; simp; omega) (hbA _).size ?_); intro v7 w7 hown7 hb7 _; have HO7 := hid hown7; clear hown7)
                go_roundg (n + 1 - ((j + 1) + 1))
                case rel => exact ⟨(j + 1) + 1, rfl, by omega, by go_num, val_of (by rw [HIN.out]; simp; omega), by rw [HY.out]; exact HO7.out, (hbA _).trans hb7⟩
                case measure => omega
              · go_wp2_with (at_builtin; go_must (refine wpList_appB (wA.alloc (.cells #[.int .u8 lo1.toNat, .int .u8 hi1.toNat] 29)) rfl (.tmp 53) (.tmp 56) 30 rfl Ybzm.underlying30 Ybzm.info5 W.heap.size _ X (by rfl) (HO.out.alloc _) _ 5 5 [92, lo1, 45, 92, hi1] rfl rfl (by simp [Act.eval]) (by have := HLN.out; simp; omega) (hbA _).size ?_); intro v7 w7 hown7 hb7 _; have HO7 := hid hown7; clear hown7)
                go_roundg (n + 1 - ((j + 1) + 1))
                case rel => exact ⟨(j + 1) + 1, rfl, by omega, by go_num, val_of (by rw [HIN.out]; simp; omega), by rw [HY.out]; exact HO7.out, (hbA _).trans hb7⟩
                case measure => omega
      · have hkk : k = n + 1 := by omega
        have hst : S.take k = S := List.take_of_length_le (by rw [HSL.out]; omega)
        rw [hst] at HO HLN ⊢
        have HPP : Hid (parse ([91] ++ bangs false ++ S.flatMap txtA ++ [93]) = some [⟨3, 0, false, S⟩]) := parse_A false S HSO.out (by intro h; have := HSL.out; rw [h] at this; simp at this)
        generalize [91] ++ bangs false ++ S.flatMap txtA = X at HO HLN HPP
        generalize hhit : inR S c = hit
        have HHI := hid hhit
        clear hkk hst hhit
        go_wp2_with (at_builtin; go_must (refine wpList_appB1k wA rfl (.tmp 67) (.tmp 68) 30 rfl Ybzm.underlying30 Ybzm.info5 W.heap.size _ X (by rfl) HO.out 93 _ rfl (by simp) (by have := HLN.out; omega) hb.size ?_); intro v7 w7 hown7 hb7 _; have hconv := OwnB.conv (P := Ybzm.prog) hown7 30 Ybzm.underlying30 Ybzm.underlying5 9 Ybzm.underlying9; clear hown7)
        refine (parse_any (strOf (X ++ [93])) (by rw [strOf_size]; have := HLN.out; simp; omega) _).mono ?_
        rw [strOf_data]
        rintro e w8 (⟨hbad, rfl, _⟩ | ⟨TS, ao, cp, hpar, rfl, _, hPB⟩)
        · rw [HPP.out] at hbad; cases hbad
        have hTS := hpar
        rw [HPP.out] at hTS
        have hTS2 : TS.map Tk.pk = [⟨3, 0, false, S⟩] := (Option.some.inj hTS).symm
        match TS, hTS2, hPB with
        | [u], hTS2, hPB =>
          simp only [List.map_cons, List.map_nil, List.cons.injEq, and_true, Tk.pk, Pk.mk.injEq] at hTS2
          obtain ⟨kind, ch, ng, rsu, ra, capu⟩ := u
          simp only at hTS2
          obtain ⟨rfl, rfl, rfl, rfl⟩ := hTS2
          have htk := hPB.own.tokensAt (fun t ht => (hPB.fine t ht).held.ok)
          obtain ⟨b9, off9, rfl, ta, tr⟩ := htk 0 (by simp)
          have c0 := ta.c0
          have c1 := ta.c1
          have c2 := ta.c2
          have c3 := ta.c3
          simp only [List.getD_cons_zero, Nat.zero_mul, Nat.add_zero] at c0 c1 c2 c3 tr
          have hrl : rsu.length ≤ 9223372036854775807 := Nat.le_trans tr.le tr.room
          have HRA := hid tr.at_
          have hb8 := hb.trans ((hb7.mono (Nat.le_refl _)).trans (hPB.below.mono (Nat.le_trans hb.size hb7.size)))
          clear hpar hTS hPB htk ta tr hconv hb7
          simp only [List.length_cons, List.length_nil]
          go_wp2_with fail
          refine (matchOne_any 3 0 false ra rsu.length capu rsu hrl rfl c _ HRA.out).mono ?_
          rintro e w9 ⟨rfl, hb9⟩
          have hmo : mOne 3 0 false rsu c = (inR rsu c != false) := by simp [mOne]
          rw [hmo, HHI.out]
          clear hmo HHI
          cases hit
          · go_wp2_with fail
            go_ret
            exact ⟨rfl, HWB.out.trans ((hb8.trans (hb9.mono hb8.size)).mono (Nat.le_of_lt HWS.out))⟩
          · go_wp2_with fail
            go_ret
            exact ⟨rfl, HWB.out.trans ((hb8.trans (hb9.mono hb8.size)).mono (Nat.le_of_lt HWS.out))⟩
        | [], hTS2, _ => cases hTS2
        | _ :: _ :: _, hTS2, _ => simp at hTS2
  | true =>
    go_wp2_with (first
      | (at_builtin; refine wpList_appB1k w1 rfl (.tmp 25) (.tmp 26) 30 rfl Ybzm.underlying30 Ybzm.info5 W.heap.size _ ([] ++ [91]) (by rfl) HO1.out 33 _ rfl (by simp) (by simp) (by have := hb1.size; rw [← HWE.out] at this; exact this) ?_; intro v2 w2 hown2 hb2 _; have HO2 := hid hown2; clear hown2)
      | (at_builtin; refine wpList_appB1k _ rfl (.tmp 21) (.tmp 22) 30 rfl Ybzm.underlying30 Ybzm.info5 W.heap.size _ [] (by rfl) (OwnB.nil _ _) 91 _ rfl (by simp) (by simp) (by rw [HWE.out]; exact Nat.le_refl _) ?_; intro v1 w1 hown1 hb1 _; have HO1 := hid hown1; clear hown1))
    rw [← HWE.out] at hb1
    clear HWE HO1
    have HPL : Hid (∀ k, ([91] ++ bangs true ++ (S.take k).flatMap txtA).length ≤ 6000) := fun k => by
      have h1 := List.length_take_le k S
      have h2 := HSL.out
      rw [List.length_append, txtA_len]
      simp [bangs]; omega
    go_wp2_with fail
    go_loopg [9, 10, 11] (n + 1) (fun g v hv iv wr => ∃ k : Nat, g = n + 1 - k ∧ k ≤ n + 1 ∧ iv = .int .i64 k ∧ hv = .bool (inR (S.take k) c) ∧ OwnB wr W.heap.size v ([91] ++ bangs true ++ (S.take k).flatMap txtA) ∧ Below W.heap.size W wr)
    case atStart => exact ⟨0, rfl, Nat.zero_le _, rfl, rfl, by simpa [bangs] using HO2.out, hb1.trans hb2⟩
    case round =>
      clear HO2
      rename World => wA
      obtain ⟨k, rfl, hk, rfl, rfl, hown, hb⟩ := hrel
      have HO := hid hown
      have HLN := hid (HPL.out k)
      clear hown
      by_cases hkn : k < n + 1
      · have f0 := (hb.cell (p := ⟨w.heap.size, 0, none⟩) HWS.out).trans HF0.out
        have f1 := (hb.cell (p := ⟨w.heap.size, 1, none⟩) HWS.out).trans HF1.out
        have HSK := hid (HSG.out k hkn)
        have HTX := hid (txtA_take S k (by rw [HSL.out]; exact hkn))
        have HIN := hid (inR_take_succ S c k (by rw [HSL.out]; exact hkn))
        rw [HSK.out] at HTX HIN
        clear HSK
        generalize inR (S.take k) c = hit at *
        obtain ⟨X, hX⟩ : ∃ X, X = [91] ++ bangs true ++ (S.take k).flatMap txtA := ⟨_, rfl⟩
        rw [← hX] at HO HLN
        have HNX : Hid (∀ r, (S.take (k + 1)).flatMap txtA = (S.take k).flatMap txtA ++ txtA r → [91] ++ bangs true ++ (S.take (k + 1)).flatMap txtA = X ++ txtA r) := fun r h => by rw [h, hX]; simp only [List.append_assoc]
        clear hX
        have hbA := hb.alloc hb.size
        cases k with
        | zero =>
          have e0 : ((lo0, hi0) :: rs).getD 0 (0, 0) = (lo0, hi0) := rfl
          rw [e0] at HTX HIN
          clear e0
          rcases srt_cases (lo0, hi0) with ⟨hsw, hse⟩ | ⟨hsw, hse⟩
          · rw [hse] at HTX HIN
            simp only at hsw
            have HY := hid (HNX.out _ HTX.out)
            clear hse HTX HNX
            by_cases h1 : c.toNat < hi0.toNat
            · go_wp2_with (at_builtin; go_must (refine wpList_appB (wA.alloc (.cells #[.int .u8 lo0.toNat, .int .u8 hi0.toNat] 29)) rfl (.tmp 53) (.tmp 56) 30 rfl Ybzm.underlying30 Ybzm.info5 W.heap.size _ X (by rfl) (HO.out.alloc _) _ 5 5 [92, hi0, 45, 92, lo0] rfl rfl (by simp [Act.eval]) (by have := HLN.out; simp; omega) (hbA _).size ?_); intro v7 w7 hown7 hb7 _; have HO7 := hid hown7; clear hown7)
              go_roundg (n + 1 - (0 + 1))
              case rel => exact ⟨0 + 1, rfl, by omega, by go_num, val_of (by rw [HIN.out]; simp; omega), by rw [HY.out]; exact HO7.out, (hbA _).trans hb7⟩
              case measure => omega
            · by_cases h2 : lo0.toNat < c.toNat
              · go_wp2_with (at_builtin; go_must (refine wpList_appB (wA.alloc (.cells #[.int .u8 lo0.toNat, .int .u8 hi0.toNat] 29)) rfl (.tmp 53) (.tmp 56) 30 rfl Ybzm.underlying30 Ybzm.info5 W.heap.size _ X (by rfl) (HO.out.alloc _) _ 5 5 [92, hi0, 45, 92, lo0] rfl rfl (by simp [Act.eval]) (by have := HLN.out; simp; omega) (hbA _).size ?_); intro v7 w7 hown7 hb7 _; have HO7 := hid hown7; clear hown7)
                go_roundg (n + 1 - (0 + 1))
                case rel => exact ⟨0 + 1, rfl, by omega, by go_num, val_of (by rw [HIN.out]; simp; omega), by rw [HY.out]; exact HO7.out, (hbA _).trans hb7⟩
                case measure => omega
              · go_wp2_with (at_builtin; go_must (refine wpList_appB (wA.alloc (.cells #[.int .u8 lo0.toNat, .int .u8 hi0.toNat] 29)) rfl (.tmp 53) (.tmp 56) 30 rfl Ybzm.underlying30 Ybzm.info5 W.heap.size _ X (by rfl) (HO.out.alloc _) _ 5 5 [92, hi0, 45, 92, lo0] rfl rfl (by simp [Act.eval]) (by have := HLN.out; simp; omega) (hbA _).size ?_); intro v7 w7 hown7 hb7 _; have HO7 := hid hown7; clear hown7)
                go_roundg (n + 1 - (0 + 1))
                case rel => exact ⟨0 + 1, rfl, by omega, by go_num, val_of (by rw [HIN.out]; simp; omega), by rw [HY.out]; exact HO7.out, (hbA _).trans hb7⟩
                case measure => omega
          · rw [hse] at HTX HIN
            simp only at hsw
            have HY := hid (HNX.out _ HTX.out)
            clear hse HTX HNX
            by_cases h1 : c.toNat < lo0.toNat
            · go_wp2_with (at_builtin; go_must (refine wpList_appB (wA.alloc (.cells #[.int .u8 lo0.toNat, .int .u8 hi0.toNat] 29)) rfl (.tmp 53) (.tmp 56) 30 rfl Ybzm.underlying30 Ybzm.info5 W.heap.size _ X (by rfl) (HO.out.alloc _) _ 5 5 [92, lo0, 45, 92, hi0] rfl rfl (by simp [Act.eval]) (by have := HLN.out; simp; omega) (hbA _).size ?_); intro v7 w7 hown7 hb7 _; have HO7 := hid hown7; clear hown7)
              go_roundg (n + 1 - (0 + 1))
              case rel => exact ⟨0 + 1, rfl, by omega, by go_num, val_of (by rw [HIN.out]; simp; omega), by rw [HY.out]; exact HO7.out, (hbA _).trans hb7⟩
              case measure => omega
            · by_cases h2 : hi0.toNat < c.toNat
              · go_wp2_with (at_builtin; go_must (refine wpList_appB (wA.alloc (.cells #[.int .u8 lo0.toNat, .int .u8 hi0.toNat] 29)) rfl (.tmp 53) (.tmp 56) 30 rfl Ybzm.underlying30 Ybzm.info5 W.heap.size _ X (by rfl) (HO.out.alloc _) _ 5 5 [92, lo0, 45, 92, hi0] rfl rfl (by simp [Act.eval]) (by have := HLN.out; simp; omega) (hbA _).size ?_); intro v7 w7 hown7 hb7 _; have HO7 := hid hown7; clear hown7)
                go_roundg (n + 1 - (0 + 1))
                case rel => exact ⟨0 + 1, rfl, by omega, by go_num, val_of (by rw [HIN.out]; simp; omega), by rw [HY.out]; exact HO7.out, (hbA _).trans hb7⟩
                case measure => omega
              · go_wp2_with (at_builtin; go_must (refine wpList_appB (wA.alloc (.cells #[.int .u8 lo0.toNat, .int .u8 hi0.toNat] 29)) rfl (.tmp 53) (.tmp 56) 30 rfl Ybzm.underlying30 Ybzm.info5 W.heap.size _ X (by rfl) (HO.out.alloc _) _ 5 5 [92, lo0, 45, 92, hi0] rfl rfl (by simp [Act.eval]) (by have := HLN.out; simp; omega) (hbA _).size ?_); intro v7 w7 hown7 hb7 _; have HO7 := hid hown7; clear hown7)
                go_roundg (n + 1 - (0 + 1))
                case rel => exact ⟨0 + 1, rfl, by omega, by go_num, val_of (by rw [HIN.out]; simp; omega), by rw [HY.out]; exact HO7.out, (hbA _).trans hb7⟩
                case measure => omega
        | succ j =>
          have e0 : ((lo0, hi0) :: rs).getD (j + 1) (0, 0) = rs.getD j (0, 0) := rfl
          rw [e0] at HTX HIN
          obtain ⟨b2, off2, rfl, g0, g1⟩ := HRW.out j (by rw [HL.out]; omega)
          have q0 := (hb.cell (p := ⟨b2, off2 + j * 2, none⟩) (block_lt g0)).trans g0
          have q1 := (hb.cell (p := ⟨b2, off2 + j * 2 + 1, none⟩) (block_lt g1)).trans g1
          have hblt : b2 < wA.heap.size := block_lt q0
          generalize rs.getD j (0, 0) = r at q0 q1 HTX HIN
          obtain ⟨lo1, hi1⟩ := r
          simp only at q0 q1
          have p0 := ((Below.refl wA.heap.size wA).alloc (Nat.le_refl _) (.cells #[.int .u8 lo0.toNat, .int .u8 hi0.toNat] 29)).cell (p := ⟨b2, off2 + j * 2, none⟩) hblt |>.trans q0
          have p1 := ((Below.refl wA.heap.size wA).alloc (Nat.le_refl _) (.cells #[.int .u8 lo0.toNat, .int .u8 hi0.toNat] 29)).cell (p := ⟨b2, off2 + j * 2 + 1, none⟩) hblt |>.trans q1
          have ek : ((j + 1 : Nat) : Int) - 1 = j := by omega
          clear e0 g0 g1 q0 q1
          rcases srt_cases (lo1, hi1) with ⟨hsw, hse⟩ | ⟨hsw, hse⟩
          · rw [hse] at HTX HIN
            simp only at hsw
            have HY := hid (HNX.out _ HTX.out)
            clear hse HTX HNX
            by_cases h1 : c.toNat < hi1.toNat
            · go_wp2_with (at_builtin; go_must (refine wpList_appB (wA.alloc (.cells #[.int .u8 lo1.toNat, .int .u8 hi1.toNat] 29)) rfl (.tmp 53) (.tmp 56) 30 rfl Ybzm.underlying30 Ybzm.info5 W.heap.size _ X (by rfl) (HO.out.alloc _) _ 5 5 [92, hi1, 45, 92, lo1] rfl rfl (by simp [Act.eval]) (by have := HLN.out; simp; omega) (hbA _).size ?_); intro v7 w7 hown7 hb7 _; have HO7 := hid hown7; clear hown7)
              go_roundg (n + 1 - ((j + 1) + 1))
              case rel => exact ⟨(j + 1) + 1, rfl, by omega, by go_num, val_of (by rw [HIN.out]; simp; omega), by rw [HY.out]; exact HO7.out, (hbA _).trans hb7⟩
              case measure => omega
            · by_cases h2 : lo1.toNat < c.toNat
              · go_wp2_with (at_builtin; go_must (refine wpList_appB (wA.alloc (.cells #[.int .u8 lo1.toNat, .int .u8 hi1.toNat] 29)) rfl (.tmp 53) (.tmp 56) 30 rfl Ybzm.underlying30 Ybzm.info5 W.heap.size _ X (by rfl) (HO.out.alloc _) _ 5 5 [92, hi1, 45, 92, lo1] rfl rfl (by simp [Act.eval]) (by have := HLN.out; simp; omega) (hbA _).size ?_); intro v7 w7 hown7 hb7 _; have HO7 := hid hown7; clear hown7)
                go_roundg (n + 1 - ((j + 1) + 1))
                case rel => exact ⟨(j + 1) + 1, rfl, by omega, by go_num, val_of (by rw [HIN.out]; simp; omega), by rw [HY.out]; exact HO7.out, (hbA _).trans hb7⟩
                case measure => omega
              · go_wp2_with (at_builtin; go_must (refine wpList_appB (wA.alloc (.cells #[.int .u8 lo1.toNat, .int .u8 hi1.toNat] 29)) rfl (.tmp 53) (.tmp 56) 30 rfl Ybzm.underlying30 Ybzm.info5 W.heap.size _ X (by rfl) (HO.out.alloc _) _ 5 5 [92, hi1, 45, 92, lo1] rfl rfl (by simp [Act.eval]) (by have := HLN.out; simp; omega) (hbA _).size ?_); intro v7 w7 hown7 hb7 _; have HO7 := hid hown7; clear hown7)
                go_roundg (n + 1 - ((j + 1) + 1))
                case rel => exact ⟨(j + 1) + 1, rfl, by omega, by go_num, val_of (by rw [HIN.out]; simp; omega), by rw [HY.out]; exact HO7.out, (hbA _).trans hb7⟩
                case measure => omega
          · rw [hse] at HTX HIN
            simp only at hsw
            have HY := hid (HNX.out _ HTX.out)
            clear hse HTX HNX
            by_cases h1 : c.toNat < lo1.toNat
            · go_wp2_with (at_builtin; go_must (refine wpList_appB (wA.alloc (.cells #[.int .u8 lo1.toNat, .int .u8 hi1.toNat] 29)) rfl (.tmp 53) (.tmp 56) 30 rfl Ybzm.underlying30 Ybzm.info5 W.heap.size _ X (by rfl) (HO.out.alloc _) _ 5 5 [92, lo1, 45, 92, hi1] rfl rfl (by simp [Act.eval]) (by have := HLN.out; simp; omega) (hbA _).size ?_); intro v7 w7 hown7 hb7 _; have HO7 := hid hown7; clear hown7)
              go_roundg (n + 1 - ((j + 1) + 1))
              case rel => exact ⟨(j + 1) + 1, rfl, by omega, by go_num, val_of (by rw [HIN.out]; simp; omega), by rw [HY.out]; exact HO7.out, (hbA _).trans hb7⟩
              case measure => omega
            · by_cases h2 : hi1.toNat < c.toNat
              · go_wp2_with (at_builtin; go_must (refine wpList_appB (wA.alloc (.cells #[.int .u8 lo1.toNat, .int .u8 hi1.toNat] 29)) rfl (.tmp 53) (.tmp 56) 30 rfl Ybzm.underlying30 Ybzm.info5 W.heap.size _ X (by rfl) (HO.out.alloc _) _ 5 5 [92, lo1, 45, 92, hi1] rfl rfl (by simp [Act.eval]) (by have := HLN.out; simp; omega) (hbA _).size ?_); intro v7 w7 hown7 hb7 _; have HO7 := hid hown7; clear hown7)
                go_roundg (n + 1 - ((j + 1) + 1))
                case rel => exact ⟨(j + 1) + 1, rfl, by omega, by go_num, val_of (by rw [HIN.out]; simp; omega), by rw [HY.out]; exact HO7.out, (hbA _).trans hb7⟩
                case measure => omega
              · go_wp2_with (at_builtin; go_must (refine wpList_appB (wA.alloc (.cells #[.int .u8 lo1.toNat, .int .u8 hi1.toNat] 29)) rfl (.tmp 53) (.tmp 56) 30 rfl Ybzm.underlying30 Ybzm.info5 W.heap.size _ X (by rfl) (HO.out.alloc _) _ 5 5 [92, lo1, 45, 92, hi1] rfl rfl (by simp [Act.eval]) (by have := HLN.out; simp; omega) (hbA _).size ?_); intro v7 w7 hown7 hb7 _; have HO7 := hid hown7; clear hown7)
                go_roundg (n + 1 - ((j + 1) + 1))
                case rel => exact ⟨(j + 1) + 1, rfl, by omega, by go_num, val_of (by rw [HIN.out]; simp; omega), by rw [HY.out]; exact HO7.out, (hbA _).trans hb7⟩
                case measure => omega
      · have hkk : k = n + 1 := by omega
        have hst : S.take k = S := List.take_of_length_le (by rw [HSL.out]; omega)
        rw [hst] at HO HLN ⊢
        have HPP : Hid (parse ([91] ++ bangs true ++ S.flatMap txtA ++ [93]) = some [⟨3, 0, true, S⟩]) := parse_A true S HSO.out (by intro h; have := HSL.out; rw [h] at this; simp at this)
        generalize [91] ++ bangs true ++ S.flatMap txtA = X at HO HLN HPP
        generalize hhit : inR S c = hit
        have HHI := hid hhit
        clear hkk hst hhit
        go_wp2_with (at_builtin; go_must (refine wpList_appB1k wA rfl (.tmp 67) (.tmp 68) 30 rfl Ybzm.underlying30 Ybzm.info5 W.heap.size _ X (by rfl) HO.out 93 _ rfl (by simp) (by have := HLN.out; omega) hb.size ?_); intro v7 w7 hown7 hb7 _; have hconv := OwnB.conv (P := Ybzm.prog) hown7 30 Ybzm.underlying30 Ybzm.underlying5 9 Ybzm.underlying9; clear hown7)
        refine (parse_any (strOf (X ++ [93])) (by rw [strOf_size]; have := HLN.out; simp; omega) _).mono ?_
        rw [strOf_data]
        rintro e w8 (⟨hbad, rfl, _⟩ | ⟨TS, ao, cp, hpar, rfl, _, hPB⟩)
        · rw [HPP.out] at hbad; cases hbad
        have hTS := hpar
        rw [HPP.out] at hTS
        have hTS2 : TS.map Tk.pk = [⟨3, 0, true, S⟩] := (Option.some.inj hTS).symm
        match TS, hTS2, hPB with
        | [u], hTS2, hPB =>
          simp only [List.map_cons, List.map_nil, List.cons.injEq, and_true, Tk.pk, Pk.mk.injEq] at hTS2
          obtain ⟨kind, ch, ng, rsu, ra, capu⟩ := u
          simp only at hTS2
          obtain ⟨rfl, rfl, rfl, rfl⟩ := hTS2
          have htk := hPB.own.tokensAt (fun t ht => (hPB.fine t ht).held.ok)
          obtain ⟨b9, off9, rfl, ta, tr⟩ := htk 0 (by simp)
          have c0 := ta.c0
          have c1 := ta.c1
          have c2 := ta.c2
          have c3 := ta.c3
          simp only [List.getD_cons_zero, Nat.zero_mul, Nat.add_zero] at c0 c1 c2 c3 tr
          have hrl : rsu.length ≤ 9223372036854775807 := Nat.le_trans tr.le tr.room
          have HRA := hid tr.at_
          have hb8 := hb.trans ((hb7.mono (Nat.le_refl _)).trans (hPB.below.mono (Nat.le_trans hb.size hb7.size)))
          clear hpar hTS hPB htk ta tr hconv hb7
          simp only [List.length_cons, List.length_nil]
          go_wp2_with fail
          refine (matchOne_any 3 0 true ra rsu.length capu rsu hrl rfl c _ HRA.out).mono ?_
          rintro e w9 ⟨rfl, hb9⟩
          have hmo : mOne 3 0 true rsu c = (inR rsu c != true) := by simp [mOne]
          rw [hmo, HHI.out]
          clear hmo HHI
          cases hit
          · go_wp2_with fail
            go_ret
            exact ⟨rfl, HWB.out.trans ((hb8.trans (hb9.mono hb8.size)).mono (Nat.le_of_lt HWS.out))⟩
          · go_wp2_with fail
            go_ret
            exact ⟨rfl, HWB.out.trans ((hb8.trans (hb9.mono hb8.size)).mono (Nat.le_of_lt HWS.out))⟩
        | [], hTS2, _ => cases hTS2
        | _ :: _ :: _, hTS2, _ => simp at hTS2
end Go.Proofs.Ymbrbz

import Derived.Test.YmbrcbJSmall
import Derived.Test.YmbrcbReadClass
import Derived.Lib.SliceRun
namespace Go.Proofs.Ymbrcb
open Go.RowKit

theorem OwnB.kept {w w' : World} {base B : Nat} {v : Value} {bs : List UInt8} (h : OwnB w base v bs) (hb : Below B w w') (hB : w.heap.size ≤ B) : OwnB w' base v bs := by
  have hl := OwnB.block h
  refine ⟨h.1, ?_⟩
  rcases h.2 with h2 | ⟨g, cap, cur, hv', hg, hh, r⟩
  · exact .inl h2
  · exact .inr ⟨g, cap, cur, hv', hg, by rw [hb.block g (by have := (hl g (by rw [hv']; rfl)).2; omega)]; exact hh, r⟩

set_option maxHeartbeats 400000 in
theorem jzero_zero' (w : World) : Calls Ycbm.prog 14 #[.agg #[.int .i64 0, .int .u8 0, .bool false, .slice none 0 0]] w fun e w' => e = .returned (.bool true) ∧ Below w.heap.size w w' := by
  have qT : ∀ (w : World) (a : Option Addr) (n c n' c' : Nat), (binOp .eql 36 (.slice a n c) (.slice none n' c')).run Ycbm.prog w = .ok (.bool a.isNone) w := fun w a n c n' c' => Lib.run_eql_slice_nil w 36 43 a n c n' c' Ycbm.underlying36
  go_enter Ycbm.func14, Ycbm.ntmps14
  go_wp2
  go_ret
  exact ⟨rfl, (Below.refl _ _).alloc (Nat.le_refl _) _⟩

theorem bneu (x : UInt8) : ((x.toNat : Int) != (x.toNat : Int)) = false := by simp

theorem RangesAt.opens {w : World} {a : Option Addr} {rs : List (UInt8 × UInt8)} (hr : RangesAt w a rs) (h0 : rs ≠ []) :
    ∃ b off, a = some ⟨b, off, none⟩ ∧ ∀ k, k < rs.length → w.cell? ⟨b, off + k * 2, none⟩ = some (.int .u8 (rs.getD k (0, 0)).1.toNat) ∧ w.cell? ⟨b, off + k * 2 + 1, none⟩ = some (.int .u8 (rs.getD k (0, 0)).2.toNat) := by
  have hpos : 0 < rs.length := List.length_pos_iff.2 h0
  obtain ⟨b, off, ea, _, _⟩ := hr 0 hpos
  refine ⟨b, off, ea, fun k hk => ?_⟩
  obtain ⟨b', off', ea', g0, g1⟩ := hr k hk
  rw [ea] at ea'
  simp at ea'
  obtain ⟨rfl, rfl⟩ := ea'
  exact ⟨g0, g1⟩

def jtexts (l : List JIt) : List UInt8 := l.flatMap jtxt
theorem jtexts_succ (l : List JIt) (k : Nat) (hk : k < l.length) : jtexts (l.take (k + 1)) = jtexts (l.take k) ++ jtxt (l.getD k jnone) := by
  unfold jtexts
  rw [List.take_succ_eq_append_getElem hk, List.flatMap_append]
  simp [List.getD_eq_getElem?_getD, List.getElem?_eq_getElem hk]
theorem jtexts_len (l : List JIt) : (jtexts l).length ≤ 5 * l.length := by
  induction l with
  | nil => simp [jtexts]
  | cons c t ih =>
    have := jtxt_len c
    simp only [jtexts, List.flatMap_cons, List.length_append, List.length_cons] at *
    omega
def jits (l : List JIt) : List (UInt8 × UInt8 × List UInt8) := l.map fun it => (jlo it, jhi it, jtxt it)
theorem jits_txts (l : List JIt) : txts (jits l) = jtexts l := by simp [txts, jits, jtexts, List.flatMap_map]
theorem jits_bnds (l : List JIt) : bnds (jits l) = l.map fun it => (jlo it, jhi it) := by simp [bnds, jits]
theorem jits_ok (l : List JIt) : ∀ it ∈ jits l, ItemTxt it.1 it.2.1 it.2.2 := by
  intro it h
  simp only [jits, List.mem_map] at h
  obtain ⟨x, _, rfl⟩ := h
  exact jtxt_item x
theorem getD_bnds (l : List JIt) (k : Nat) (hk : k < l.length) : (l.map fun it => (jlo it, jhi it)).getD k (0, 0) = (jlo (l.getD k jnone), jhi (l.getD k jnone)) := by
  simp [List.getD_eq_getElem?_getD, List.getElem?_eq_getElem hk]
def bang (neg : Bool) : List UInt8 := if neg then [33] else []

set_option maxHeartbeats 8000000 in
set_option maxRecDepth 8000 in
theorem jround (w : World) (before : ByteArray) (hs : before.size ≤ 9223372036854775807) (neg : Bool) (a : Option Addr) (n cap : Nat) (its : List JIt) (hl : its.length = n) (hm : n ≤ cap ∧ cap ≤ 9223372036854775807) (hr : JItemsAt w a its) (after : ByteArray) (hs2 : after.size ≤ 9223372036854775807) :
    Calls Ycbm.prog 5 #[.string before, .bool neg, .slice a n cap, .string after] w fun e w' => e = .returned (.bool true) ∧ Below w.heap.size w w' := by
  have hn : n ≤ 9223372036854775807 := Nat.le_trans hm.1 hm.2
  clear hm
  by_cases hb1 : 1024 < before.size
  · go_enter Ycbm.func5, Ycbm.ntmps5
    go_wp2_with fail
    go_ret
    exact ⟨rfl, Below.refl _ _⟩
  have q1 : decide ((1024 : Int) < (before.size : Int)) = false := decide_eq_false (by omega)
  by_cases hb2 : 1024 < n
  · go_enter Ycbm.func5, Ycbm.ntmps5
    go_wp2_with fail
    go_ret
    exact ⟨rfl, Below.refl _ _⟩
  have q2 : decide ((1024 : Int) < (n : Int)) = false := decide_eq_false (by omega)
  by_cases hb3 : 1024 < after.size
  · go_enter Ycbm.func5, Ycbm.ntmps5
    go_wp2_with fail
    go_ret
    exact ⟨rfl, Below.refl _ _⟩
  have q3 : decide ((1024 : Int) < (after.size : Int)) = false := decide_eq_false (by omega)
  have HR := hid hr
  have HL := hid hl
  clear hr hl
  obtain ⟨bf, hbf⟩ : ∃ bf, bf = before.data.toList := ⟨_, rfl⟩
  have hbfl : bf.length = before.size := by rw [hbf]; simp
  have HBF := hid hbf
  have HBFL := hid hbfl
  obtain ⟨af, haf⟩ : ∃ af, af = after.data.toList := ⟨_, rfl⟩
  have hafl : af.length = after.size := by rw [haf]; simp
  have HAF := hid haf
  have HAFL := hid hafl
  have hjl := jtexts_len its
  rw [HL.out] at hjl
  have HJL := hid hjl
  clear hbf hbfl haf hafl hjl
  go_enter Ycbm.func5, Ycbm.ntmps5
  go_wp2_with fail
  go_loopg [9, 10] (before.size) (fun g v i wr => ∃ k : Nat, g = before.size - k ∧ k ≤ before.size ∧ i = .int .i64 k ∧ OwnB wr w.heap.size v (bf.take k) ∧ Below w.heap.size w wr)
  case atStart => exact ⟨0, rfl, Nat.zero_le _, rfl, OwnB.nil _ _, Below.refl _ _⟩
  case round =>
    obtain ⟨k, rfl, hk, rfl, hown, hb⟩ := hrel
    have HO := hid hown
    clear hown
    by_cases hks : k < before.size
    · have hts : bf.take (k + 1) = bf.take k ++ [before[k]] := by
        rw [HBF.out, List.take_succ_eq_append_getElem (by simpa using hks)]; rfl
      have HTS := hid hts
      have htl : (bf.take k).length ≤ 1024 := by have := List.length_take_le k bf; omega
      clear hts
      go_wp2_with (at_builtin; go_must (refine wpList_appB1 wr rfl (.tmp 41) (.tmp 45) 22 rfl Ycbm.underlying22 Ycbm.info5 w.heap.size _ _ (by rfl) HO.out _ rfl (by omega) hb.size ?_); intro v1 w1 hown1 hb1; rw [← HTS.out] at hown1; have HO1 := hid hown1; clear hown1)
      go_roundg (before.size - (k + 1))
      case rel => exact ⟨k + 1, rfl, by omega, by go_num, HO1.out, hb.trans hb1⟩
      case measure => omega
    · have hkk : bf.take k = bf := List.take_of_length_le (by rw [HBFL.out]; omega)
      have hown := HO.out
      rw [hkk] at hown
      have HO2 := hid hown
      clear hown hkk HO
      cases neg
      · go_wp2_with fail
        have HO3 : Hid (OwnB wr w.heap.size _ (bf ++ bang false ++ jtexts (its.take 0))) := hid (by simpa [bang, jtexts] using HO2.out)
        clear HO2 hks hk
        go_loopg [9, 11] n (fun g v i wr => ∃ k : Nat, g = n - k ∧ k ≤ n ∧ i = .int .i64 k ∧ OwnB wr w.heap.size v (bf ++ bang false ++ jtexts (its.take k)) ∧ Below w.heap.size w wr)
        case atStart => exact ⟨0, rfl, Nat.zero_le _, rfl, HO3.out, hb⟩
        case round =>
          clear HO3 hb
          obtain ⟨k, rfl, hk, rfl, hown, hb⟩ := hrel
          have HO := hid hown
          clear hown
          have htl : (bf ++ bang false ++ jtexts (its.take k)).length ≤ 7000 := by
            have h1 := jtexts_len (its.take k)
            have h2 := List.length_take_le k its
            have h3 : (bang false).length ≤ 1 := by simp [bang]
            simp only [List.length_append, HBFL.out]
            omega
          have HTL := hid htl
          by_cases hkn : k < n
          · obtain ⟨b, off, rfl, g0, g1, g2, g3, g4⟩ := HR.out k (by rw [HL.out]; exact hkn)
            have HS := hid (jtexts_succ its k (by rw [HL.out]; exact hkn))
            have hbl : b < w.heap.size := block_lt g0
            generalize its.getD k jnone = it at g0 g1 g2 g3 g4 HS
            obtain ⟨xa, xb, xs, xea, xeb⟩ := it
            have up : ∀ (W : World), Below w.heap.size w W → W.cell? ⟨b, off + k * 5, none⟩ = some (.int .u8 xa.toNat) ∧ W.cell? ⟨b, off + k * 5 + 1, none⟩ = some (.int .u8 xb.toNat) ∧ W.cell? ⟨b, off + k * 5 + 2, none⟩ = some (.bool xs) ∧ W.cell? ⟨b, off + k * 5 + 3, none⟩ = some (.bool xea) ∧ W.cell? ⟨b, off + k * 5 + 4, none⟩ = some (.bool xeb) := fun W h => ⟨(h.cell (p := ⟨b, off + k * 5, none⟩) hbl).trans g0, (h.cell (p := ⟨b, off + k * 5 + 1, none⟩) hbl).trans g1, (h.cell (p := ⟨b, off + k * 5 + 2, none⟩) hbl).trans g2, (h.cell (p := ⟨b, off + k * 5 + 3, none⟩) hbl).trans g3, (h.cell (p := ⟨b, off + k * 5 + 4, none⟩) hbl).trans g4⟩
            have UP := hid up
            clear g0 g1 g2 g3 g4 up htl
            obtain ⟨c0, c1, c2, c3, c4⟩ := UP.out wr hb
            go_wp2_with fail
            refine (jbounds_any (xa, xb, xs, xea, xeb) _).mono ?_
            rintro e w1 ⟨rfl, hb1⟩
            have hbw1 := hb.trans (hb1.mono hb.size)
            have HO1 := hid (OwnB.kept HO.out hb1 (Nat.le_refl _))
            clear c0 c1 c2 c3 c4
            obtain ⟨c0, c1, c2, c3, c4⟩ := UP.out w1 hbw1
            go_wp2_with fail
            refine (jput_any w.heap.size _ _ (jlo (xa, xb, xs, xea, xeb)) xea _ HO1.out hbw1.size (by have := HTL.out; omega)).mono ?_
            rintro e w2 ⟨v2, rfl, hown2, hb2⟩
            have hbw2 := hbw1.trans hb2
            have HO2 := hid hown2
            clear c0 c1 c2 c3 c4 hown2
            obtain ⟨c0, c1, c2, c3, c4⟩ := UP.out w2 hbw2
            cases xs
            · have HS2 : Hid (bf ++ bang false ++ jtexts (its.take (k + 1)) = bf ++ bang false ++ jtexts (its.take k) ++ jputs (jlo (xa, xb, false, xea, xeb)) xea ++ [45] ++ jputs (jhi (xa, xb, false, xea, xeb)) xeb) := hid (by rw [HS.out]; simp [jtxt])
              have hl2 := jputs_len (jlo (xa, xb, false, xea, xeb)) xea
              go_wp2_with (at_builtin; go_must (refine wpList_appB1 w2 rfl (.tmp 79) (.tmp 80) 22 rfl Ycbm.underlying22 Ycbm.info5 w.heap.size _ _ (by rfl) HO2.out 45 rfl (by rw [List.length_append]; have := HTL.out; omega) hbw2.size ?_); intro v3 w3 hown3 hb3; have HO3 := hid hown3; have hbw3 := hbw2.trans hb3; obtain ⟨d0, d1, d2, d3, d4⟩ := UP.out w3 hbw3; clear hown3 c0 c1 c2 c3 c4)
              refine (jput_any w.heap.size _ _ (jhi (xa, xb, false, xea, xeb)) xeb _ HO3.out hbw3.size (by rw [List.length_append, List.length_append]; have h1 := HTL.out; simp only [List.length_cons, List.length_nil]; omega)).mono ?_
              rintro e w4 ⟨v4, rfl, hown4, hb4⟩
              rw [← HS2.out] at hown4
              have HO4 := hid hown4
              have hbw4 := hbw3.trans hb4
              clear hown4 d0 d1 d2 d3 d4
              go_wp2_with fail
              go_roundg (n - (k + 1))
              case rel => exact ⟨k + 1, rfl, by omega, by go_num, HO4.out, hbw4⟩
              case measure => omega
            · have HS2 : Hid (bf ++ bang false ++ jtexts (its.take (k + 1)) = bf ++ bang false ++ jtexts (its.take k) ++ jputs (jlo (xa, xb, true, xea, xeb)) xea) := hid (by rw [HS.out]; simp [jtxt])
              have hown2 := HO2.out
              rw [← HS2.out] at hown2
              have HO4 := hid hown2
              clear hown2
              go_wp2_with fail
              go_roundg (n - (k + 1))
              case rel => exact ⟨k + 1, rfl, by omega, by go_num, HO4.out, hbw2⟩
              case measure => omega
          · have hkk : its.take k = its := List.take_of_length_le (by rw [HL.out]; omega)
            have hown := HO.out
            rw [hkk] at hown htl
            have HO2 := hid hown
            obtain ⟨T, hT⟩ : ∃ T, T = bf ++ bang false ++ jtexts its := ⟨_, rfl⟩
            rw [← hT] at HO2 htl
            have HT := hid hT
            clear hown hkk HO HTL hT
            go_wp2_with (at_builtin; go_must (refine wpList_appB1 wr rfl (.tmp 90) (.tmp 91) 22 rfl Ycbm.underlying22 Ycbm.info5 w.heap.size _ _ (by rfl) HO2.out 93 rfl (by omega) hb.size ?_); intro v1 w1 hown1 hb1; obtain ⟨ao, cp, hv, _⟩ := hown1.shape; have hTl : (T ++ [93]).length = T.length + 1 := (by simp); rw [hTl] at hv; have HV := hid hv; have HO3 := hid hown1; clear hown1 hv hTl; rw [HV.out])
            replace hb := hb.trans hb1
            have HO4 := HO3.out
            rw [HV.out] at HO4
            have HO5 := hid HO4
            clear hb1 HO2 HO3 HO4 hkn hk
            have HO6 : Hid (OwnB w1 w.heap.size (.slice ao (T.length + 1) cp) (T ++ [93] ++ af.take 0)) := hid (by simpa using HO5.out)
            clear HO5 HV
            go_loopg [9, 15] (after.size) (fun g v i wr => ∃ k : Nat, g = after.size - k ∧ k ≤ after.size ∧ i = .int .i64 k ∧ OwnB wr w.heap.size v (T ++ [93] ++ af.take k) ∧ Below w.heap.size w wr)
            case atStart => exact ⟨0, rfl, Nat.zero_le _, rfl, HO6.out, hb⟩
            case round =>
              clear HO6 hb
              obtain ⟨k, rfl, hk, rfl, hown, hb⟩ := hrel
              have HO := hid hown
              clear hown
              by_cases hka : k < after.size
              · have hts : T ++ [93] ++ af.take (k + 1) = T ++ [93] ++ af.take k ++ [after[k]] := by
                  rw [HAF.out, List.take_succ_eq_append_getElem (by simpa using hka), ← List.append_assoc]; rfl
                have HTS := hid hts
                have htl2 : (T ++ [93] ++ af.take k).length ≤ 9000 := by have := List.length_take_le k af; simp only [List.length_append, List.length_cons, List.length_nil]; omega
                clear hts
                go_wp2_with (at_builtin; go_must (refine wpList_appB1 wr rfl (.tmp 101) (.tmp 105) 22 rfl Ycbm.underlying22 Ycbm.info5 w.heap.size _ _ (by rfl) HO.out _ rfl (by omega) hb.size ?_); intro v1 w1 hown1 hb1; rw [← HTS.out] at hown1; have HO1 := hid hown1; clear hown1)
                go_roundg (after.size - (k + 1))
                case rel => exact ⟨k + 1, rfl, by omega, by go_num, HO1.out, hb.trans hb1⟩
                case measure => omega
              · have hkk : af.take k = af := List.take_of_length_le (by rw [HAFL.out]; omega)
                have hown := HO.out
                rw [hkk] at hown
                have hconv := OwnB.conv (P := Ycbm.prog) hown 22 Ycbm.underlying22 Ycbm.underlying5 9 Ycbm.underlying9
                have hss : (strOf (T ++ [93] ++ af)).size = T.length + 1 + after.size := by rw [strOf_size]; simp only [List.length_append, List.length_cons, List.length_nil, HAFL.out]
                have hdr : rdClass ((strOf (T ++ [93] ++ af)).data.toList.drop before.size) = if its = [] then none else some (false, its.map fun it => (jlo it, jhi it), af) := by
                  have h1 := rdClass_items false (jits its) (jits_ok its) af
                  rw [jits_txts, jits_bnds] at h1
                  have h2 : (jits its = []) ↔ its = [] := by simp [jits]
                  simp only [h2] at h1
                  rw [← h1, strOf_data, HT.out, ← HBFL.out]
                  congr 1
                  rw [List.append_assoc, List.append_assoc, List.append_assoc, List.drop_left' rfl]
                  simp [bang]
                generalize strOf (T ++ [93] ++ af) = s at hconv hss hdr
                have HDR := hid hdr
                have hsz : s.size ≤ 9000 := by omega
                have HSS := hid hss
                clear hown HO hkk hdr hss
                go_wp2_with fail
                clear hka hk
                refine (readClass_any s _ before.size rfl (by omega) (by have := HSS.out; have h2 : bf.length ≤ T.length := (by rw [HT.out]; simp only [List.length_append]; omega); rw [HBFL.out] at h2; omega) _).mono ?_
                rintro e w3 hc
                by_cases hi0 : its = []
                · rcases hc with ⟨hR2, rfl, hbc⟩ | ⟨neg', rs', r', v', hR2, _⟩
                  · have hn0 : n = 0 := by rw [← HL.out, hi0]; rfl
                    subst hn0
                    have t2 := hb.trans (hbc.mono hb.size)
                    go_wp2_with fail
                    refine (jzero_zero' _).mono ?_
                    rintro e w4 ⟨rfl, hb4⟩
                    go_wp2_with fail
                    go_ret
                    exact ⟨rfl, (t2.alloc t2.size _).trans (hb4.mono (t2.alloc t2.size _).size)⟩
                  · rw [HDR.out, if_pos hi0] at hR2; cases hR2
                · rcases hc with ⟨hR2, _⟩ | ⟨neg', rs', r', v', hR2, rfl, hoc, _, hbc⟩
                  · rw [HDR.out, if_neg hi0] at hR2; cases hR2
                  · rw [HDR.out, if_neg hi0] at hR2
                    simp only [Option.some.injEq, Prod.mk.injEq] at hR2
                    obtain ⟨e1, e2, e3⟩ := hR2
                    subst e1 e3
                    have hn0 : 0 < n := by rw [← HL.out]; exact List.length_pos_iff.2 hi0
                    have hnz : ((n : Int) == 0) = false := beq_eq_false_iff_ne.2 (by omega)
                    have t2 := hb.trans (hbc.mono hb.size)
                    have hrl : rs'.length = n := by rw [← e2]; simp [HL.out]
                    have hne : rs' ≠ [] := by intro h; rw [h] at hrl; simp at hrl; omega
                    obtain ⟨ao3, cp3, hv3, hcp3, hcp3', hba3⟩ := hoc.shape
                    rw [hrl] at hv3
                    rw [hv3]
                    have hend : s.size - af.length = T.length + 1 := by have := HSS.out; rw [HAFL.out]; omega
                    rw [hend]
                    obtain ⟨b3, off3, h3, hc3⟩ := hba3.opens hne
                    rw [h3]
                    have HC3 : Hid (∀ k, k < n → w3.cell? ⟨b3, off3 + k * 2, none⟩ = some (.int .u8 (jlo (its.getD k jnone)).toNat) ∧ w3.cell? ⟨b3, off3 + k * 2 + 1, none⟩ = some (.int .u8 (jhi (its.getD k jnone)).toNat)) := by
                      intro k hk
                      have := hc3 k (by rw [hrl]; exact hk)
                      rw [← e2, getD_bnds its k (by rw [HL.out]; exact hk)] at this
                      exact this
                    have HB3 := hid (block_new w3 #[.int .i64 3, .int .u8 0, .bool false, .slice (some ⟨b3, off3, none⟩) n cp3] 38)
                    clear hoc hv3 hba3 hcp3 hcp3' h3 hc3 e2 hend hconv HDR
                    go_wp2_with fail
                    go_loopg [19] n (fun g i wr => ∃ k : Nat, g = n - k ∧ k ≤ n ∧ i = .int .i64 k ∧ Below (w3.heap.size + 1) (w3.alloc (.cells #[.int .i64 3, .int .u8 0, .bool false, .slice (some ⟨b3, off3, none⟩) n cp3] 38)) wr)
                    case atStart => exact ⟨0, rfl, Nat.zero_le _, rfl, Below.refl _ _⟩
                    case round =>
                      obtain ⟨k, rfl, hk, rfl, hbr⟩ := hrel
                      have t3 := t2.alloc t2.size (.cells #[.int .i64 3, .int .u8 0, .bool false, .slice (some ⟨b3, off3, none⟩) n cp3] 38)
                      have t4 := t3.trans (hbr.mono (by have := t2.size; omega))
                      by_cases hkn : k < n
                      · obtain ⟨b, off, rfl, g0, g1, g2, g3, g4⟩ := HR.out k (by rw [HL.out]; exact hkn)
                        have hbl : b < w.heap.size := block_lt g0
                        obtain ⟨k0, k1⟩ := HC3.out k hkn
                        have hl3 : b3 < w3.heap.size := block_lt k0
                        generalize its.getD k jnone = it at g0 g1 g2 g3 g4 k0 k1
                        obtain ⟨xa, xb, xs, xea, xeb⟩ := it
                        have c0 := (t4.cell (p := ⟨b, off + k * 5, none⟩) hbl).trans g0
                        have c1 := (t4.cell (p := ⟨b, off + k * 5 + 1, none⟩) hbl).trans g1
                        have c2 := (t4.cell (p := ⟨b, off + k * 5 + 2, none⟩) hbl).trans g2
                        have c3 := (t4.cell (p := ⟨b, off + k * 5 + 3, none⟩) hbl).trans g3
                        have c4 := (t4.cell (p := ⟨b, off + k * 5 + 4, none⟩) hbl).trans g4
                        have HK0 := hid k0
                        have HK1 := hid k1
                        clear g0 g1 g2 g3 g4 k0 k1
                        go_wp2_with fail
                        refine (jbounds_any (xa, xb, xs, xea, xeb) _).mono ?_
                        rintro e w5 ⟨rfl, hb5⟩
                        generalize jlo (xa, xb, xs, xea, xeb) = lo at HK0 ⊢
                        generalize jhi (xa, xb, xs, xea, xeb) = hi at HK1 ⊢
                        have hbr2 := hbr.trans (hb5.mono (by have := hbr.size; simp at this; omega))
                        have up : ∀ (o : Nat) (x : Value), w3.cell? ⟨b3, o, none⟩ = some x → w5.cell? ⟨b3, o, none⟩ = some x := by
                          intro o x h
                          rw [hbr2.cell (p := ⟨b3, o, none⟩) (show b3 < w3.heap.size + 1 by omega), ((Below.refl w3.heap.size w3).alloc (Nat.le_refl _) _).cell (p := ⟨b3, o, none⟩) hl3]
                          exact h
                        have d0 := up _ _ HK0.out
                        have d1 := up _ _ HK1.out
                        have B4 := block_below hbr2 HB3.out (by omega)
                        have tz := cell_block B4 3
                        simp only [List.getElem?_toArray, List.getElem?_cons_zero, List.getElem?_cons_succ] at tz
                        have nx := bneu lo
                        have ny := bneu hi
                        clear up B4 c0 c1 c2 c3 c4
                        go_wp2_with fail
                        go_roundg (n - (k + 1))
                        case rel => exact ⟨k + 1, rfl, by omega, by go_num, hbr2⟩
                        case measure => omega
                      · go_wp2_with fail
                        go_ret
                        exact ⟨rfl, t4⟩
      · go_wp2_with (at_builtin; go_must (refine wpList_appB1 wr rfl (.tmp 48) (.tmp 49) 22 rfl Ycbm.underlying22 Ycbm.info5 w.heap.size _ _ (by rfl) HO2.out 33 rfl (by rw [HBFL.out]; omega) hb.size ?_); intro v1 w1 hown1 hb1; have HO3 : Hid (OwnB w1 w.heap.size v1 (bf ++ bang true ++ jtexts (its.take 0))) := hid (by simpa [bang, jtexts] using hown1); clear hown1)
        replace hb := hb.trans hb1
        clear HO2 hks hk hb1
        go_loopg [9, 11] n (fun g v i wr => ∃ k : Nat, g = n - k ∧ k ≤ n ∧ i = .int .i64 k ∧ OwnB wr w.heap.size v (bf ++ bang true ++ jtexts (its.take k)) ∧ Below w.heap.size w wr)
        case atStart => exact ⟨0, rfl, Nat.zero_le _, rfl, HO3.out, hb⟩
        case round =>
          clear HO3 hb
          obtain ⟨k, rfl, hk, rfl, hown, hb⟩ := hrel
          have HO := hid hown
          clear hown
          have htl : (bf ++ bang true ++ jtexts (its.take k)).length ≤ 7000 := by
            have h1 := jtexts_len (its.take k)
            have h2 := List.length_take_le k its
            have h3 : (bang true).length ≤ 1 := by simp [bang]
            simp only [List.length_append, HBFL.out]
            omega
          have HTL := hid htl
          by_cases hkn : k < n
          · obtain ⟨b, off, rfl, g0, g1, g2, g3, g4⟩ := HR.out k (by rw [HL.out]; exact hkn)
            have HS := hid (jtexts_succ its k (by rw [HL.out]; exact hkn))
            have hbl : b < w.heap.size := block_lt g0
            generalize its.getD k jnone = it at g0 g1 g2 g3 g4 HS
            obtain ⟨xa, xb, xs, xea, xeb⟩ := it
            have up : ∀ (W : World), Below w.heap.size w W → W.cell? ⟨b, off + k * 5, none⟩ = some (.int .u8 xa.toNat) ∧ W.cell? ⟨b, off + k * 5 + 1, none⟩ = some (.int .u8 xb.toNat) ∧ W.cell? ⟨b, off + k * 5 + 2, none⟩ = some (.bool xs) ∧ W.cell? ⟨b, off + k * 5 + 3, none⟩ = some (.bool xea) ∧ W.cell? ⟨b, off + k * 5 + 4, none⟩ = some (.bool xeb) := fun W h => ⟨(h.cell (p := ⟨b, off + k * 5, none⟩) hbl).trans g0, (h.cell (p := ⟨b, off + k * 5 + 1, none⟩) hbl).trans g1, (h.cell (p := ⟨b, off + k * 5 + 2, none⟩) hbl).trans g2, (h.cell (p := ⟨b, off + k * 5 + 3, none⟩) hbl).trans g3, (h.cell (p := ⟨b, off + k * 5 + 4, none⟩) hbl).trans g4⟩
            have UP := hid up
            clear g0 g1 g2 g3 g4 up htl
            obtain ⟨c0, c1, c2, c3, c4⟩ := UP.out wr hb
            go_wp2_with fail
            refine (jbounds_any (xa, xb, xs, xea, xeb) _).mono ?_
            rintro e w1 ⟨rfl, hb1⟩
            have hbw1 := hb.trans (hb1.mono hb.size)
            have HO1 := hid (OwnB.kept HO.out hb1 (Nat.le_refl _))
            clear c0 c1 c2 c3 c4
            obtain ⟨c0, c1, c2, c3, c4⟩ := UP.out w1 hbw1
            go_wp2_with fail
            refine (jput_any w.heap.size _ _ (jlo (xa, xb, xs, xea, xeb)) xea _ HO1.out hbw1.size (by have := HTL.out; omega)).mono ?_
            rintro e w2 ⟨v2, rfl, hown2, hb2⟩
            have hbw2 := hbw1.trans hb2
            have HO2 := hid hown2
            clear c0 c1 c2 c3 c4 hown2
            obtain ⟨c0, c1, c2, c3, c4⟩ := UP.out w2 hbw2
            cases xs
            · have HS2 : Hid (bf ++ bang true ++ jtexts (its.take (k + 1)) = bf ++ bang true ++ jtexts (its.take k) ++ jputs (jlo (xa, xb, false, xea, xeb)) xea ++ [45] ++ jputs (jhi (xa, xb, false, xea, xeb)) xeb) := hid (by rw [HS.out]; simp [jtxt])
              have hl2 := jputs_len (jlo (xa, xb, false, xea, xeb)) xea
              go_wp2_with (at_builtin; go_must (refine wpList_appB1 w2 rfl (.tmp 79) (.tmp 80) 22 rfl Ycbm.underlying22 Ycbm.info5 w.heap.size _ _ (by rfl) HO2.out 45 rfl (by rw [List.length_append]; have := HTL.out; omega) hbw2.size ?_); intro v3 w3 hown3 hb3; have HO3 := hid hown3; have hbw3 := hbw2.trans hb3; obtain ⟨d0, d1, d2, d3, d4⟩ := UP.out w3 hbw3; clear hown3 c0 c1 c2 c3 c4)
              refine (jput_any w.heap.size _ _ (jhi (xa, xb, false, xea, xeb)) xeb _ HO3.out hbw3.size (by rw [List.length_append, List.length_append]; have h1 := HTL.out; simp only [List.length_cons, List.length_nil]; omega)).mono ?_
              rintro e w4 ⟨v4, rfl, hown4, hb4⟩
              rw [← HS2.out] at hown4
              have HO4 := hid hown4
              have hbw4 := hbw3.trans hb4
              clear hown4 d0 d1 d2 d3 d4
              go_wp2_with fail
              go_roundg (n - (k + 1))
              case rel => exact ⟨k + 1, rfl, by omega, by go_num, HO4.out, hbw4⟩
              case measure => omega
            · have HS2 : Hid (bf ++ bang true ++ jtexts (its.take (k + 1)) = bf ++ bang true ++ jtexts (its.take k) ++ jputs (jlo (xa, xb, true, xea, xeb)) xea) := hid (by rw [HS.out]; simp [jtxt])
              have hown2 := HO2.out
              rw [← HS2.out] at hown2
              have HO4 := hid hown2
              clear hown2
              go_wp2_with fail
              go_roundg (n - (k + 1))
              case rel => exact ⟨k + 1, rfl, by omega, by go_num, HO4.out, hbw2⟩
              case measure => omega
          · have hkk : its.take k = its := List.take_of_length_le (by rw [HL.out]; omega)
            have hown := HO.out
            rw [hkk] at hown htl
            have HO2 := hid hown
            obtain ⟨T, hT⟩ : ∃ T, T = bf ++ bang true ++ jtexts its := ⟨_, rfl⟩
            rw [← hT] at HO2 htl
            have HT := hid hT
            clear hown hkk HO HTL hT
            go_wp2_with (at_builtin; go_must (refine wpList_appB1 wr rfl (.tmp 90) (.tmp 91) 22 rfl Ycbm.underlying22 Ycbm.info5 w.heap.size _ _ (by rfl) HO2.out 93 rfl (by omega) hb.size ?_); intro v1 w1 hown1 hb1; obtain ⟨ao, cp, hv, _⟩ := hown1.shape; have hTl : (T ++ [93]).length = T.length + 1 := (by simp); rw [hTl] at hv; have HV := hid hv; have HO3 := hid hown1; clear hown1 hv hTl; rw [HV.out])
            replace hb := hb.trans hb1
            have HO4 := HO3.out
            rw [HV.out] at HO4
            have HO5 := hid HO4
            clear hb1 HO2 HO3 HO4 hkn hk
            have HO6 : Hid (OwnB w1 w.heap.size (.slice ao (T.length + 1) cp) (T ++ [93] ++ af.take 0)) := hid (by simpa using HO5.out)
            clear HO5 HV
            go_loopg [9, 15] (after.size) (fun g v i wr => ∃ k : Nat, g = after.size - k ∧ k ≤ after.size ∧ i = .int .i64 k ∧ OwnB wr w.heap.size v (T ++ [93] ++ af.take k) ∧ Below w.heap.size w wr)
            case atStart => exact ⟨0, rfl, Nat.zero_le _, rfl, HO6.out, hb⟩
            case round =>
              clear HO6 hb
              obtain ⟨k, rfl, hk, rfl, hown, hb⟩ := hrel
              have HO := hid hown
              clear hown
              by_cases hka : k < after.size
              · have hts : T ++ [93] ++ af.take (k + 1) = T ++ [93] ++ af.take k ++ [after[k]] := by
                  rw [HAF.out, List.take_succ_eq_append_getElem (by simpa using hka), ← List.append_assoc]; rfl
                have HTS := hid hts
                have htl2 : (T ++ [93] ++ af.take k).length ≤ 9000 := by have := List.length_take_le k af; simp only [List.length_append, List.length_cons, List.length_nil]; omega
                clear hts
                go_wp2_with (at_builtin; go_must (refine wpList_appB1 wr rfl (.tmp 101) (.tmp 105) 22 rfl Ycbm.underlying22 Ycbm.info5 w.heap.size _ _ (by rfl) HO.out _ rfl (by omega) hb.size ?_); intro v1 w1 hown1 hb1; rw [← HTS.out] at hown1; have HO1 := hid hown1; clear hown1)
                go_roundg (after.size - (k + 1))
                case rel => exact ⟨k + 1, rfl, by omega, by go_num, HO1.out, hb.trans hb1⟩
                case measure => omega
              · have hkk : af.take k = af := List.take_of_length_le (by rw [HAFL.out]; omega)
                have hown := HO.out
                rw [hkk] at hown
                have hconv := OwnB.conv (P := Ycbm.prog) hown 22 Ycbm.underlying22 Ycbm.underlying5 9 Ycbm.underlying9
                have hss : (strOf (T ++ [93] ++ af)).size = T.length + 1 + after.size := by rw [strOf_size]; simp only [List.length_append, List.length_cons, List.length_nil, HAFL.out]
                have hdr : rdClass ((strOf (T ++ [93] ++ af)).data.toList.drop before.size) = if its = [] then none else some (true, its.map fun it => (jlo it, jhi it), af) := by
                  have h1 := rdClass_items true (jits its) (jits_ok its) af
                  rw [jits_txts, jits_bnds] at h1
                  have h2 : (jits its = []) ↔ its = [] := by simp [jits]
                  simp only [h2] at h1
                  rw [← h1, strOf_data, HT.out, ← HBFL.out]
                  congr 1
                  rw [List.append_assoc, List.append_assoc, List.append_assoc, List.drop_left' rfl]
                  simp [bang]
                generalize strOf (T ++ [93] ++ af) = s at hconv hss hdr
                have HDR := hid hdr
                have hsz : s.size ≤ 9000 := by omega
                have HSS := hid hss
                clear hown HO hkk hdr hss
                go_wp2_with fail
                clear hka hk
                refine (readClass_any s _ before.size rfl (by omega) (by have := HSS.out; have h2 : bf.length ≤ T.length := (by rw [HT.out]; simp only [List.length_append]; omega); rw [HBFL.out] at h2; omega) _).mono ?_
                rintro e w3 hc
                by_cases hi0 : its = []
                · rcases hc with ⟨hR2, rfl, hbc⟩ | ⟨neg', rs', r', v', hR2, _⟩
                  · have hn0 : n = 0 := by rw [← HL.out, hi0]; rfl
                    subst hn0
                    have t2 := hb.trans (hbc.mono hb.size)
                    go_wp2_with fail
                    refine (jzero_zero' _).mono ?_
                    rintro e w4 ⟨rfl, hb4⟩
                    go_wp2_with fail
                    go_ret
                    exact ⟨rfl, (t2.alloc t2.size _).trans (hb4.mono (t2.alloc t2.size _).size)⟩
                  · rw [HDR.out, if_pos hi0] at hR2; cases hR2
                · rcases hc with ⟨hR2, _⟩ | ⟨neg', rs', r', v', hR2, rfl, hoc, _, hbc⟩
                  · rw [HDR.out, if_neg hi0] at hR2; cases hR2
                  · rw [HDR.out, if_neg hi0] at hR2
                    simp only [Option.some.injEq, Prod.mk.injEq] at hR2
                    obtain ⟨e1, e2, e3⟩ := hR2
                    subst e1 e3
                    have hn0 : 0 < n := by rw [← HL.out]; exact List.length_pos_iff.2 hi0
                    have hnz : ((n : Int) == 0) = false := beq_eq_false_iff_ne.2 (by omega)
                    have t2 := hb.trans (hbc.mono hb.size)
                    have hrl : rs'.length = n := by rw [← e2]; simp [HL.out]
                    have hne : rs' ≠ [] := by intro h; rw [h] at hrl; simp at hrl; omega
                    obtain ⟨ao3, cp3, hv3, hcp3, hcp3', hba3⟩ := hoc.shape
                    rw [hrl] at hv3
                    rw [hv3]
                    have hend : s.size - af.length = T.length + 1 := by have := HSS.out; rw [HAFL.out]; omega
                    rw [hend]
                    obtain ⟨b3, off3, h3, hc3⟩ := hba3.opens hne
                    rw [h3]
                    have HC3 : Hid (∀ k, k < n → w3.cell? ⟨b3, off3 + k * 2, none⟩ = some (.int .u8 (jlo (its.getD k jnone)).toNat) ∧ w3.cell? ⟨b3, off3 + k * 2 + 1, none⟩ = some (.int .u8 (jhi (its.getD k jnone)).toNat)) := by
                      intro k hk
                      have := hc3 k (by rw [hrl]; exact hk)
                      rw [← e2, getD_bnds its k (by rw [HL.out]; exact hk)] at this
                      exact this
                    have HB3 := hid (block_new w3 #[.int .i64 3, .int .u8 0, .bool true, .slice (some ⟨b3, off3, none⟩) n cp3] 38)
                    clear hoc hv3 hba3 hcp3 hcp3' h3 hc3 e2 hend hconv HDR
                    go_wp2_with fail
                    go_loopg [19] n (fun g i wr => ∃ k : Nat, g = n - k ∧ k ≤ n ∧ i = .int .i64 k ∧ Below (w3.heap.size + 1) (w3.alloc (.cells #[.int .i64 3, .int .u8 0, .bool true, .slice (some ⟨b3, off3, none⟩) n cp3] 38)) wr)
                    case atStart => exact ⟨0, rfl, Nat.zero_le _, rfl, Below.refl _ _⟩
                    case round =>
                      obtain ⟨k, rfl, hk, rfl, hbr⟩ := hrel
                      have t3 := t2.alloc t2.size (.cells #[.int .i64 3, .int .u8 0, .bool true, .slice (some ⟨b3, off3, none⟩) n cp3] 38)
                      have t4 := t3.trans (hbr.mono (by have := t2.size; omega))
                      by_cases hkn : k < n
                      · obtain ⟨b, off, rfl, g0, g1, g2, g3, g4⟩ := HR.out k (by rw [HL.out]; exact hkn)
                        have hbl : b < w.heap.size := block_lt g0
                        obtain ⟨k0, k1⟩ := HC3.out k hkn
                        have hl3 : b3 < w3.heap.size := block_lt k0
                        generalize its.getD k jnone = it at g0 g1 g2 g3 g4 k0 k1
                        obtain ⟨xa, xb, xs, xea, xeb⟩ := it
                        have c0 := (t4.cell (p := ⟨b, off + k * 5, none⟩) hbl).trans g0
                        have c1 := (t4.cell (p := ⟨b, off + k * 5 + 1, none⟩) hbl).trans g1
                        have c2 := (t4.cell (p := ⟨b, off + k * 5 + 2, none⟩) hbl).trans g2
                        have c3 := (t4.cell (p := ⟨b, off + k * 5 + 3, none⟩) hbl).trans g3
                        have c4 := (t4.cell (p := ⟨b, off + k * 5 + 4, none⟩) hbl).trans g4
                        have HK0 := hid k0
                        have HK1 := hid k1
                        clear g0 g1 g2 g3 g4 k0 k1
                        go_wp2_with fail
                        refine (jbounds_any (xa, xb, xs, xea, xeb) _).mono ?_
                        rintro e w5 ⟨rfl, hb5⟩
                        generalize jlo (xa, xb, xs, xea, xeb) = lo at HK0 ⊢
                        generalize jhi (xa, xb, xs, xea, xeb) = hi at HK1 ⊢
                        have hbr2 := hbr.trans (hb5.mono (by have := hbr.size; simp at this; omega))
                        have up : ∀ (o : Nat) (x : Value), w3.cell? ⟨b3, o, none⟩ = some x → w5.cell? ⟨b3, o, none⟩ = some x := by
                          intro o x h
                          rw [hbr2.cell (p := ⟨b3, o, none⟩) (show b3 < w3.heap.size + 1 by omega), ((Below.refl w3.heap.size w3).alloc (Nat.le_refl _) _).cell (p := ⟨b3, o, none⟩) hl3]
                          exact h
                        have d0 := up _ _ HK0.out
                        have d1 := up _ _ HK1.out
                        have B4 := block_below hbr2 HB3.out (by omega)
                        have tz := cell_block B4 3
                        simp only [List.getElem?_toArray, List.getElem?_cons_zero, List.getElem?_cons_succ] at tz
                        have nx := bneu lo
                        have ny := bneu hi
                        clear up B4 c0 c1 c2 c3 c4
                        go_wp2_with fail
                        go_roundg (n - (k + 1))
                        case rel => exact ⟨k + 1, rfl, by omega, by go_num, hbr2⟩
                        case measure => omega
                      · go_wp2_with fail
                        go_ret
                        exact ⟨rfl, t4⟩
end Go.Proofs.Ymbrcb

import Derived.Test.YmbrbzBAccepts
import Derived.Test.YmbrbzBEat
namespace Go.Proofs.Ymbrbz
open Go.RowKit

theorem Ybzm.infoRangeB : (Ybzm.prog.info? 29).map (fun i => (i.zero, i.size, i.bytes)) = some (some (.agg #[.int .u8 0, .int .u8 0]), 2, 2) := by kernel_rfl

/-- A token's ranges, and where: older memory, or a row of ranges. -/
structure Lies (w : World) (base : Nat) (t : Tk) : Prop where
  ok : RsOk w t
  firm : t.rs ≠ [] → ∀ b off s, t.ra = some ⟨b, off, s⟩ → b < base ∨ ∃ cs m, w.heap[b]? = some (.cells cs 29 m)

theorem Lies.turn {w w' : World} {base : Nat} {t : Tk} (h : Lies w base t) (h1 : ∀ b, b < base → w'.heap[b]? = w.heap[b]?) (h2 : ∀ (b : Nat) (cs : Array Value) (m : Nat × Nat), w.heap[b]? = some (Obj.cells cs 29 m) → w'.heap[b]? = some (Obj.cells cs 29 m)) : Lies w' base t := by
  by_cases h0 : t.rs = []
  · exact ⟨⟨h.ok.le, h.ok.room, h.ok.lo, h.ok.hi, fun k hk => absurd hk (by rw [h0]; exact Nat.not_lt_zero _)⟩, fun q => absurd h0 q⟩
  have key : ∀ b off s, t.ra = some ⟨b, off, s⟩ → w'.heap[b]? = w.heap[b]? := by
    intro b off s e
    rcases h.firm h0 b off s e with hb | ⟨cs, m, hc⟩
    · exact h1 b hb
    · rw [h2 b cs m hc, hc]
  refine ⟨⟨h.ok.le, h.ok.room, h.ok.lo, h.ok.hi, h.ok.at_.block key⟩, ?_⟩
  intro q b off s e
  rcases h.firm q b off s e with hb | ⟨cs, m, hc⟩
  · exact .inl hb
  · exact .inr ⟨cs, m, h2 b cs m hc⟩

theorem Lies.below {w w' : World} {base : Nat} {t : Tk} (h : Lies w base t) (hb : Below w.heap.size w w') (hB : base ≤ w.heap.size) : Lies w' base t :=
  h.turn (fun b hlt => hb.block b (by omega)) (fun b cs m e => by rw [hb.block b (Array.getElem?_eq_some_iff.1 e).1]; exact e)

theorem Lies.grown {w0 w' : World} {base : Nat} {e' : TypeId} {size : Nat} {v : Value} {n : Nat} {xs : List Value} {o : Obj} (ho : w0.ownsRow base e' size v n xs) (hg : (w0.alloc o).grownBy w' v.ownBlock) (hb : Below base w0 w') (he : 29 ≠ e') {t : Tk} (h : Lies w0 base t) : Lies w' base t :=
  h.turn (fun b hlt => hb.block b hlt) (fun _ _ _ e => keepBlock ho hg e he)

theorem Lies.of_held {w : World} {base : Nat} {t : Tk} (h : Held w base t) : Lies w base t := ⟨h.ok, fun _ => h.firm⟩

theorem Lies.old {w : World} {t : Tk} (h : RsOk w t) : Lies w w.heap.size t := by
  refine ⟨h, fun q b off s e => .inl ?_⟩
  obtain ⟨b', off', e', g, _⟩ := h.at_ 0 (List.length_pos_iff.2 q)
  rw [e] at e'
  simp only [Option.some.injEq, Addr.mk.injEq] at e'
  have := block_lt g
  simp only at this
  omega

/-- A token that can be printed, its ranges in memory. -/
structure Fine (w : World) (B : Nat) (t : Tk) : Prop where
  held : Lies w B t
  ok : okT t = true
  small : t.rs.length ≤ 1025

theorem OwnR.held {w : World} {base B : Nat} {ao : Option Addr} {n cp : Nat} {rs : List (UInt8 × UInt8)} (h : OwnR w base (.slice ao n cp) rs) (kind : Int) (ch : UInt8) (neg : Bool) (h1 : -9223372036854775808 ≤ kind) (h2 : kind ≤ 9223372036854775807) : Held w B ⟨kind, ch, neg, rs, ao, cp⟩ := by
  obtain ⟨ao', cap, e, g1, g2, g3⟩ := h.shape
  simp only [Value.slice.injEq] at e
  obtain ⟨rfl, _, rfl⟩ := e
  refine ⟨⟨g1, g2, h1, h2, g3⟩, ?_⟩
  intro b off s e
  simp only at e
  obtain ⟨hl, h | ⟨g, cap', cur, e2, hb, hg, hc, hm, hs, ht⟩⟩ := h
  · obtain ⟨e3, _⟩ := h
    simp only [Value.slice.injEq] at e3
    rw [e3.1] at e
    cases e
  · simp only [Value.slice.injEq] at e2
    rw [e2.1] at e
    simp only [Option.some.injEq, Addr.mk.injEq] at e
    rw [← e.1]
    exact .inr ⟨_, _, hg⟩

theorem Fine.below {w w' : World} {base : Nat} {t : Tk} (h : Fine w base t) (hb : Below w.heap.size w w') (hB : base ≤ w.heap.size) : Fine w' base t := ⟨h.held.below hb hB, h.ok, h.small⟩

/-- What the outer loop has. -/
structure BB (w wr : World) (B : Nat) (v : Value) (ts : List Tk) : Prop where
  own : OwnT wr B v ts
  fine : ∀ t ∈ ts, Fine wr B t
  below : Below B w wr

theorem BB.step {w w0 w1 : World} {B : Nat} {v v1 : Value} {ts : List Tk} {o : Obj} {t : Tk} (hO : OwnT w0 B v ts) (hH : ∀ t ∈ ts, Fine w0 B t) (hb : Below B w w0) (ht : Fine w0 B t)
    (hg : (w0.alloc o).grownBy w1 v.ownBlock) (hb1 : Below B w0 w1) (ho : OwnT w1 B v1 (ts ++ [t])) : BB w w1 B v1 (ts ++ [t]) := by
  refine ⟨ho, ?_, hb.trans hb1⟩
  intro x hx
  rcases List.mem_append.1 hx with h | h
  · exact ⟨(hH x h).held.grown hO hg hb1 (by decide), (hH x h).ok, (hH x h).small⟩
  · rw [List.mem_singleton] at h; subst h; exact ⟨ht.held.grown hO hg hb1 (by decide), ht.ok, ht.small⟩

theorem BB.later {w w0 w1 : World} {B : Nat} {v : Value} {ts : List Tk} (h : BB w w0 B v ts) (hB : B ≤ w0.heap.size) (hb : Below w0.heap.size w0 w1) : BB w w1 B v ts :=
  ⟨h.own.kept hb (Nat.le_refl _), fun t ht => (h.fine t ht).below hb hB, h.below.trans (hb.mono hB)⟩

theorem wrap4' (z : Int) : ∃ d : Nat, wrap64 ((IntKind.u64.wrap z).tmod 4) = (d : Int) ∧ d < 4 := by
  obtain ⟨d, hd, hd4⟩ := wrap4 z
  refine ⟨d, ?_, hd4⟩
  rw [Int.tmod_eq_emod_of_nonneg (u64_nonneg _), hd]
  exact wrap64_id (by omega) (by omega)

set_option maxHeartbeats 4000000 in
set_option maxRecDepth 4000 in
theorem bbuild_any (a : Option Addr) (n cap : Nat) (ts : List Tk) (hl : ts.length = n) (hn1 : n ≤ 1024) (hsm : ∀ t ∈ ts, t.rs.length ≤ 1024) (w : World) (hr : TokensAt w a ts) :
    Calls Ybzm.prog 21 #[.slice a n cap] w fun e w' => ∃ ao cp TS, e = .returned (.slice ao n cp) ∧ TS.length = n ∧ BB w w' w.heap.size (.slice ao n cp) TS := by
  have HR := hid hr
  have HL := hid hl
  have HSM := hid hsm
  clear hr hl hsm
  go_enter Ybzm.func21, Ybzm.ntmps21
  go_wp2_with (at_make; go_must (refine wpList_makeT0 _ rfl (.const (.int .i64 0)) (.tmp 12) 31 rfl Ybzm.underlying31 Ybzm.infoToken w.heap.size n n rfl rfl rfl (by omega) (Nat.le_refl _) ?_); intro ao cp w2 hown2 hb2 _; have HO2 := hid hown2; clear hown2)
  rename World => wM
  go_loopg [3, 4] n (fun g v i wr => ∃ (k : Nat) (TS : List Tk), g = n - k ∧ k ≤ n ∧ i = .int .i64 k ∧ TS.length = k ∧ BB w wr w.heap.size v TS)
  case atStart => exact ⟨0, [], rfl, Nat.zero_le _, rfl, rfl, HO2.out, fun t h => absurd h List.not_mem_nil, hb2⟩
  case round =>
    clear HO2 hb2
    rename World => wA
    obtain ⟨k, TS, rfl, hk, rfl, hTS, hBB⟩ := hrel
    have HTS := hid hTS
    have HBB := hid hBB
    have hb := hBB.below
    clear hTS hBB
    by_cases hkn : k < n
    · obtain ⟨b, off, rfl, ta, tr⟩ := HR.out k (by rw [HL.out]; exact hkn)
      have tw := ta.below hb ta.lt
      have hsml : (ts.getD k tk0).rs.length ≤ 1024 := HSM.out _ (getD_mem_tk (by rw [HL.out]; exact hkn))
      generalize ts.getD k tk0 = t at tw tr hsml
      obtain ⟨d, hd, hd4⟩ := wrap4' t.kind
      have HEK := hid hd
      have c0 := tw.c0
      have c1 := tw.c1
      have c2 := tw.c2
      have c3 := tw.c3
      have hblt : b < wA.heap.size := tw.lt
      have HRA := hid (show RangesAt wA t.ra t.rs from tr.at_.below hb)
      clear ta tw hd
      go_wp2_with fail
      rw [HEK.out]
      clear HEK
      refine (bchar_any t.char _).mono ?_
      rintro e w2 ⟨⟨ch, rfl⟩, rfl⟩
      by_cases hd3 : d = 3
      · subst hd3
        have c3' : (wA.alloc (.cells #[.int .i64 ((3 : Nat) : Int), .int .u8 ch.toNat, .bool t.neg, .slice t.ra t.rs.length t.cap] 26)).cell? ⟨b, off + k * 4 + 3, none⟩ = some (.slice t.ra t.rs.length t.cap) := by
          rw [← c3]; exact ((Below.refl wA.heap.size wA).alloc (Nat.le_refl _) _).cell hblt
        go_wp2_with (at_make; go_must (refine wpList_makeR0 _ rfl (.const (.int .i64 0)) (.tmp 44) 22 rfl Ybzm.underlying22 Ybzm.infoRangeB (wA.heap.size + 1) _ (t.rs.length + 1) rfl rfl (by simp) (by omega) (by simp) ?_); intro ao3 cp3 w3 hown3 hb3 _; have HO3 := hid hown3; clear hown3)
        have HB3 := hid (show Below wA.heap.size wA w3 from ((Below.refl wA.heap.size wA).alloc (Nat.le_refl _) _).trans (hb3.mono (Nat.le_succ _)))
        have HK3 := hid (show w3.heap[wA.heap.size]? = some (.cells #[.int .i64 3, .int .u8 ch.toNat, .bool t.neg, .slice t.ra t.rs.length t.cap] 26 (0, 0)) from (hb3.block _ (by omega)).trans (block_new wA _ 26))
        clear c0 c1 c2 c3 c3' hb3
        go_loopg [7, 8] t.rs.length (fun g v i wr => ∃ (j : Nat) (RS : List (UInt8 × UInt8)), g = t.rs.length - j ∧ j ≤ t.rs.length ∧ i = .int .i64 j ∧ RS.length = j ∧ RS.all okR = true ∧ OwnR wr (wA.heap.size + 1) v RS ∧ wr.heap[wA.heap.size]? = some (.cells #[.int .i64 3, .int .u8 ch.toNat, .bool t.neg, .slice t.ra t.rs.length t.cap] 26 (0, 0)) ∧ Below wA.heap.size wA wr)
        case atStart => exact ⟨0, [], rfl, Nat.zero_le _, rfl, rfl, rfl, HO3.out, HK3.out, HB3.out⟩
        case round =>
          clear HB3 HK3 HO3
          obtain ⟨j, RS, rfl, hj, rfl, hRS, hall, hown, hblk, hbr⟩ := hrel
          have HRS := hid hRS
          have HAL := hid hall
          obtain ⟨aoR, cpR, hvR, _, _, _⟩ := hown.shape
          subst hvR
          rw [hRS] at hown ⊢
          have HO := hid hown
          have HBK := hid hblk
          clear hRS hall hown hblk
          by_cases hjm : j < t.rs.length
          · obtain ⟨b2, off2, hra2, g0, g1⟩ := HRA.out j hjm
            have e0 := (hbr.cell (p := ⟨b2, off2 + j * 2, none⟩) (block_lt g0)).trans g0
            have e1 := (hbr.cell (p := ⟨b2, off2 + j * 2 + 1, none⟩) (block_lt g1)).trans g1
            generalize t.rs.getD j (0, 0) = r at e0 e1
            obtain ⟨lo0, hi0⟩ := r
            simp only at e0 e1
            rw [hra2]
            have HA2 := hid hra2
            clear g0 g1 hra2
            go_wp2_with fail
            refine (bchar_any lo0 _).mono ?_
            rintro e w4 ⟨⟨lo, rfl⟩, rfl⟩
            go_wp2_with fail
            refine (bchar_any hi0 _).mono ?_
            rintro e w5 ⟨⟨hi, rfl⟩, rfl⟩
            by_cases hlh : lo.toNat ≤ hi.toNat
            · go_wp2_with (at_builtin; go_must (refine wpList_appR w5 rfl (.tmp 67) (.tmp 71) 22 rfl Ybzm.underlying22 Ybzm.infoRangeB (wA.heap.size + 1) _ RS (by rfl) HO.out lo hi _ rfl (by simp) (by rw [HRS.out]; omega) (by have := block_lt (cell_block HBK.out 0); exact this) ?_); intro ao4 cp4 w6 hown4 hb4 _; have HO4 := hid hown4; clear hown4)
              rw [← HA2.out]
              go_roundg (t.rs.length - (j + 1))
              case rel => exact ⟨j + 1, RS ++ [(lo, hi)], rfl, by omega, by go_num, by simp [HRS.out], by rw [List.all_append, HAL.out]; simp [okR, hlh], HO4.out, (hb4.block _ (by omega)).trans HBK.out, hbr.trans (hb4.mono (Nat.le_succ _))⟩
              case measure => omega
            · go_wp2_with (at_builtin; go_must (refine wpList_appR w5 rfl (.tmp 73) (.tmp 77) 22 rfl Ybzm.underlying22 Ybzm.infoRangeB (wA.heap.size + 1) _ RS (by rfl) HO.out hi lo _ rfl (by simp) (by rw [HRS.out]; omega) (by have := block_lt (cell_block HBK.out 0); exact this) ?_); intro ao4 cp4 w6 hown4 hb4 _; have HO4 := hid hown4; clear hown4)
              rw [← HA2.out]
              go_roundg (t.rs.length - (j + 1))
              case rel => exact ⟨j + 1, RS ++ [(hi, lo)], rfl, by omega, by go_num, by simp [HRS.out], by rw [List.all_append, HAL.out]; simp [okR]; omega, HO4.out, (hb4.block _ (by omega)).trans HBK.out, hbr.trans (hb4.mono (Nat.le_succ _))⟩
              case measure => omega
          · by_cases hj0 : j = 0
            · subst hj0
              have hRS0 : RS = [] := List.length_eq_zero_iff.1 HRS.out
              subst hRS0
              have y1 := cell_block HBK.out 1
              simp only [List.getElem?_toArray, List.getElem?_cons_zero, List.getElem?_cons_succ] at y1
              clear tr
              go_wp2_with (first | (at_builtin; refine wpList_appT (wE.setCell ⟨wA.heap.size, 3, none⟩ (.slice aoE 1 cpE)) rfl (.tmp 92) (.tmp 94) 31 rfl Ybzm.underlying31 Ybzm.infoToken w.heap.size _ TS (by rfl) HBE.out.own ⟨3, ch, t.neg, [(ch, ch)], aoE, cpE⟩ _ rfl (by simp) (by have := HTS.out; omega) HBE.out.below.size ?_; intro ao9 cp9 w9 hown9 hb9 hg9; have HO9 := hid hown9; have HG9 := hid hg9; clear hown9 hg9) | (at_builtin; refine wpList_appR wr rfl (.tmp 82) (.tmp 88) 22 rfl Ybzm.underlying22 Ybzm.infoRangeB (wA.heap.size + 1) _ [] (by rfl) HO.out ch ch _ rfl (by simp) (by simp) (by have := block_lt (cell_block HBK.out 0); exact this) ?_; intro aoE cpE wE hown4 hb4 _; have HOE := hid hown4; clear hown4; have HOKE : Hid (okT ⟨3, ch, t.neg, [(ch, ch)], aoE, cpE⟩ = true) := (by simp [Hid, okT, okR]); have HSLE : Hid (([(ch, ch)] : List (UInt8 × UInt8)).length ≤ 1025) := (by simp [Hid]); have HBKE := hid ((hb4.block _ (by omega)).trans HBK.out); have HBEE := hid (hbr.trans (hb4.mono (Nat.le_succ _))); have HST := hid (show (wE.setCell ⟨wA.heap.size, 3, none⟩ (.slice aoE 1 cpE)).heap[wA.heap.size]? = some (.cells #[.int .i64 3, .int .u8 ch.toNat, .bool t.neg, .slice aoE 1 cpE] 26 (0, 0)) from setCell_block HBKE.out 3 _); have z0 := cell_block HST.out 0; have z1 := cell_block HST.out 1; have z2 := cell_block HST.out 2; have z3 := cell_block HST.out 3; have f3 := frozen_block HBKE.out 3; have y1 := cell_block HBKE.out 1; have y3 := cell_block HBKE.out 3; simp only [List.getElem?_toArray, List.getElem?_cons_zero, List.getElem?_cons_succ] at z0 z1 z2 z3 y1 y3; have HBS := hid (show Below wA.heap.size wA (wE.setCell ⟨wA.heap.size, 3, none⟩ (.slice aoE 1 cpE)) from HBEE.out.setCell (Nat.le_refl _) _); have HBE := hid (HBB.out.later hb.size HBS.out); have HH : Hid (Fine (wE.setCell ⟨wA.heap.size, 3, none⟩ (.slice aoE 1 cpE)) w.heap.size ⟨3, ch, t.neg, [(ch, ch)], aoE, cpE⟩) := ⟨.of_held (OwnR.held (show OwnR _ (wA.heap.size + 1) (.slice aoE 1 cpE) ([(ch, ch)]) from ownsRow_setCell_below HOE.out (by simp) _) 3 ch t.neg (by omega) (by omega)), HOKE.out, HSLE.out⟩; clear HST))
              go_roundg (n - (k + 1))
              case rel => exact ⟨k + 1, _, rfl, by omega, by go_num, by simp [HTS.out], BB.step HBE.out.own HBE.out.fine HBE.out.below HH.out HG9.out hb9 HO9.out⟩
              case measure => omega
            · have ej := HRS.out
              subst ej
              have HOKE : Hid (okT ⟨3, ch, t.neg, RS, aoR, cpR⟩ = true) := (by
                have h0 : RS ≠ [] := fun h => hj0 (by rw [h]; rfl)
                simp only [Hid, okT, HAL.out]
                simp [h0])
              have HSLE : Hid (RS.length ≤ 1025) := by exact Nat.le_trans hj (by omega)
              have HBKE := HBK
              have HBEE := hid hbr
              have nj : ((RS.length : Int) == 0) = false := beq_eq_false_iff_ne.2 (by omega)
              clear tr
              have HST := hid (show (wr.setCell ⟨wA.heap.size, 3, none⟩ (.slice aoR RS.length cpR)).heap[wA.heap.size]? = some (.cells #[.int .i64 3, .int .u8 ch.toNat, .bool t.neg, .slice aoR RS.length cpR] 26 (0, 0)) from setCell_block HBKE.out 3 _)
              have z0 := cell_block HST.out 0
              have z1 := cell_block HST.out 1
              have z2 := cell_block HST.out 2
              have z3 := cell_block HST.out 3
              have f3 := frozen_block HBKE.out 3
              have y1 := cell_block HBKE.out 1
              have y3 := cell_block HBKE.out 3
              simp only [List.getElem?_toArray, List.getElem?_cons_zero, List.getElem?_cons_succ] at z0 z1 z2 z3 y1 y3
              have HBS := hid (show Below wA.heap.size wA (wr.setCell ⟨wA.heap.size, 3, none⟩ (.slice aoR RS.length cpR)) from HBEE.out.setCell (Nat.le_refl _) _)
              have HBE := hid (HBB.out.later hb.size HBS.out)
              have HH : Hid (Fine (wr.setCell ⟨wA.heap.size, 3, none⟩ (.slice aoR RS.length cpR)) w.heap.size ⟨3, ch, t.neg, RS, aoR, cpR⟩) := ⟨.of_held (OwnR.held (show OwnR _ (wA.heap.size + 1) (.slice aoR RS.length cpR) (RS) from ownsRow_setCell_below HO.out (by simp) _) 3 ch t.neg (by omega) (by omega)), HOKE.out, HSLE.out⟩
              clear HST
              go_wp2_with (at_builtin; go_must (refine wpList_appT (wr.setCell ⟨wA.heap.size, 3, none⟩ (.slice aoR RS.length cpR)) rfl (.tmp 92) (.tmp 94) 31 rfl Ybzm.underlying31 Ybzm.infoToken w.heap.size _ TS (by rfl) HBE.out.own ⟨3, ch, t.neg, RS, aoR, cpR⟩ _ rfl (by simp) (by have := HTS.out; omega) HBE.out.below.size ?_); intro ao9 cp9 w9 hown9 hb9 hg9; have HO9 := hid hown9; have HG9 := hid hg9; clear hown9 hg9)
              go_roundg (n - (k + 1))
              case rel => exact ⟨k + 1, _, rfl, by omega, by go_num, by simp [HTS.out], BB.step HBE.out.own HBE.out.fine HBE.out.below HH.out HG9.out hb9 HO9.out⟩
              case measure => omega
      · have n3 : ((d : Int) == 3) = false := beq_eq_false_iff_ne.2 (by omega)
        have hok : okT ⟨d, ch, t.neg, t.rs, t.ra, t.cap⟩ = true := by
          have h3 : ¬ ((d : Int) = 3) := by omega
          simp [okT, h3]; omega
        have HLI := hid (Lies.below (w' := wA) (t := ⟨d, ch, t.neg, t.rs, t.ra, t.cap⟩) (Lies.old (w := w) (tr.of rfl rfl rfl (by show _ ≤ (d : Int); omega) (by show (d : Int) ≤ _; omega))) hb (Nat.le_refl _))
        have HB2 := hid ((Below.refl wA.heap.size wA).alloc (Nat.le_refl _) (.cells #[.int .i64 d, .int .u8 ch.toNat, .bool t.neg, .slice t.ra t.rs.length t.cap] 26))
        have HH : Hid (Fine (wA.alloc (.cells #[.int .i64 d, .int .u8 ch.toNat, .bool t.neg, .slice t.ra t.rs.length t.cap] 26)) w.heap.size ⟨d, ch, t.neg, t.rs, t.ra, t.cap⟩) := ⟨HLI.out.below HB2.out hb.size, hok, by show t.rs.length ≤ 1025; omega⟩
        have HBE := hid (HBB.out.later hb.size HB2.out)
        clear hok HLI tr
        go_wp2_with (at_builtin; go_must (refine wpList_appT (wA.alloc (.cells #[.int .i64 d, .int .u8 ch.toNat, .bool t.neg, .slice t.ra t.rs.length t.cap] 26)) rfl (.tmp 92) (.tmp 94) 31 rfl Ybzm.underlying31 Ybzm.infoToken w.heap.size _ TS (by rfl) HBE.out.own ⟨d, ch, t.neg, t.rs, t.ra, t.cap⟩ _ rfl (by simp) (by have := HTS.out; omega) HBE.out.below.size ?_); intro ao9 cp9 w9 hown9 hb9 hg9; have HO9 := hid hown9; have HG9 := hid hg9; clear hown9 hg9)
        go_roundg (n - (k + 1))
        case rel => exact ⟨k + 1, _, rfl, by omega, by go_num, by simp [HTS.out], BB.step HBE.out.own HBE.out.fine HBE.out.below HH.out HG9.out hb9 HO9.out⟩
        case measure => omega
    · have hkk : k = n := by omega
      obtain ⟨aoE, cpE, hvE, _⟩ := HBB.out.own.shape
      rw [HTS.out, hkk] at hvE
      subst hvE
      rw [hkk] at HTS
      clear hkk
      go_wp2_with fail
      go_ret
      exact ⟨aoE, cpE, TS, rfl, HTS.out, HBB.out⟩
end Go.Proofs.Ymbrbz

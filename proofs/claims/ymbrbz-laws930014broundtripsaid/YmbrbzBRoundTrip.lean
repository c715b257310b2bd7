import Derived.Test.YmbrbzBText
import Derived.Test.YmbrbzParseTxt
namespace Go.Proofs.Ymbrbz
open Go.RowKit

theorem RangesAt.openAt {w : World} {a : Option Addr} {rs : List (UInt8 × UInt8)} (h : RangesAt w a rs) (h0 : 0 < rs.length) : ∃ b off, a = some ⟨b, off, none⟩ ∧ ∀ k, k < rs.length → w.cell? ⟨b, off + k * 2, none⟩ = some (.int .u8 (rs.getD k (0, 0)).1.toNat) ∧ w.cell? ⟨b, off + k * 2 + 1, none⟩ = some (.int .u8 (rs.getD k (0, 0)).2.toNat) := by
  obtain ⟨b, off, e, _⟩ := h 0 h0
  refine ⟨b, off, e, fun k hk => ?_⟩
  obtain ⟨b', off', e', g⟩ := h k hk
  rw [e] at e'
  simp only [Option.some.injEq, Addr.mk.injEq, and_true] at e'
  obtain ⟨rfl, rfl⟩ := e'
  exact g

theorem norm_kind {t : Tk} (h : okT t = true) : (norm t).kind = t.kind := by
  unfold norm okT at *
  split at h
  · rename_i h3; simp [h3]
  · simp at h; rcases h with h | h | h <;> simp [h]

set_option maxHeartbeats 4000000 in
set_option maxRecDepth 4000 in
theorem broundtrip (w : World) (a : Option Addr) (n cap : Nat) (ts : List Tk) (hl : ts.length = n) (hm : n ≤ cap ∧ cap ≤ 9223372036854775807) (hr : TokensAt w a ts) :
    Calls Ybzm.prog 8 #[.slice a n cap] w fun e w' => e = .returned (.bool true) ∧ Below w.heap.size w w' := by
  have hn : n ≤ 9223372036854775807 := Nat.le_trans hm.1 hm.2
  clear hm
  have HR := hid hr
  have HL := hid hl
  clear hr hl
  go_enter Ybzm.func8, Ybzm.ntmps8
  go_wp2_with fail
  refine (bbig_any a n cap ts hn HL.out w HR.out).mono ?_
  rintro e w1 ⟨rfl, rfl⟩
  cases hbig : bigT ts with
  | true =>
    clear hbig
    go_wp2_with fail
    go_ret
    exact ⟨rfl, Below.refl _ _⟩
  | false =>
  have HSZ := hid (bigT_le hbig)
  have hn1 : n ≤ 1024 := by have := HSZ.out.1; rw [HL.out] at this; exact this
  clear hbig hn
  go_wp2_with fail
  refine (bbuild_any a n cap ts HL.out hn1 HSZ.out.2 _ HR.out).mono ?_
  rintro e w2 ⟨ao, cp, TS, rfl, hTS, hBB⟩
  have HTS := hid hTS
  have HBB := hid hBB
  have hb2 := hBB.below
  have HTA := hid (hBB.own.tokensAt (fun t ht => (hBB.fine t ht).held.ok))
  clear hTS hBB HSZ HL HR
  go_wp2_with fail
  refine (print_any ao n cp TS hn1 HTS.out (fun t ht => (HBB.out.fine t ht).small) _ HTA.out).mono ?_
  have HAL : Hid (TS.all okT = true) := List.all_eq_true.2 fun t ht => (HBB.out.fine t ht).ok
  rintro e w3 ⟨hb3, ⟨_, rfl⟩ | ⟨hbad, rfl⟩⟩
  case inr => rw [HAL.out] at hbad; cases hbad
  have hsz : (strOf (prA TS)).size ≤ 6000000 := by
    have h1 := prA_len TS (fun t ht => (HBB.out.fine t ht).small)
    have h2 := HTS.out
    rw [strOf_size]
    omega
  have HPP : Hid (parse (strOf (prA TS)).data.toList = some (TS.map norm)) := by rw [Hid, strOf_data]; exact parse_prA TS HAL.out
  generalize strOf (prA TS) = s at hsz HPP
  have HFI : Hid (∀ t ∈ TS, okT t = true ∧ t.rs.length ≤ 1025) := fun t ht => ⟨(HBB.out.fine t ht).ok, (HBB.out.fine t ht).small⟩
  have HT3 := hid (HTA.out.below hb3)
  have hb23 := hb2.trans (hb3.mono hb2.size)
  clear HAL HBB HTA hb2 hb3
  go_wp2_with fail
  refine (parse_any s (by omega) _).mono ?_
  rintro e w4 (⟨hbad, rfl, _⟩ | ⟨BS, ao2, cp2, hpar, rfl, _, hPB⟩)
  · rw [HPP.out] at hbad; cases hbad
  have hBN : BS.map Tk.pk = TS.map norm := by rw [HPP.out] at hpar; exact (Option.some.inj hpar).symm
  have hbl : BS.length = n := by have := congrArg List.length hBN; simp only [List.length_map] at this; rw [this]; exact HTS.out
  have HBL := hid hbl
  have HT4 := hid (HT3.out.below hPB.below)
  have HB4 := hid (hPB.own.tokensAt (fun t ht => (hPB.fine t ht).held.ok))
  have HCL := hid hPB.fine
  have hb24 := hb23.trans (hPB.below.mono hb23.size)
  have HKN : Hid (∀ k, k < n → (BS.getD k tk0).pk = norm (TS.getD k tk0)) := by
    intro k hk
    have h1 : (BS.map Tk.pk)[k]? = (TS.map norm)[k]? := by rw [hBN]
    rw [List.getElem?_map, List.getElem?_map] at h1
    rw [List.getElem?_eq_getElem (show k < BS.length by omega), List.getElem?_eq_getElem (show k < TS.length by rw [HTS.out]; exact hk)] at h1
    rw [getD_at BS tk0 k (by omega), getD_at TS tk0 k (by rw [HTS.out]; exact hk)]
    simpa using h1
  rw [hbl]
  clear hBN hbl hpar hPB HPP HT3 hb23
  rename World => wZ
  go_wp2_with fail
  go_loopg [8] n (fun g i wr => ∃ k : Nat, g = n - k ∧ k ≤ n ∧ i = .int .i64 k ∧ Below wZ.heap.size wZ wr)
  case atStart => exact ⟨0, rfl, Nat.zero_le _, rfl, Below.refl _ _⟩
  case round =>
    rename World => wA
    obtain ⟨k, rfl, hk, rfl, hb⟩ := hrel
    by_cases hkn : k < n
    · obtain ⟨b, off, rfl, ta, tr⟩ := HT4.out k (by rw [HTS.out]; exact hkn)
      obtain ⟨b', off', rfl, ta', tr'⟩ := HB4.out k (by rw [HBL.out]; exact hkn)
      have tw := ta.below hb ta.lt
      have tw' := ta'.below hb ta'.lt
      have HK := hid (HKN.out k hkn)
      obtain ⟨hok, hsml⟩ := HFI.out _ (getD_mem_tk (by rw [HTS.out]; exact hkn))
      have hcl := (HCL.out _ (getD_mem_tk (by rw [HBL.out]; exact hkn))).nil_
      generalize TS.getD k tk0 = t at tw tr HK hok hsml
      generalize BS.getD k tk0 = u at tw' tr' HK hcl
      have c0 := tw.c0
      have c1 := tw.c1
      have c2 := tw.c2
      have c3 := tw.c3
      have hlt' := tw'.lt
      have HRA := hid (show RangesAt wZ t.ra t.rs from tr.at_)
      have HRA' := hid (show RangesAt wZ u.ra u.rs from tr'.at_)
      have HD := hid tw'
      clear ta tw tr ta' tw' tr'
      have HAB := hid (show ∀ o : Obj, Below wA.heap.size wA (wA.alloc o) from fun o => (Below.refl _ _).alloc (Nat.le_refl _) o)
      have HAC := hid (show ∀ o o' : Obj, Below wZ.heap.size wZ ((wA.alloc o).alloc o') from fun o o' => (hb.alloc hb.size o).alloc (hb.alloc hb.size o).size o')
      by_cases h3 : t.kind = 3
      · have hu : u.kind = 3 ∧ u.char = 0 ∧ u.neg = t.neg ∧ u.rs = t.rs := by
          have h := HK.out
          simp [norm, h3, Tk.pk] at h
          exact h
        have hne : 0 < t.rs.length := by
          simp only [okT, if_pos h3, Bool.and_eq_true, Bool.not_eq_true'] at hok
          refine List.length_pos_iff.2 ?_
          intro h; rw [h] at hok; simp at hok
        obtain ⟨b2, off2, hra, hct⟩ := HRA.out.openAt hne
        obtain ⟨b3, off3, hra', hcu⟩ := HRA'.out.openAt (by rw [hu.2.2.2]; exact hne)
        rw [h3] at c0
        rw [hra] at c3
        have d0 := (HAB.out (.cells #[.int .i64 3, .int .u8 t.char.toNat, .bool t.neg, .slice (some ⟨b2, off2, none⟩) t.rs.length t.cap] 26)).cell (p := ⟨b', off' + k * 4, none⟩) hlt' |>.trans HD.out.c0
        have d1 := (HAB.out (.cells #[.int .i64 3, .int .u8 t.char.toNat, .bool t.neg, .slice (some ⟨b2, off2, none⟩) t.rs.length t.cap] 26)).cell (p := ⟨b', off' + k * 4 + 1, none⟩) hlt' |>.trans HD.out.c1
        have d2 := (HAB.out (.cells #[.int .i64 3, .int .u8 t.char.toNat, .bool t.neg, .slice (some ⟨b2, off2, none⟩) t.rs.length t.cap] 26)).cell (p := ⟨b', off' + k * 4 + 2, none⟩) hlt' |>.trans HD.out.c2
        have d3 := (HAB.out (.cells #[.int .i64 3, .int .u8 t.char.toNat, .bool t.neg, .slice (some ⟨b2, off2, none⟩) t.rs.length t.cap] 26)).cell (p := ⟨b', off' + k * 4 + 3, none⟩) hlt' |>.trans HD.out.c3
        rw [hu.1] at d0
        rw [hu.2.1] at d1
        rw [hu.2.2.1] at d2
        rw [hu.2.2.2, hra'] at d3
        rw [hu.2.2.2] at hcu
        have HCT := hid hct
        have HCU := hid hcu
        have ng : (t.neg != t.neg) = false := by simp
        have nl : ((t.rs.length : Int) != (t.rs.length : Int)) = false := by simp
        have HK1 := hid (block_alloc (block_new wA #[.int .i64 3, .int .u8 t.char.toNat, .bool t.neg, .slice (some ⟨b2, off2, none⟩) t.rs.length t.cap] 26) (.cells #[.int .i64 3, .int .u8 0, .bool t.neg, .slice (some ⟨b3, off3, none⟩) t.rs.length u.cap] 26))
        have HK2 : Hid (((wA.alloc (.cells #[.int .i64 3, .int .u8 t.char.toNat, .bool t.neg, .slice (some ⟨b2, off2, none⟩) t.rs.length t.cap] 26)).alloc (.cells #[.int .i64 3, .int .u8 0, .bool t.neg, .slice (some ⟨b3, off3, none⟩) t.rs.length u.cap] 26)).heap[wA.heap.size + 1]? = some (.cells #[.int .i64 3, .int .u8 0, .bool t.neg, .slice (some ⟨b3, off3, none⟩) t.rs.length u.cap] 26 (0, 0))) := by
          have := block_new (wA.alloc (.cells #[.int .i64 3, .int .u8 t.char.toNat, .bool t.neg, .slice (some ⟨b2, off2, none⟩) t.rs.length t.cap] 26)) #[.int .i64 3, .int .u8 0, .bool t.neg, .slice (some ⟨b3, off3, none⟩) t.rs.length u.cap] 26
          simpa [Hid] using this
        have HBB := hid (HAC.out (.cells #[.int .i64 3, .int .u8 t.char.toNat, .bool t.neg, .slice (some ⟨b2, off2, none⟩) t.rs.length t.cap] 26) (.cells #[.int .i64 3, .int .u8 0, .bool t.neg, .slice (some ⟨b3, off3, none⟩) t.rs.length u.cap] 26))
        clear hu hne hra hra' hct hcu h3 hok hcl HK HD HRA HRA' HAC HAB
        generalize t.rs.length = m at *
        go_wp2_with fail
        clear c0 c1 c2 c3 d0 d1 d2 d3
        go_loopg [11] m (fun g jv wr => ∃ j : Nat, g = m - j ∧ j ≤ m ∧ jv = .int .i64 j ∧ wr.heap[wA.heap.size]? = some (.cells #[.int .i64 3, .int .u8 t.char.toNat, .bool t.neg, .slice (some ⟨b2, off2, none⟩) m t.cap] 26 (0, 0)) ∧ wr.heap[wA.heap.size + 1]? = some (.cells #[.int .i64 3, .int .u8 0, .bool t.neg, .slice (some ⟨b3, off3, none⟩) m u.cap] 26 (0, 0)) ∧ Below wZ.heap.size wZ wr)
        case atStart => exact ⟨0, rfl, Nat.zero_le _, rfl, HK1.out, HK2.out, HBB.out⟩
        case round =>
          clear HK1 HK2 HBB
          obtain ⟨j, rfl, hj, rfl, hk1, hk2, hbr⟩ := hrel
          have y3 := cell_block hk1 3
          have x3 := cell_block hk2 3
          simp only [List.getElem?_toArray, List.getElem?_cons_zero, List.getElem?_cons_succ] at y3 x3
          have HK1 := hid hk1
          have HK2 := hid hk2
          clear hk1 hk2
          by_cases hjm : j < m
          · obtain ⟨g0, g1⟩ := HCT.out j hjm
            obtain ⟨g2, g3⟩ := HCU.out j hjm
            have e0 := (hbr.cell (p := ⟨b2, off2 + j * 2, none⟩) (block_lt g0)).trans g0
            have e1 := (hbr.cell (p := ⟨b2, off2 + j * 2 + 1, none⟩) (block_lt g1)).trans g1
            have e2 := (hbr.cell (p := ⟨b3, off3 + j * 2, none⟩) (block_lt g2)).trans g2
            have e3 := (hbr.cell (p := ⟨b3, off3 + j * 2 + 1, none⟩) (block_lt g3)).trans g3
            generalize t.rs.getD j (0, 0) = r at e0 e1 e2 e3
            obtain ⟨lo, hi⟩ := r
            simp only at e0 e1 e2 e3
            have nlo : ((lo.toNat : Int) != (lo.toNat : Int)) = false := by simp
            have nhi : ((hi.toNat : Int) != (hi.toNat : Int)) = false := by simp
            clear g0 g1 g2 g3
            go_wp2_with fail
            go_quiet (fail)
            go_wp2_with fail
            go_roundg (m - (j + 1))
            case rel => exact ⟨j + 1, rfl, by omega, by go_num, HK1.out, HK2.out, below_drewN hbr _⟩
            case measure => omega
          · go_wp2_with fail
            go_roundg (n - (k + 1))
            case rel => exact ⟨k + 1, rfl, by omega, by go_num, hbr⟩
            case measure => omega
      · obtain ⟨kd, hkd, hkc⟩ : ∃ kd : Int, kd = t.kind ∧ (kd = 0 ∨ kd = 1 ∨ kd = 2) := ⟨t.kind, rfl, by simp only [okT, if_neg h3] at hok; simpa using hok⟩
        have hku : u.kind = kd := by have := congrArg Pk.kind HK.out; rw [norm_kind hok] at this; rw [hkd]; exact this
        have hcu := hcl (by rw [hku, hkd]; exact h3)
        have hun : u.neg = false ∧ u.rs = [] := by
          have h := HK.out
          unfold norm at h
          rw [← hkd] at h
          rcases hkc with e | e | e <;> simp [e, Tk.pk] at h <;> exact ⟨h.2.2.1, h.2.2.2⟩
        have d0 := (HAB.out (.cells #[.int .i64 t.kind, .int .u8 t.char.toNat, .bool t.neg, .slice t.ra t.rs.length t.cap] 26)).cell (p := ⟨b', off' + k * 4, none⟩) hlt' |>.trans HD.out.c0
        have d1 := (HAB.out (.cells #[.int .i64 t.kind, .int .u8 t.char.toNat, .bool t.neg, .slice t.ra t.rs.length t.cap] 26)).cell (p := ⟨b', off' + k * 4 + 1, none⟩) hlt' |>.trans HD.out.c1
        have d2 := (HAB.out (.cells #[.int .i64 t.kind, .int .u8 t.char.toNat, .bool t.neg, .slice t.ra t.rs.length t.cap] 26)).cell (p := ⟨b', off' + k * 4 + 2, none⟩) hlt' |>.trans HD.out.c2
        have d3 := (HAB.out (.cells #[.int .i64 t.kind, .int .u8 t.char.toNat, .bool t.neg, .slice t.ra t.rs.length t.cap] 26)).cell (p := ⟨b', off' + k * 4 + 3, none⟩) hlt' |>.trans HD.out.c3
        rw [hku] at d0
        rw [hun.1] at d2
        rw [hun.2, hcu.1, hcu.2] at d3
        simp only [List.length_nil] at d3
        rw [← hkd] at c0 d0 d1 d2 d3
        have HC : Hid ((kd = 0 ∧ u.char = t.char) ∨ ((kd = 1 ∨ kd = 2) ∧ u.char = 0)) := by
          have h := HK.out
          unfold norm at h
          rw [← hkd] at h
          rcases hkc with e | e | e <;> simp [e, Tk.pk] at h
          · exact .inl ⟨e, h.2.1⟩
          · exact .inr ⟨.inl e, h.2.1⟩
          · exact .inr ⟨.inr e, h.2.1⟩
        clear hku hcu hun hkc hkd h3 hok hcl HK HD
        rcases HC.out with ⟨hk0, hch⟩ | ⟨hk12, hch⟩
        · subst hk0
          rw [hch] at d1
          clear hch HC
          have nb : ((t.char.toNat : Int) != (t.char.toNat : Int)) = false := by simp
          go_wp2_with fail
          go_roundg (n - (k + 1))
          case rel => exact ⟨k + 1, rfl, by omega, by go_num, HAC.out _ _⟩
          case measure => omega
        · rw [hch] at d1
          clear hch HC
          rcases hk12 with hk1 | hk2
          · subst hk1
            go_wp2_with fail
            go_roundg (n - (k + 1))
            case rel => exact ⟨k + 1, rfl, by omega, by go_num, HAC.out _ _⟩
            case measure => omega
          · subst hk2
            go_wp2_with fail
            go_roundg (n - (k + 1))
            case rel => exact ⟨k + 1, rfl, by omega, by go_num, HAC.out _ _⟩
            case measure => omega
    · go_wp2_with fail
      go_ret
      exact ⟨rfl, hb24.trans (hb.mono hb24.size)⟩
end Go.Proofs.Ymbrbz

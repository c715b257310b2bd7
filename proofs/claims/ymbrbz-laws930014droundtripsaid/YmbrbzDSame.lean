import Derived.Test.YmbrbzParseTxt
import Derived.Test.YmbrbzBText
namespace Go.Proofs.Ymbrbz
open Go.RowKit

theorem RangesAt.openAt {w : World} {a : Option Addr} {rs : List (UInt8 × UInt8)} (h : RangesAt w a rs) (h0 : 0 < rs.length) : ∃ b off, a = some ⟨b, off, none⟩ ∧ ∀ k, k < rs.length → w.cell? ⟨b, off + k * 2, none⟩ = some (.int .u8 (rs.getD k (0, 0)).1.toNat) ∧ w.cell? ⟨b, off + k * 2 + 1, none⟩ = some (.int .u8 (rs.getD k (0, 0)).2.toNat) := by
  obtain ⟨b, off, e, _⟩ := h 0 h0
  refine ⟨b, off, e, fun k hk => ?_⟩
  obtain ⟨b', off', e', g⟩ := h k hk
  rw [e] at e'
  simp only [Option.some.injEq, Addr.mk.injEq, and_true] at e'
  obtain ⟨rfl, rfl⟩ := e'
  exact g

theorem pk_at {ts us : List Tk} (h : ts.map Tk.pk = us.map Tk.pk) (k : Nat) (hk : k < ts.length) : (us.getD k tk0).pk = (ts.getD k tk0).pk := by
  have hl : us.length = ts.length := by have := congrArg List.length h; simpa using this.symm
  have h1 : (us.map Tk.pk)[k]? = (ts.map Tk.pk)[k]? := by rw [h]
  rw [List.getElem?_map, List.getElem?_map, List.getElem?_eq_getElem (show k < us.length by omega), List.getElem?_eq_getElem hk] at h1
  rw [getD_at us tk0 k (by omega), getD_at ts tk0 k hk]
  simpa using h1

set_option maxHeartbeats 4000000 in
set_option maxRecDepth 4000 in
theorem dsame_same (a a2 : Option Addr) (n cap cap2 : Nat) (ts us : List Tk) (hn : n ≤ 9223372036854775807) (hl : ts.length = n) (hlu : us.length = n) (hpk : ts.map Tk.pk = us.map Tk.pk) (w : World) (hr : TokensAt w a ts) (hr2 : TokensAt w a2 us) :
    Calls Ybzm.prog 29 #[.slice a n cap, .slice a2 n cap2] w fun e w' => e = .returned (.bool true) ∧ Below w.heap.size w w' := by
  have HT4 := hid hr
  have HB4 := hid hr2
  have HTS := hid hl
  have HBL := hid hlu
  have HKN : Hid (∀ k, k < n → (us.getD k tk0).pk = (ts.getD k tk0).pk) := fun k hk => pk_at hpk k (by omega)
  have nn : ((n : Int) != (n : Int)) = false := by simp
  clear hr hr2 hl hlu hpk
  go_enter Ybzm.func29, Ybzm.ntmps29
  go_wp2_with fail
  go_loopg [5] n (fun g i wr => ∃ k : Nat, g = n - k ∧ k ≤ n ∧ i = .int .i64 k ∧ Below w.heap.size w wr)
  case atStart => exact ⟨0, rfl, Nat.zero_le _, rfl, Below.refl _ _⟩
  case round =>
    rename World => wA
    obtain ⟨k, rfl, hk, rfl, hb⟩ := hrel
    by_cases hkn : k < n
    · obtain ⟨b, off, rfl, ta, tr⟩ := HT4.out k (by rw [HTS.out]; exact hkn)
      obtain ⟨b', off', rfl, ta', tr'⟩ := HB4.out k (by rw [HBL.out]; exact hkn)
      have tw := ta.below hb ta.lt
      have tw' := ta'.below hb ta'.lt
      have HK := hid (HKN.out k hkn)
      generalize ts.getD k tk0 = t at tw tr HK
      generalize us.getD k tk0 = u at tw' tr' HK
      have c0 := tw.c0
      have c1 := tw.c1
      have c2 := tw.c2
      have c3 := tw.c3
      have hlt' := tw'.lt
      have h63 : t.rs.length ≤ 9223372036854775807 := Nat.le_trans tr.le tr.room
      have HRA := hid (show RangesAt w t.ra t.rs from tr.at_)
      have HRA' := hid (show RangesAt w u.ra u.rs from tr'.at_)
      have HD := hid tw'
      clear ta tw tr ta' tw' tr'
      have HAB := hid (show ∀ o : Obj, Below wA.heap.size wA (wA.alloc o) from fun o => (Below.refl _ _).alloc (Nat.le_refl _) o)
      have HAC := hid (show ∀ o o' : Obj, Below w.heap.size w ((wA.alloc o).alloc o') from fun o o' => (hb.alloc hb.size o).alloc (hb.alloc hb.size o).size o')
      have hu : u.kind = t.kind ∧ u.char = t.char ∧ u.neg = t.neg ∧ u.rs = t.rs := by
        have h := HK.out
        simp only [Tk.pk, Pk.mk.injEq] at h
        exact h
      have nk : (t.kind != t.kind) = false := by simp
      have nc : ((t.char.toNat : Int) != (t.char.toNat : Int)) = false := by simp
      have ng : (t.neg != t.neg) = false := by simp
      have nl : ((t.rs.length : Int) != (t.rs.length : Int)) = false := by simp
      by_cases hne : 0 < t.rs.length
      · obtain ⟨b2, off2, hra, hct⟩ := HRA.out.openAt hne
        obtain ⟨b3, off3, hra', hcu⟩ := HRA'.out.openAt (by rw [hu.2.2.2]; exact hne)
        rw [hra] at c3
        have d0 := (HAB.out (.cells #[.int .i64 t.kind, .int .u8 t.char.toNat, .bool t.neg, .slice (some ⟨b2, off2, none⟩) t.rs.length t.cap] 26)).cell (p := ⟨b', off' + k * 4, none⟩) hlt' |>.trans HD.out.c0
        have d1 := (HAB.out (.cells #[.int .i64 t.kind, .int .u8 t.char.toNat, .bool t.neg, .slice (some ⟨b2, off2, none⟩) t.rs.length t.cap] 26)).cell (p := ⟨b', off' + k * 4 + 1, none⟩) hlt' |>.trans HD.out.c1
        have d2 := (HAB.out (.cells #[.int .i64 t.kind, .int .u8 t.char.toNat, .bool t.neg, .slice (some ⟨b2, off2, none⟩) t.rs.length t.cap] 26)).cell (p := ⟨b', off' + k * 4 + 2, none⟩) hlt' |>.trans HD.out.c2
        have d3 := (HAB.out (.cells #[.int .i64 t.kind, .int .u8 t.char.toNat, .bool t.neg, .slice (some ⟨b2, off2, none⟩) t.rs.length t.cap] 26)).cell (p := ⟨b', off' + k * 4 + 3, none⟩) hlt' |>.trans HD.out.c3
        rw [hu.1] at d0
        rw [hu.2.1] at d1
        rw [hu.2.2.1] at d2
        rw [hu.2.2.2, hra'] at d3
        rw [hu.2.2.2] at hcu
        have HCT := hid hct
        have HCU := hid hcu
        have HK1 := hid (block_alloc (block_new wA #[.int .i64 t.kind, .int .u8 t.char.toNat, .bool t.neg, .slice (some ⟨b2, off2, none⟩) t.rs.length t.cap] 26) (.cells #[.int .i64 t.kind, .int .u8 t.char.toNat, .bool t.neg, .slice (some ⟨b3, off3, none⟩) t.rs.length u.cap] 26))
        have HK2 : Hid (((wA.alloc (.cells #[.int .i64 t.kind, .int .u8 t.char.toNat, .bool t.neg, .slice (some ⟨b2, off2, none⟩) t.rs.length t.cap] 26)).alloc (.cells #[.int .i64 t.kind, .int .u8 t.char.toNat, .bool t.neg, .slice (some ⟨b3, off3, none⟩) t.rs.length u.cap] 26)).heap[wA.heap.size + 1]? = some (.cells #[.int .i64 t.kind, .int .u8 t.char.toNat, .bool t.neg, .slice (some ⟨b3, off3, none⟩) t.rs.length u.cap] 26 (0, 0))) := by
          have := block_new (wA.alloc (.cells #[.int .i64 t.kind, .int .u8 t.char.toNat, .bool t.neg, .slice (some ⟨b2, off2, none⟩) t.rs.length t.cap] 26)) #[.int .i64 t.kind, .int .u8 t.char.toNat, .bool t.neg, .slice (some ⟨b3, off3, none⟩) t.rs.length u.cap] 26
          simpa [Hid] using this
        have HBB := hid (HAC.out (.cells #[.int .i64 t.kind, .int .u8 t.char.toNat, .bool t.neg, .slice (some ⟨b2, off2, none⟩) t.rs.length t.cap] 26) (.cells #[.int .i64 t.kind, .int .u8 t.char.toNat, .bool t.neg, .slice (some ⟨b3, off3, none⟩) t.rs.length u.cap] 26))
        clear hu hne hra hra' hct hcu HK HD HRA HRA' HAC HAB
        generalize t.rs.length = m at *
        go_wp2_with fail
        clear c0 c1 c2 c3 d0 d1 d2 d3
        go_loopg [8] m (fun g jv wr => ∃ j : Nat, g = m - j ∧ j ≤ m ∧ jv = .int .i64 j ∧ wr.heap[wA.heap.size]? = some (.cells #[.int .i64 t.kind, .int .u8 t.char.toNat, .bool t.neg, .slice (some ⟨b2, off2, none⟩) m t.cap] 26 (0, 0)) ∧ wr.heap[wA.heap.size + 1]? = some (.cells #[.int .i64 t.kind, .int .u8 t.char.toNat, .bool t.neg, .slice (some ⟨b3, off3, none⟩) m u.cap] 26 (0, 0)) ∧ Below w.heap.size w wr)
        case atStart => exact ⟨0, rfl, Nat.zero_le _, rfl, HK1.out, HK2.out, HBB.out⟩
        case round =>
          clear HK1 HK2 HBB
          obtain ⟨j, rfl, hj, rfl, hk1, hk2, hbr⟩ := hrel
          have y3 := cell_block hk1 3
          have x3 := cell_block hk2 3
          simp only [List.getElem?_toArray, List.getElem?_cons_zero, List.getElem?_cons_succ] at y3 x3
          have HK1 := hid hk1
          have HK2 := hid hk2
          clear hk1 hk2
          by_cases hjm : j < m
          · obtain ⟨g0, g1⟩ := HCT.out j hjm
            obtain ⟨g2, g3⟩ := HCU.out j hjm
            have e0 := (hbr.cell (p := ⟨b2, off2 + j * 2, none⟩) (block_lt g0)).trans g0
            have e1 := (hbr.cell (p := ⟨b2, off2 + j * 2 + 1, none⟩) (block_lt g1)).trans g1
            have e2 := (hbr.cell (p := ⟨b3, off3 + j * 2, none⟩) (block_lt g2)).trans g2
            have e3 := (hbr.cell (p := ⟨b3, off3 + j * 2 + 1, none⟩) (block_lt g3)).trans g3
            generalize t.rs.getD j (0, 0) = r at e0 e1 e2 e3
            obtain ⟨lo, hi⟩ := r
            simp only at e0 e1 e2 e3
            have nlo : ((lo.toNat : Int) != (lo.toNat : Int)) = false := by simp
            have nhi : ((hi.toNat : Int) != (hi.toNat : Int)) = false := by simp
            clear g0 g1 g2 g3
            go_wp2_with fail
            go_quiet (fail)
            go_wp2_with fail
            go_roundg (m - (j + 1))
            case rel => exact ⟨j + 1, rfl, by omega, by go_num, HK1.out, HK2.out, below_drewN hbr _⟩
            case measure => omega
          · go_wp2_with fail
            go_roundg (n - (k + 1))
            case rel => exact ⟨k + 1, rfl, by omega, by go_num, hbr⟩
            case measure => omega
      · have h0 : t.rs.length = 0 := by omega
        rw [h0] at c3
        have d0 := (HAB.out (.cells #[.int .i64 t.kind, .int .u8 t.char.toNat, .bool t.neg, .slice t.ra 0 t.cap] 26)).cell (p := ⟨b', off' + k * 4, none⟩) hlt' |>.trans HD.out.c0
        have d1 := (HAB.out (.cells #[.int .i64 t.kind, .int .u8 t.char.toNat, .bool t.neg, .slice t.ra 0 t.cap] 26)).cell (p := ⟨b', off' + k * 4 + 1, none⟩) hlt' |>.trans HD.out.c1
        have d2 := (HAB.out (.cells #[.int .i64 t.kind, .int .u8 t.char.toNat, .bool t.neg, .slice t.ra 0 t.cap] 26)).cell (p := ⟨b', off' + k * 4 + 2, none⟩) hlt' |>.trans HD.out.c2
        have d3 := (HAB.out (.cells #[.int .i64 t.kind, .int .u8 t.char.toNat, .bool t.neg, .slice t.ra 0 t.cap] 26)).cell (p := ⟨b', off' + k * 4 + 3, none⟩) hlt' |>.trans HD.out.c3
        rw [hu.1] at d0
        rw [hu.2.1] at d1
        rw [hu.2.2.1] at d2
        rw [hu.2.2.2, h0] at d3
        clear hu hne HK HD HRA HRA' HAB h0 h63 nl
        go_wp2_with fail
        refine wp_loop_rounds 1 ?_
        rw [rounds_succ]
        go_wp2_with fail
        go_roundg (n - (k + 1))
        case rel => exact ⟨k + 1, rfl, by omega, by go_num, HAC.out _ _⟩
        case measure => omega
    · go_wp2_with fail
      go_ret
      exact ⟨rfl, hb⟩
end Go.Proofs.Ymbrbz

import Derived.Test.YmbrcbISmall
import Derived.Test.YmbrcbISpecial
import Derived.Test.YmbrcbBytes1
import Derived.ArgAppend
namespace Go.Proofs.Ymbrcb
open Go.RowKit Go.WideShapes

theorem OwnB.below {w w' : World} {base B : Nat} {v : Value} {bs : List UInt8} (h : OwnB w base v bs) (hb : Below B w w') (hv : ∀ k, v.ownBlock = some k → k < B) : OwnB w' base v bs := by
  refine ⟨h.1, ?_⟩
  rcases h.2 with h2 | ⟨g, cap, cur, hv', hg, hh, r⟩
  · exact .inl h2
  · exact .inr ⟨g, cap, cur, hv', hg, by rw [hb.block g (hv g (by rw [hv']; rfl))]; exact hh, r⟩

/-- The first k bytes of a full row, as a slice of their own with the row's room behind them. -/
theorem OwnB.front {w : World} {base g n : Nat} {fs : List UInt8} (h : OwnB w base (.slice (some ⟨g, 0, none⟩) n n) fs) (hn : fs.length = n) (k : Nat) (hk : k ≤ n) : OwnB w base (.slice (some ⟨g, 0, none⟩) k n) (fs.take k) := by
  obtain ⟨h1, h2⟩ := h
  refine ⟨by simp, ?_⟩
  rcases h2 with ⟨h', _⟩ | ⟨g', cap, cur, h', hb, hg, hc, hm, hs, ht⟩
  · simp at h'
  · simp only [Value.slice.injEq, Option.some.injEq, Addr.mk.injEq, and_true] at h'
    obtain ⟨rfl, rfl, rfl⟩ := h'
    have hl : (fs.take k).length = k := by simp; omega
    refine .inr ⟨g, fs.length, cur, by rw [hl], hb, hg, by omega, hm, hs, ?_⟩
    rw [hl, List.map_take, ← ht, List.take_take]
    congr 1
    omega

section
variable {P : Program} (w0 : World) {ops : Array Oper} {rest : List Oper} {o : Oper} {a : Act} {Q : Exit → Act → World → Prop}

theorem wpList_appRoom (hgd : o.guard = none) (s x : Operand) (t : TypeId)
    (ho : o.op = .call { callee := .builtin .append, args := #[s, x], argTypes := #[t, t] }) (ht : P.underlying t = some (.slice 5))
    (hi : (P.info? 5).map (fun i => (i.zero, i.size, i.bytes)) = some (some (.int .u8 0), 1, 1))
    (base g k n : Nat) (fs : List UInt8) (hs : a.eval s = .slice (some ⟨g, 0, none⟩) k n) (hown : OwnB w0 base (.slice (some ⟨g, 0, none⟩) n n) fs) (hfl : fs.length = n) (hk : k < n) (c : UInt8)
    (hx : a.eval x = .slice (some ⟨w0.heap.size, 0, none⟩) 1 1) (hlen : n ≤ 140737488355000) (hbase : base ≤ w0.heap.size)
    (h : ∀ w', OwnB w' base (.slice (some ⟨g, 0, none⟩) n n) (fs.set k c) → Below base w0 w' → wpList P ops Q rest (a.put o.dst (.slice (some ⟨g, 0, none⟩) (k + 1) n)) w') :
    wpList P ops Q (o :: rest) a (w0.alloc (.cells #[.int .u8 (c.toNat : Int)] 5)) := by
  obtain ⟨i0, h1, h2, h3, h4⟩ := info_parts hi
  have hown1 := OwnB.alloc hown (.cells #[.int .u8 (c.toNat : Int)] 5)
  have hg := (OwnB.block hown g rfl)
  refine wpList_append_arg _ hgd s x t ho 5 i0 (.int .u8 0) 1 1 ht h1 h2 h3 h4 rfl (by decide) g 0 k n ((fs.take k).map byteV) hs (by simp; omega) ?_ ⟨w0.heap.size, 0, none⟩ 1 1 [byteV c] hx rfl ?_ ?_ ?_ (by simp [maxLen]; omega) (by omega) ?_ ?_
  · intro j u hj
    simp only [Nat.zero_add]
    rw [OwnB.cellAt hown1 hfl j (by
      have : j < ((fs.take k).map byteV).length := by
        rcases Nat.lt_or_ge j ((fs.take k).map byteV).length with q | q
        · exact q
        · rw [List.getElem?_eq_none q] at hj; cases hj
      simp at this; omega)]
    rw [List.getElem?_map] at hj
    by_cases hjk : j < k
    · rw [List.getElem?_take_of_lt hjk, List.getElem?_eq_getElem (by omega)] at hj
      simp at hj
      rw [← hj, List.getD_eq_getElem?_getD, List.getElem?_eq_getElem (by omega)]
      rfl
    · rw [List.getElem?_eq_none (by simp; omega)] at hj
      cases hj
  · intro j u hj
    rw [add_plain]
    match j, hj with
    | 0, hj => simp at hj; subst hj; simp [byteV]
  · intro u hu
    simp at hu
    subst hu
    rfl
  · intro _ j hj
    simp at hj
    subst hj
    refine ⟨?_, OwnB.frozenAt hown1 hfl _⟩
    rw [OwnB.cellAt hown1 hfl _ (by omega)]
    rfl
  · intro _
    have e : (w0.alloc (.cells #[.int .u8 (c.toNat : Int)] 5)).setCells g (0 + k * 1) [byteV c] = (w0.alloc (.cells #[.int .u8 (c.toNat : Int)] 5)).setCell ⟨g, k, none⟩ (.int .u8 c.toNat) := by
      simp [World.setCells, byteV]
    rw [e]
    refine h _ (OwnB.set hown1 hfl k c) ?_
    exact ((Below.refl _ _).alloc hbase _).setCell hg.1 _
  · intro hlt
    omega

theorem wpList_appGrow (hgd : o.guard = none) (s x : Operand) (t : TypeId)
    (ho : o.op = .call { callee := .builtin .append, args := #[s, x], argTypes := #[t, t] }) (ht : P.underlying t = some (.slice 5))
    (hi : (P.info? 5).map (fun i => (i.zero, i.size, i.bytes)) = some (some (.int .u8 0), 1, 1))
    (base g n : Nat) (fs : List UInt8) (hs : a.eval s = .slice (some ⟨g, 0, none⟩) n n) (hown : OwnB w0 base (.slice (some ⟨g, 0, none⟩) n n) fs) (hfl : fs.length = n) (c : UInt8)
    (hx : a.eval x = .slice (some ⟨w0.heap.size, 0, none⟩) 1 1) (hlen : n ≤ 140737488355000)
    (h : ∀ v' w', OwnB w' w0.heap.size v' (fs ++ [c]) → Below w0.heap.size w0 w' → wpList P ops Q rest (a.put o.dst v') w') :
    wpList P ops Q (o :: rest) a (w0.alloc (.cells #[.int .u8 (c.toNat : Int)] 5)) := by
  obtain ⟨i0, h1, h2, h3, h4⟩ := info_parts hi
  have hown1 := OwnB.alloc hown (.cells #[.int .u8 (c.toNat : Int)] 5)
  refine wpList_append_arg _ hgd s x t ho 5 i0 (.int .u8 0) 1 1 ht h1 h2 h3 h4 rfl (by decide) g 0 n n (fs.map byteV) hs (by simp; omega) ?_ ⟨w0.heap.size, 0, none⟩ 1 1 [byteV c] hx rfl ?_ ?_ ?_ (by simp [maxLen]; omega) (by omega) ?_ ?_
  · intro j u hj
    simp only [Nat.zero_add]
    rw [List.getElem?_map] at hj
    by_cases hjk : j < n
    · rw [OwnB.cellAt hown1 hfl j hjk]
      rw [List.getElem?_eq_getElem (by omega)] at hj
      simp at hj
      rw [← hj, List.getD_eq_getElem?_getD, List.getElem?_eq_getElem (by omega)]
      rfl
    · rw [List.getElem?_eq_none (by omega)] at hj
      cases hj
  · intro j u hj
    rw [add_plain]
    match j, hj with
    | 0, hj => simp at hj; subst hj; simp [byteV]
  · intro u hu
    simp at hu
    subst hu
    rfl
  · intro hlt
    omega
  · intro hlt
    omega
  · intro _ v' w' g1 g2
    have hb : Below w0.heap.size w0 w' := ((Below.refl _ _).alloc (Nat.le_refl _) _).trans ⟨g2.os, g2.tape, g2.output, g2.size, fun k hk => g2.block k (by simp; omega) (by simp)⟩
    refine h v' w' ?_ hb
    unfold OwnB
    rw [List.length_append, List.map_append, hfl]
    obtain ⟨q1, q2⟩ := g1
    refine ⟨q1, ?_⟩
    rcases q2 with q2 | ⟨g', cap, cur, e1, e2, r⟩
    · exact .inl q2
    · exact .inr ⟨g', cap, cur, e1, by simp at e2; omega, r⟩
end

/-- What became of the full row behind the call: the bytes below k and from 'fin' on as before, those between as in the result. -/
def Over (n k fin : Nat) (fs gl F : List UInt8) : Prop := F.length = n ∧ (∀ i, i < n → (i < k ∨ fin ≤ i) → F.getD i 0 = fs.getD i 0) ∧ (∀ i, i < n → i < fin → F.getD i 0 = gl.getD i 0)

theorem getD_set (l : List UInt8) (k i : Nat) (c : UInt8) (hk : k < l.length) : (l.set k c).getD i 0 = if k = i then c else l.getD i 0 := by
  simp only [List.getD_eq_getElem?_getD, List.getElem?_set]
  by_cases h : k = i
  · subst h; simp [hk]
  · simp [h]
theorem getD_take (l : List UInt8) (k i : Nat) (h : i < k) : (l.take k).getD i 0 = l.getD i 0 := by
  simp only [List.getD_eq_getElem?_getD]; rw [List.getElem?_take_of_lt h]
theorem getD_app (l m : List UInt8) (i : Nat) : (l ++ m).getD i 0 = if i < l.length then l.getD i 0 else m.getD (i - l.length) 0 := by
  simp only [List.getD_eq_getElem?_getD]
  split
  · rw [List.getElem?_append_left (by assumption)]
  · rw [List.getElem?_append_right (by omega)]

theorem take_set_self (l : List UInt8) (k : Nat) (c : UInt8) : (l.set k c).take k = l.take k := by
  rw [List.take_set]
  apply List.set_eq_of_length_le
  simp
  omega

theorem over1 (n k : Nat) (fs : List UInt8) (c : UInt8) (hn : fs.length = n) (hk : k < n) : Over n k (k + 1) fs (fs.take k ++ [c]) (fs.set k c) := by
  have hl : (fs.take k).length = k := by simp; omega
  refine ⟨by simp [hn], fun i hi h => ?_, fun i hi h => ?_⟩
  · rw [getD_set _ _ _ _ (by omega), if_neg (by omega)]
  · rw [getD_set _ _ _ _ (by omega), getD_app, hl]
    by_cases hik : k = i
    · subst hik; simp
    · rw [if_neg hik, if_pos (by omega), getD_take _ _ _ (by omega)]

theorem over2 (n k : Nat) (fs : List UInt8) (c d : UInt8) (hn : fs.length = n) (hk : k + 1 < n) : Over n k (k + 2) fs (fs.take k ++ [c, d]) ((fs.set k c).set (k + 1) d) := by
  have hl : (fs.take k).length = k := by simp; omega
  refine ⟨by simp [hn], fun i hi h => ?_, fun i hi h => ?_⟩
  · rw [getD_set _ _ _ _ (by simp; omega), if_neg (by omega), getD_set _ _ _ _ (by omega), if_neg (by omega)]
  · rw [getD_set _ _ _ _ (by simp; omega), getD_set _ _ _ _ (by omega), getD_app, hl]
    by_cases h1 : k + 1 = i
    · subst h1; rw [if_pos rfl, if_neg (by omega)]; simp
    · rw [if_neg h1]
      by_cases h2 : k = i
      · subst h2; simp
      · rw [if_neg h2, if_pos (by omega), getD_take _ _ _ (by omega)]

theorem over2' (n k : Nat) (fs : List UInt8) (c d : UInt8) (hn : fs.length = n) (hk : k + 1 = n) : Over n k (k + 2) fs (fs.take k ++ [c, d]) (fs.set k c) := by
  have hl : (fs.take k).length = k := by simp; omega
  refine ⟨by simp [hn], fun i hi h => ?_, fun i hi h => ?_⟩
  · rw [getD_set _ _ _ _ (by omega), if_neg (by omega)]
  · rw [getD_set _ _ _ _ (by omega), getD_app, hl]
    by_cases h2 : k = i
    · subst h2; simp
    · rw [if_neg h2, if_pos (by omega), getD_take _ _ _ (by omega)]

theorem over0 (n : Nat) (fs gl : List UInt8) (m : Nat) (hn : fs.length = n) : Over n n m fs (fs.take n ++ gl) fs := by
  have hl : (fs.take n).length = n := by simp; omega
  refine ⟨hn, fun i hi h => rfl, fun i hi h => ?_⟩
  rw [getD_app, hl, if_pos hi, getD_take _ _ _ hi]

/-- appendChar handed the first k bytes of a row that is full. -/
def RoomPost (base g n k : Nat) (fs : List UInt8) (d : UInt8) (w : World) (e : Ending) (w' : World) : Prop :=
  ∃ ao cp F, e = .returned (.slice ao (k + (esc d).length) cp) ∧ BytesAt w' ao (fs.take k ++ esc d) ∧ Over n k (k + (esc d).length) fs (fs.take k ++ esc d) F ∧ OwnB w' base (.slice (some ⟨g, 0, none⟩) n n) F ∧ Below base w w'

theorem shape_of {w : World} {base : Nat} {v : Value} {bs : List UInt8} (h : OwnB w base v bs) (m : Nat) (hm : bs.length = m) : ∃ ao cap, v = .slice ao m cap ∧ BytesAt w ao bs := by
  obtain ⟨ao, cap, e, _, _, hb⟩ := h.shape
  rw [hm] at e
  exact ⟨ao, cap, e, hb⟩

set_option maxHeartbeats 1000000 in
theorem appendChar_room (base g k n : Nat) (fs : List UInt8) (d : UInt8) (w : World) (hown : OwnB w base (.slice (some ⟨g, 0, none⟩) n n) fs) (hfl : fs.length = n) (hk : k ≤ n) (hn : n ≤ 140737488350000) (hbase : base ≤ w.heap.size) :
    Calls Ycbm.prog 7 #[.slice (some ⟨g, 0, none⟩) k n, .int .u8 d.toNat] w (RoomPost base g n k fs d w) := by
  have HO := hid hown
  have HF := hid hfl
  have hg := (OwnB.block hown g rfl)
  have HG := hid hg
  clear hown hfl hg
  rcases sp_cases d with ⟨h1, he⟩ | ⟨h1, he⟩ | ⟨h1, he⟩ | ⟨h1, he⟩ | ⟨h1, he⟩ | ⟨h1, he⟩ | ⟨h1, he⟩ | ⟨h1, h2, h3, h4, h5, h6, h7, he⟩
  case inr.inr.inr.inr.inr.inr.inr =>
    have HE := hid he
    clear he
    by_cases hkn : k < n
    · go_enter Ycbm.func7, Ycbm.ntmps7
      go_wp2_with (at_builtin; go_must (refine wpList_appRoom w rfl (.tmp 17) (.tmp 19) 22 rfl Ycbm.underlying22 Ycbm.info5 base g k n fs rfl HO.out HF.out hkn d rfl (by omega) hbase ?_); intro w1 hown1 hb1)
      go_ret
      unfold RoomPost
      rw [HE.out]
      obtain ⟨ao, cp, e, hba⟩ := shape_of (OwnB.front hown1 (by simp [HF.out]) (k + 1) (by omega)) (k + 1) (by simp [HF.out]; omega)
      have hte : (fs.set k d).take (k + 1) = fs.take k ++ [d] := by
        rw [List.take_succ_eq_append_getElem (by simp [HF.out]; omega), take_set_self]
        simp
      rw [hte] at hba
      simp only [Value.slice.injEq] at e
      obtain ⟨rfl, _, rfl⟩ := e
      exact ⟨_, _, _, rfl, hba, over1 n k fs d HF.out hkn, hown1, hb1⟩
    · have hkn' : k = n := by omega
      subst hkn'
      go_enter Ycbm.func7, Ycbm.ntmps7
      go_wp2_with (at_builtin; go_must (refine wpList_appGrow w rfl (.tmp 17) (.tmp 19) 22 rfl Ycbm.underlying22 Ycbm.info5 base g k fs rfl HO.out HF.out d rfl (by omega) ?_); intro v1 w1 hown1 hb1)
      go_ret
      unfold RoomPost
      rw [HE.out]
      obtain ⟨ao, cp, e, hba⟩ := shape_of hown1 (k + 1) (by simp [HF.out])
      have htk : fs.take k = fs := List.take_of_length_le (by rw [HF.out]; omega)
      have hov := over0 k fs [d] (k + 1) HF.out
      rw [htk] at hov ⊢
      exact ⟨ao, cp, fs, congrArg _ e, hba, hov, OwnB.below HO.out hb1 (fun j hj => by simp [Value.ownBlock] at hj; have := HG.out; omega), hb1.mono hbase⟩
  all_goals
    have HE := hid he
    clear he
    obtain ⟨x42, g42⟩ : ∃ x, ((d.toNat : Int) == 42) = x := ⟨_, rfl⟩
    obtain ⟨x63, g63⟩ : ∃ x, ((d.toNat : Int) == 63) = x := ⟨_, rfl⟩
    obtain ⟨x91, g91⟩ : ∃ x, ((d.toNat : Int) == 91) = x := ⟨_, rfl⟩
    obtain ⟨x93, g93⟩ : ∃ x, ((d.toNat : Int) == 93) = x := ⟨_, rfl⟩
    obtain ⟨x92, g92⟩ : ∃ x, ((d.toNat : Int) == 92) = x := ⟨_, rfl⟩
    obtain ⟨x45, g45⟩ : ∃ x, ((d.toNat : Int) == 45) = x := ⟨_, rfl⟩
    obtain ⟨x33, g33⟩ : ∃ x, ((d.toNat : Int) == 33) = x := ⟨_, rfl⟩
    have H1 := hid h1
    have y42 : x42 = decide (d.toNat = 42) := by rw [← g42, Bool.eq_iff_iff]; simp; omega
    have y63 : x63 = decide (d.toNat = 63) := by rw [← g63, Bool.eq_iff_iff]; simp; omega
    have y91 : x91 = decide (d.toNat = 91) := by rw [← g91, Bool.eq_iff_iff]; simp; omega
    have y93 : x93 = decide (d.toNat = 93) := by rw [← g93, Bool.eq_iff_iff]; simp; omega
    have y92 : x92 = decide (d.toNat = 92) := by rw [← g92, Bool.eq_iff_iff]; simp; omega
    have y45 : x45 = decide (d.toNat = 45) := by rw [← g45, Bool.eq_iff_iff]; simp; omega
    have y33 : x33 = decide (d.toNat = 33) := by rw [← g33, Bool.eq_iff_iff]; simp; omega
    simp only [h1] at y42 y63 y91 y93 y92 y45 y33
    subst y42 y63 y91 y93 y92 y45 y33
    simp only [Nat.reduceEqDiff, decide_false, decide_true] at g42 g63 g91 g93 g92 g45 g33
    clear h1
    by_cases hk2 : k + 1 < n
    · go_enter Ycbm.func7, Ycbm.ntmps7
      go_wp2_with (first
        | (at_builtin; refine wpList_appRoom w rfl (.tmp 14) (.tmp 15) 22 rfl Ycbm.underlying22 Ycbm.info5 base g k n fs rfl HO.out HF.out (by omega) 92 rfl (by omega) hbase ?_; intro w1 hown1 hb1)
        | (at_builtin; refine wpList_appRoom w1 rfl (.tmp 17) (.tmp 19) 22 rfl Ycbm.underlying22 Ycbm.info5 base g (k + 1) n _ rfl hown1 (by simp [HF.out]) (by omega) d rfl (by omega) (Nat.le_trans hbase hb1.size) ?_; intro w2 hown2 hb2))
      go_ret
      unfold RoomPost
      rw [HE.out]
      obtain ⟨ao, cp, e, hba⟩ := shape_of (OwnB.front hown2 (by simp [HF.out]) (k + 2) (by omega)) (k + 2) (by simp [HF.out]; omega)
      have hte : ((fs.set k 92).set (k + 1) d).take (k + 2) = fs.take k ++ [92, d] := by
        rw [List.take_succ_eq_append_getElem (by simp [HF.out]; omega), take_set_self, List.take_succ_eq_append_getElem (by simp [HF.out]; omega), take_set_self]
        simp
      rw [hte] at hba
      simp only [Value.slice.injEq] at e
      obtain ⟨rfl, _, rfl⟩ := e
      exact ⟨_, _, _, rfl, hba, over2 n k fs 92 d HF.out hk2, hown2, hb1.trans hb2⟩
    · by_cases hk1 : k < n
      · have hkn' : k + 1 = n := by omega
        go_enter Ycbm.func7, Ycbm.ntmps7
        go_wp2_with (first
          | (at_builtin; refine wpList_appRoom w rfl (.tmp 14) (.tmp 15) 22 rfl Ycbm.underlying22 Ycbm.info5 base g k n fs rfl HO.out HF.out (by omega) 92 rfl (by omega) hbase ?_; intro w1 hown1 hb1)
          | (at_builtin; refine wpList_appGrow w1 rfl (.tmp 17) (.tmp 19) 22 rfl Ycbm.underlying22 Ycbm.info5 base g n _ (by rw [← hkn']; rfl) hown1 (by simp [HF.out]) d rfl (by omega) ?_; intro v2 w2 hown2 hb2))
        go_ret
        unfold RoomPost
        rw [HE.out]
        obtain ⟨ao, cp, e, hba⟩ := shape_of hown2 (k + 2) (by simp [HF.out]; omega)
        have hte : fs.set k 92 ++ [d] = fs.take k ++ [92, d] := by
          have h3 : fs.set k 92 = (fs.set k 92).take (k + 1) := (List.take_of_length_le (by simp [HF.out]; omega)).symm
          rw [h3, List.take_succ_eq_append_getElem (by simp [HF.out]; omega), take_set_self]
          simp
        rw [hte] at hba
        exact ⟨ao, cp, _, congrArg _ e, hba, over2' n k fs 92 d HF.out hkn', OwnB.below hown1 hb2 (fun j hj => by simp [Value.ownBlock] at hj; have := HG.out; have := hb1.size; omega), hb1.trans (hb2.mono (Nat.le_trans hbase hb1.size))⟩
      · have hkn' : k = n := by omega
        subst hkn'
        go_enter Ycbm.func7, Ycbm.ntmps7
        go_wp2_with (first
          | (at_builtin; refine wpList_appGrow w rfl (.tmp 14) (.tmp 15) 22 rfl Ycbm.underlying22 Ycbm.info5 base g k fs rfl HO.out HF.out 92 rfl (by omega) ?_; intro v1 w1 hown1 hb1)
          | (at_builtin; refine wpList_appB1 w1 rfl (.tmp 17) (.tmp 19) 22 rfl Ycbm.underlying22 Ycbm.info5 w.heap.size _ _ (by rfl) hown1 d rfl (by simp [HF.out]; omega) hb1.size ?_; intro v2 w2 hown2 hb2))
        go_ret
        unfold RoomPost
        rw [HE.out]
        obtain ⟨ao, cp, e, hba⟩ := shape_of hown2 (k + 2) (by simp [HF.out])
        have htk : fs.take k = fs := List.take_of_length_le (by rw [HF.out]; omega)
        have hov := over0 k fs [92, d] (k + 2) HF.out
        rw [htk] at hov ⊢
        have hte : fs ++ [92] ++ [d] = fs ++ [92, d] := by simp
        rw [hte] at hba
        exact ⟨ao, cp, fs, congrArg _ e, hba, hov, OwnB.below HO.out (hb1.trans hb2) (fun j hj => by simp [Value.ownBlock] at hj; have := HG.out; omega), (hb1.trans hb2).mono hbase⟩
end Go.Proofs.Ymbrcb

import Derived.Test.YmbrbzParse
import Derived.Test.YmbrbzDSpecFn
namespace Go.Proofs.Ymbrbz
open Go.RowKit Go.WideShapes

/-- Within a class: the tokens so far as they were at its '[', the class's ranges in a row made since. -/
def InC (w wr : World) (tv : Value) (TS : List Tk) (rv : Value) (RS : List (UInt8 × UInt8)) : Prop := ∃ wA, PB w wA w.heap.size tv TS ∧ Below wA.heap.size wA wr ∧ OwnR wr wA.heap.size rv RS

theorem InC.pb {w wr : World} {tv : Value} {TS : List Tk} {rv : Value} {RS : List (UInt8 × UInt8)} (h : InC w wr tv TS rv RS) : PB w wr w.heap.size tv TS := by
  obtain ⟨wA, h1, h2, _⟩ := h
  exact h1.later h1.below.size h2

theorem InC.new {w wr : World} {tv : Value} {TS : List Tk} (h : PB w wr w.heap.size tv TS) : InC w wr tv TS (.slice none 0 0) [] := ⟨wr, h, Below.refl _ _, OwnR.nil _ _⟩

theorem setHi {w : World} {base g n cp : Nat} {acc : List (UInt8 × UInt8)} {lo x : UInt8} (h : OwnR w base (.slice (some ⟨g, 0, none⟩) n cp) (acc ++ [(lo, x)])) (c : UInt8) : OwnR (w.setCell ⟨g, acc.length * 2 + 1, none⟩ (.int .u8 c.toNat)) base (.slice (some ⟨g, 0, none⟩) n cp) (acc ++ [(lo, c)]) := by
  have hn : n = (acc ++ [(lo, x)]).length := by
    obtain ⟨_, _, e, _⟩ := h.shape
    simp only [Value.slice.injEq] at e
    exact e.2.1
  have h1 : w.ownsRow base 29 2 (.slice (some ⟨g, 0, none⟩) n cp) n ((acc ++ [(lo, x)]).flatMap rangeV) := by
    unfold OwnR at h
    rw [← hn] at h
    exact h
  have h2 := (World.ownsRow.stored h1 (acc.length * 2 + 1) (.int .u8 c.toNat)).1
  have e : ((acc ++ [(lo, x)]).flatMap rangeV).set (acc.length * 2 + 1) (.int .u8 c.toNat) = (acc ++ [(lo, c)]).flatMap rangeV := by
    rw [List.flatMap_append, List.flatMap_append]
    have hl := flat_len acc
    rw [List.set_append_right _ _ (by rw [hl]; omega), hl]
    have : acc.length * 2 + 1 - acc.length * 2 = 1 := by omega
    rw [this]
    rfl
  rw [e] at h2
  unfold OwnR
  have e3 : (acc ++ [(lo, c)]).length = n := by rw [hn]; simp
  rw [e3]
  exact h2

/-- The last range of a row of ranges. -/
theorem last_at {w : World} {base : Nat} {ao : Option Addr} {n cp : Nat} {acc : List (UInt8 × UInt8)} {lo x : UInt8} (h : OwnR w base (.slice ao n cp) (acc ++ [(lo, x)])) : ∃ g, ao = some ⟨g, 0, none⟩ ∧ base ≤ g ∧ w.cell? ⟨g, acc.length * 2 + 1, none⟩ = some (.int .u8 x.toNat) ∧ w.frozen? ⟨g, acc.length * 2 + 1, none⟩ = false := by
  obtain ⟨ao', cap', e, _, _, hra⟩ := h.shape
  simp only [Value.slice.injEq] at e
  obtain ⟨rfl, _, rfl⟩ := e
  obtain ⟨b, off, e2, _, g1⟩ := hra acc.length (by simp)
  obtain ⟨_, ⟨e3, _⟩ | ⟨g, cap', cur, e3, hb, hg, _⟩⟩ := h
  · simp only [Value.slice.injEq] at e3
    rw [e3.1] at e2; cases e2
  · simp only [Value.slice.injEq] at e3
    rw [e3.1] at e2
    simp only [Option.some.injEq, Addr.mk.injEq] at e2
    obtain ⟨rfl, rfl, _⟩ := e2
    refine ⟨g, e3.1, hb, ?_, ?_⟩
    · have : (acc ++ [(lo, x)]).getD acc.length (0, 0) = (lo, x) := by simp [List.getD_eq_getElem?_getD]
      rw [this] at g1
      simpa using g1
    · simp [World.frozen?, hg]

/-- What the loop has: the state, the tokens, the class's ranges, and that what is still to come says the rest. -/
def SpecInv (l : List UInt8) (w wr : World) (i : Nat) (tv rv ngv lowv stv : Value) : Prop :=
  ∃ TS : List Tk, TS.length ≤ i ∧
    ((stv = .int .i64 0 ∧ PB w wr w.heap.size tv TS ∧ parse l = (parse (l.drop i)).map (TS.map Tk.pk ++ ·)) ∨
     (stv = .int .i64 1 ∧ PB w wr w.heap.size tv TS ∧ parse l = (st1 (l.drop i)).map (TS.map Tk.pk ++ ·)) ∨
     (stv = .int .i64 2 ∧ ngv = .bool false ∧ rv = .slice none 0 0 ∧ PB w wr w.heap.size tv TS ∧ parse l = (st2 (l.drop i)).map (TS.map Tk.pk ++ ·)) ∨
     (∃ neg RS, RS.length ≤ i ∧ stv = .int .i64 3 ∧ ngv = .bool neg ∧ InC w wr tv TS rv RS ∧ parse l = (st3 neg RS (l.drop i)).map (TS.map Tk.pk ++ ·)) ∨
     (∃ neg RS, RS.length ≤ i ∧ stv = .int .i64 4 ∧ ngv = .bool neg ∧ InC w wr tv TS rv RS ∧ parse l = (st4 neg RS (l.drop i)).map (TS.map Tk.pk ++ ·)) ∨
     (∃ neg RS lo, RS.length + 1 ≤ i ∧ stv = .int .i64 5 ∧ ngv = .bool neg ∧ lowv = .int .u8 (lo : UInt8).toNat ∧ InC w wr tv TS rv (RS ++ [(lo, lo)]) ∧ parse l = (st5 neg RS lo (l.drop i)).map (TS.map Tk.pk ++ ·)) ∨
     (∃ neg RS lo, RS.length + 1 ≤ i ∧ stv = .int .i64 6 ∧ ngv = .bool neg ∧ lowv = .int .u8 (lo : UInt8).toNat ∧ InC w wr tv TS rv (RS ++ [(lo, lo)]) ∧ parse l = (st6 neg RS lo (l.drop i)).map (TS.map Tk.pk ++ ·)) ∨
     (∃ neg RS lo, RS.length + 1 ≤ i ∧ stv = .int .i64 7 ∧ ngv = .bool neg ∧ lowv = .int .u8 (lo : UInt8).toNat ∧ InC w wr tv TS rv (RS ++ [(lo, lo)]) ∧ parse l = (st7 neg RS lo (l.drop i)).map (TS.map Tk.pk ++ ·)))

theorem tok_more {o : Option (List Pk)} {r : List UInt8} {p : Pk} {L : List Pk} {X : Option (List Pk)} (h : X = o.map (L ++ ·)) (h1 : o = (parse r).map (p :: ·)) : X = (parse r).map ((L ++ [p]) ++ ·) := by
  rw [h, h1, Option.map_map]
  congr 1
  funext x
  simp

theorem st5_o {R2 RS : List (UInt8 × UInt8)} {lo c : UInt8} (h : R2 = RS ++ [(lo, lo)]) (hc : c.toNat ≠ 45) (neg : Bool) (t : List UInt8) : st5 neg RS lo (c :: t) = st3 neg R2 (c :: t) := by rw [h]; exact st5_other hc neg RS lo t

theorem tok_on {o o' : Option (List Pk)} {L : List Pk} {X : Option (List Pk)} (h : X = o.map (L ++ ·)) (h1 : o = o') : X = o'.map (L ++ ·) := by rw [h, h1]
theorem tok_no {o : Option (List Pk)} {L : List Pk} {X : Option (List Pk)} (h : X = o.map (L ++ ·)) (h1 : o = none) : X = none := by rw [h, h1]; rfl

set_option maxHeartbeats 8000000 in
set_option maxRecDepth 4000 in
theorem dspec_any (s : ByteArray) (hs : s.size ≤ 1000000) (w : World) :
    Calls Ybzm.prog 40 #[.string s] w (ParsePost s.data.toList w) := by
  have finNone : Hid (∀ W : World, parse s.data.toList = none → Below w.heap.size w W → ParsePost s.data.toList w (.returned (.tuple #[.slice none 0 0, .bool false])) W) := fun W h hb => .inl ⟨h, rfl, hb⟩
  have finSome : Hid (∀ (W : World) (TS : List Tk) (ao : Option Addr) (cp : Nat), parse s.data.toList = some (TS.map Tk.pk) → TS.length ≤ s.size → PB w W w.heap.size (.slice ao TS.length cp) TS → ParsePost s.data.toList w (.returned (.tuple #[.slice ao TS.length cp, .bool true])) W) := fun W TS ao cp h hl hb => .inr ⟨TS, ao, cp, h, rfl, by simpa using hl, hb⟩
  obtain ⟨P, hP⟩ : ∃ P, P = ParsePost s.data.toList w := ⟨_, rfl⟩
  rw [← hP] at finNone finSome ⊢
  clear hP
  obtain ⟨l, hl⟩ : ∃ l, l = s.data.toList := ⟨_, rfl⟩
  have HD : Hid (∀ i (h : i < s.size), l.drop i = s[i] :: l.drop (i + 1)) := fun i h => by rw [hl]; exact dropAt s i h
  have HDE : Hid (∀ i, s.size ≤ i → l.drop i = []) := fun i h => by rw [hl]; exact dropEnd s i h
  rw [← hl] at finNone finSome
  clear hl
  go_enter Ybzm.func40, Ybzm.ntmps40
  go_wp2_with fail
  go_loopg [4, 5, 6, 7, 8, 9] s.size (fun g tv rv ngv lowv stv kv wr => ∃ i : Nat, g = s.size - i ∧ i ≤ s.size ∧ kv = .int .i64 i ∧ SpecInv l w wr i tv rv ngv lowv stv)
  case atStart => exact ⟨0, rfl, Nat.zero_le _, rfl, [], Nat.zero_le _, .inl ⟨rfl, ⟨OwnT.nil _ _, fun t h => absurd h List.not_mem_nil, Below.refl _ _⟩, by simp⟩⟩
  case round =>
    obtain ⟨i, rfl, hi, rfl, TS, hTS, hinv⟩ := hrel
    have HTS := hid hTS
    clear hTS
    by_cases his : i < s.size
    · have HDI := hid (HD.out i his)
      obtain ⟨r, hr⟩ : ∃ r, r = l.drop (i + 1) := ⟨_, rfl⟩
      rw [← hr] at HDI
      have HRD := hid hr
      clear hr
      rcases hinv with hinv | hinv | hinv | hinv | hinv | hinv | hinv | hinv
      · obtain ⟨rfl, hPB, hP⟩ := hinv
        have HPB := hid hPB
        have HP := hid hP
        clear hPB hP
        by_cases h42 : s[i].toNat = 42
        · have HN := hid (tok_more HP.out (by rw [HDI.out]; exact top_star h42 _))
          go_wp2_with (at_builtin; go_must (refine wpList_appT wr rfl (.tmp 51) (.tmp 53) 31 rfl Ybzm.underlying31 Ybzm.infoToken w.heap.size _ TS (by rfl) HPB.out.own ⟨2, 0, false, [], none, 0⟩ _ rfl (by simp) (by have := HTS.out; omega) HPB.out.below.size ?_); intro ao9 cp9 w9 hown9 hb9 hg9; have HO9 := hid hown9; have HG9 := hid hg9; clear hown9 hg9)
          rw [HRD.out] at HN
          go_roundg (s.size - (i + 1))
          case rel => exact ⟨i + 1, rfl, by omega, by go_num, _, by have := HTS.out; simp; omega, .inl ⟨rfl, PB.step HPB.out (clean_none _ _ 2 0 (by omega) (by omega)) HG9.out hb9 HO9.out, by rw [HN.out]; simp [Tk.pk]⟩⟩
          case measure => omega
        · have n42 : ((s[i].toNat : Int) == 42) = false := beq_eq_false_iff_ne.2 (by omega)
          by_cases h63 : s[i].toNat = 63
          · have HN := hid (tok_more HP.out (by rw [HDI.out]; exact top_any h63 _))
            go_wp2_with (at_builtin; go_must (refine wpList_appT wr rfl (.tmp 57) (.tmp 59) 31 rfl Ybzm.underlying31 Ybzm.infoToken w.heap.size _ TS (by rfl) HPB.out.own ⟨1, 0, false, [], none, 0⟩ _ rfl (by simp) (by have := HTS.out; omega) HPB.out.below.size ?_); intro ao9 cp9 w9 hown9 hb9 hg9; have HO9 := hid hown9; have HG9 := hid hg9; clear hown9 hg9)
            rw [HRD.out] at HN
            go_roundg (s.size - (i + 1))
            case rel => exact ⟨i + 1, rfl, by omega, by go_num, _, by have := HTS.out; simp; omega, .inl ⟨rfl, PB.step HPB.out (clean_none _ _ 1 0 (by omega) (by omega)) HG9.out hb9 HO9.out, by rw [HN.out]; simp [Tk.pk]⟩⟩
            case measure => omega
          · have n63 : ((s[i].toNat : Int) == 63) = false := beq_eq_false_iff_ne.2 (by omega)
            by_cases h92 : s[i].toNat = 92
            · have hp0 := HP.out
              rw [HDI.out] at hp0
              have HN := hid (tok_on hp0 (top_esc h92 _))
              rw [HRD.out] at HN
              clear hp0
              go_wp2_with fail
              go_roundg (s.size - (i + 1))
              case rel => exact ⟨i + 1, rfl, by omega, by go_num, TS, by have := HTS.out; omega, .inr (.inl ⟨rfl, HPB.out, HN.out⟩)⟩
              case measure => omega
            · have n92 : ((s[i].toNat : Int) == 92) = false := beq_eq_false_iff_ne.2 (by omega)
              by_cases h91 : s[i].toNat = 91
              · have hp0 := HP.out
                rw [HDI.out] at hp0
                have HN := hid (tok_on hp0 (top_open h91 _))
                rw [HRD.out] at HN
                clear hp0
                go_wp2_with fail
                go_roundg (s.size - (i + 1))
                case rel => exact ⟨i + 1, rfl, by omega, by go_num, TS, by have := HTS.out; omega, .inr (.inr (.inl ⟨rfl, rfl, rfl, HPB.out, HN.out⟩))⟩
                case measure => omega
              · have n91 : ((s[i].toNat : Int) == 91) = false := beq_eq_false_iff_ne.2 (by omega)
                have HN := hid (tok_more HP.out (by rw [HDI.out]; exact top_lit h42 h63 h91 h92 _))
                go_wp2_with (at_builtin; go_must (refine wpList_appT wr rfl (.tmp 65) (.tmp 68) 31 rfl Ybzm.underlying31 Ybzm.infoToken w.heap.size _ TS (by rfl) HPB.out.own ⟨0, s[i], false, [], none, 0⟩ _ rfl (by simp) (by have := HTS.out; omega) HPB.out.below.size ?_); intro ao9 cp9 w9 hown9 hb9 hg9; have HO9 := hid hown9; have HG9 := hid hg9; clear hown9 hg9)
                rw [HRD.out] at HN
                go_roundg (s.size - (i + 1))
                case rel => exact ⟨i + 1, rfl, by omega, by go_num, _, by have := HTS.out; simp; omega, .inl ⟨rfl, PB.step HPB.out (clean_none _ _ 0 s[i] (by omega) (by omega)) HG9.out hb9 HO9.out, by rw [HN.out]; simp [Tk.pk]⟩⟩
                case measure => omega

      · obtain ⟨rfl, hPB, hP⟩ := hinv
        have HPB := hid hPB
        have HP := hid hP
        clear hPB hP
        have HN := hid (tok_more HP.out (by rw [HDI.out]; exact rfl))
        go_wp2_with (at_builtin; go_must (refine wpList_appT wr rfl (.tmp 72) (.tmp 75) 31 rfl Ybzm.underlying31 Ybzm.infoToken w.heap.size _ TS (by rfl) HPB.out.own ⟨0, s[i], false, [], none, 0⟩ _ rfl (by simp) (by have := HTS.out; omega) HPB.out.below.size ?_); intro ao9 cp9 w9 hown9 hb9 hg9; have HO9 := hid hown9; have HG9 := hid hg9; clear hown9 hg9)
        rw [HRD.out] at HN
        go_roundg (s.size - (i + 1))
        case rel => exact ⟨i + 1, rfl, by omega, by go_num, _, by have := HTS.out; simp; omega, .inl ⟨rfl, PB.step HPB.out (clean_none _ _ 0 s[i] (by omega) (by omega)) HG9.out hb9 HO9.out, by rw [HN.out]; simp [Tk.pk]⟩⟩
        case measure => omega

      · obtain ⟨rfl, rfl, rfl, hPB, hP⟩ := hinv
        have HP := hid hP
        have HPA := hid hPB
        obtain ⟨wA, hwA⟩ : ∃ wA, wA = wr := ⟨_, rfl⟩
        have hbA : Below wA.heap.size wA wr := by rw [hwA]; exact Below.refl _ _
        have HOR : Hid (OwnR wr wA.heap.size (.slice none 0 0) []) := OwnR.nil _ _
        have HRL : Hid (([] : List (UInt8 × UInt8)).length ≤ i) := Nat.zero_le _
        have HPW : Hid (PB w wA w.heap.size _ TS) := hid (by rw [hwA]; exact hPB)
        clear hPB hP hwA
        by_cases h33 : s[i].toNat = 33
        · have hp0 := HP.out
          rw [HDI.out] at hp0
          have HN := hid (tok_on hp0 (st2_bang h33 _))
          rw [HRD.out] at HN
          clear hp0
          go_wp2_with fail
          go_roundg (s.size - (i + 1))
          case rel => exact ⟨i + 1, rfl, by omega, by go_num, TS, by have := HTS.out; omega, .inr (.inr (.inr (.inl ⟨true, [], Nat.zero_le _, rfl, rfl, InC.new HPA.out, HN.out⟩)))⟩
          case measure => omega
        · have n33 : ((s[i].toNat : Int) == 33) = false := beq_eq_false_iff_ne.2 (by omega)
          by_cases h93 : s[i].toNat = 93
          · have HX := hid (tok_no HP.out (by rw [HDI.out]; exact (st2_other h33 _).trans (st3_end0 h93 _ _)))
            have HB := hid HPA.out.below
            go_wp2_with fail
            first | exact finNone.out _ HX.out HB.out | (go_ret; exact finNone.out _ HX.out HB.out)
          · have n93 : ((s[i].toNat : Int) == 93) = false := beq_eq_false_iff_ne.2 (by omega)
            by_cases h45 : s[i].toNat = 45
            · have HX := hid (tok_no HP.out (by rw [HDI.out]; exact (st2_other h33 _).trans (st3_dash h45 _ _ _)))
              have HB := hid HPA.out.below
              go_wp2_with fail
              first | exact finNone.out _ HX.out HB.out | (go_ret; exact finNone.out _ HX.out HB.out)
            · have n45 : ((s[i].toNat : Int) == 45) = false := beq_eq_false_iff_ne.2 (by omega)
              by_cases h92 : s[i].toNat = 92
              · have hp0 := HP.out
                rw [HDI.out] at hp0
                have HN := hid (tok_on hp0 ((st2_other h33 _).trans (st3_esc h92 _ _ _)))
                rw [HRD.out] at HN
                clear hp0
                go_wp2_with fail
                go_roundg (s.size - (i + 1))
                case rel => exact ⟨i + 1, rfl, by omega, by go_num, TS, by have := HTS.out; omega, .inr (.inr (.inr (.inr (.inl ⟨false, [], Nat.zero_le _, rfl, rfl, InC.new HPA.out, HN.out⟩))))⟩
                case measure => omega
              · have n92 : ((s[i].toNat : Int) == 92) = false := beq_eq_false_iff_ne.2 (by omega)
                have hp0 := HP.out
                rw [HDI.out] at hp0
                have HN := hid (tok_on hp0 ((st2_other h33 _).trans (st3_byte h92 h93 h45 _ _ _)))
                rw [HRD.out] at HN
                clear hp0
                go_wp2_with (at_builtin; go_must (refine wpList_appR wr rfl (.tmp 105) (.tmp 109) 22 rfl Ybzm.underlying22 Ybzm.infoRange wA.heap.size _ ([]) (by rfl) HOR.out s[i] s[i] _ rfl (by simp) (by have := HRL.out; first | omega | (simp; omega) | simp) hbA.size ?_); intro ao8 cp8 w8 hown8 hb8 _; have HO8 := hid hown8; clear hown8)
                go_roundg (s.size - (i + 1))
                case rel => exact ⟨i + 1, rfl, by omega, by go_num, TS, by have := HTS.out; omega, .inr (.inr (.inr (.inr (.inr (.inl ⟨_, [], s[i], by have := HRL.out; first | omega | (simp; omega) | simp, rfl, rfl, rfl, ⟨wA, HPW.out, hbA.trans hb8, HO8.out⟩, HN.out⟩)))))⟩
                case measure => omega

      · obtain ⟨neg, RS, hRL, rfl, rfl, hIC, hP⟩ := hinv
        have HP := hid hP
        have HPB := hid hIC.pb
        have HIC := hid hIC
        obtain ⟨wA, hPA, hbA, hOR⟩ := hIC
        have HPA := hid hPA
        have HRL := hid hRL
        obtain ⟨aoR, cpR, hvR, _⟩ := hOR.shape
        subst hvR
        have HOR := hid hOR
        clear hP hPA hRL hOR
        by_cases h93 : s[i].toNat = 93
        · by_cases hRS : RS = []
          · subst hRS
            simp only [List.length_nil] at HOR HIC ⊢
            have HX := hid (tok_no HP.out (by rw [HDI.out]; exact st3_end0 h93 _ _))
            have HB := hid HPB.out.below
            go_wp2_with fail
            first | exact finNone.out _ HX.out HB.out | (go_ret; exact finNone.out _ HX.out HB.out)
          · have hne : ((RS.length : Int) == 0) = false := beq_eq_false_iff_ne.2 (by have := List.length_pos_iff.2 hRS; omega)
            have HN := hid (tok_more HP.out (by rw [HDI.out]; exact st3_end h93 _ _ hRS _))
            go_wp2_with (at_builtin; go_must (refine wpList_appT wr rfl (.tmp 92) (.tmp 96) 31 rfl Ybzm.underlying31 Ybzm.infoToken w.heap.size _ TS (by rfl) HPB.out.own ⟨3, 0, neg, RS, aoR, cpR⟩ _ rfl (by simp) (by have := HTS.out; omega) HPB.out.below.size ?_); intro ao9 cp9 w9 hown9 hb9 hg9; have HO9 := hid hown9; have HG9 := hid hg9; clear hown9 hg9)
            rw [HRD.out] at HN
            go_roundg (s.size - (i + 1))
            case rel => exact ⟨i + 1, rfl, by omega, by go_num, _, by have := HTS.out; simp; omega, .inl ⟨rfl, PB.step HPB.out (clean_own HOR.out 0 neg) HG9.out hb9 HO9.out, by rw [HN.out]; simp [Tk.pk]⟩⟩
            case measure => omega
        · have n93 : ((s[i].toNat : Int) == 93) = false := beq_eq_false_iff_ne.2 (by omega)
          by_cases h45 : s[i].toNat = 45
          · have HX := hid (tok_no HP.out (by rw [HDI.out]; exact st3_dash h45 _ _ _))
            have HB := hid HPB.out.below
            go_wp2_with fail
            first | exact finNone.out _ HX.out HB.out | (go_ret; exact finNone.out _ HX.out HB.out)
          · have n45 : ((s[i].toNat : Int) == 45) = false := beq_eq_false_iff_ne.2 (by omega)
            by_cases h92 : s[i].toNat = 92
            · have hp0 := HP.out
              rw [HDI.out] at hp0
              have HN := hid (tok_on hp0 (st3_esc h92 _ _ _))
              rw [HRD.out] at HN
              clear hp0
              go_wp2_with fail
              go_roundg (s.size - (i + 1))
              case rel => exact ⟨i + 1, rfl, by omega, by go_num, TS, by have := HTS.out; omega, .inr (.inr (.inr (.inr (.inl ⟨neg, RS, Nat.le_succ_of_le HRL.out, rfl, rfl, HIC.out, HN.out⟩))))⟩
              case measure => omega
            · have n92 : ((s[i].toNat : Int) == 92) = false := beq_eq_false_iff_ne.2 (by omega)
              have hp0 := HP.out
              rw [HDI.out] at hp0
              have HN := hid (tok_on hp0 (st3_byte h92 h93 h45 _ _ _))
              rw [HRD.out] at HN
              clear hp0
              go_wp2_with (at_builtin; go_must (refine wpList_appR wr rfl (.tmp 105) (.tmp 109) 22 rfl Ybzm.underlying22 Ybzm.infoRange wA.heap.size _ (RS) (by rfl) HOR.out s[i] s[i] _ rfl (by simp) (by have := HRL.out; first | omega | (simp; omega) | simp) hbA.size ?_); intro ao8 cp8 w8 hown8 hb8 _; have HO8 := hid hown8; clear hown8)
              go_roundg (s.size - (i + 1))
              case rel => exact ⟨i + 1, rfl, by omega, by go_num, TS, by have := HTS.out; omega, .inr (.inr (.inr (.inr (.inr (.inl ⟨_, RS, s[i], by have := HRL.out; first | omega | (simp; omega) | simp, rfl, rfl, rfl, ⟨wA, HPA.out, hbA.trans hb8, HO8.out⟩, HN.out⟩)))))⟩
              case measure => omega

      · obtain ⟨neg, RS, hRL, rfl, rfl, hIC, hP⟩ := hinv
        have HP := hid hP
        have HPB := hid hIC.pb
        have HIC := hid hIC
        obtain ⟨wA, hPA, hbA, hOR⟩ := hIC
        have HPA := hid hPA
        have HRL := hid hRL
        obtain ⟨aoR, cpR, hvR, _⟩ := hOR.shape
        subst hvR
        have HOR := hid hOR
        clear hP hPA hRL hOR
        have hp0 := HP.out
        rw [HDI.out] at hp0
        have HN := hid (tok_on hp0 (rfl))
        rw [HRD.out] at HN
        clear hp0
        go_wp2_with (at_builtin; go_must (refine wpList_appR wr rfl (.tmp 114) (.tmp 118) 22 rfl Ybzm.underlying22 Ybzm.infoRange wA.heap.size _ (RS) (by rfl) HOR.out s[i] s[i] _ rfl (by simp) (by have := HRL.out; first | omega | (simp; omega) | simp) hbA.size ?_); intro ao8 cp8 w8 hown8 hb8 _; have HO8 := hid hown8; clear hown8)
        go_roundg (s.size - (i + 1))
        case rel => exact ⟨i + 1, rfl, by omega, by go_num, TS, by have := HTS.out; omega, .inr (.inr (.inr (.inr (.inr (.inl ⟨_, RS, s[i], by have := HRL.out; first | omega | (simp; omega) | simp, rfl, rfl, rfl, ⟨wA, HPA.out, hbA.trans hb8, HO8.out⟩, HN.out⟩)))))⟩
        case measure => omega

      · obtain ⟨neg, RS, lo, hRL, rfl, rfl, rfl, hIC, hP⟩ := hinv
        have HP := hid hP
        have HPB := hid hIC.pb
        have HIC := hid hIC
        obtain ⟨wA, hPA, hbA, hOR⟩ := hIC
        have HPA := hid hPA
        have HRL := hid hRL
        obtain ⟨aoR, cpR, hvR, _⟩ := hOR.shape
        subst hvR
        have HOR := hid hOR
        clear hP hPA hRL hOR
        have HLN : Hid ((RS ++ [(lo, lo)]).length ≤ i) := by simpa [Hid] using HRL.out
        have hne : (((RS ++ [(lo, lo)]).length : Int) == 0) = false := beq_eq_false_iff_ne.2 (by simp; omega)
        have HNE : Hid (RS ++ [(lo, lo)] ≠ []) := by simp [Hid]
        obtain ⟨R2, hR2⟩ : ∃ R2, R2 = RS ++ [(lo, lo)] := ⟨_, rfl⟩
        have HR2 := hid hR2
        rw [← hR2] at HOR HIC HLN hne HNE ⊢
        clear hR2
        by_cases h93 : s[i].toNat = 93
        · have HN := hid (tok_more HP.out (by rw [HDI.out]; exact (st5_o HR2.out (by omega) _ _).trans (st3_end h93 _ _ HNE.out _)))
          go_wp2_with (at_builtin; go_must (refine wpList_appT wr rfl (.tmp 92) (.tmp 96) 31 rfl Ybzm.underlying31 Ybzm.infoToken w.heap.size _ TS (by rfl) HPB.out.own ⟨3, 0, neg, R2, aoR, cpR⟩ _ rfl (by simp) (by have := HTS.out; omega) HPB.out.below.size ?_); intro ao9 cp9 w9 hown9 hb9 hg9; have HO9 := hid hown9; have HG9 := hid hg9; clear hown9 hg9)
          rw [HRD.out] at HN
          go_roundg (s.size - (i + 1))
          case rel => exact ⟨i + 1, rfl, by omega, by go_num, _, by have := HTS.out; simp; omega, .inl ⟨rfl, PB.step HPB.out (clean_own HOR.out 0 neg) HG9.out hb9 HO9.out, by rw [HN.out]; simp [Tk.pk]⟩⟩
          case measure => omega
        · have n93 : ((s[i].toNat : Int) == 93) = false := beq_eq_false_iff_ne.2 (by omega)
          by_cases h45 : s[i].toNat = 45
          · have hp0 := HP.out
            rw [HDI.out] at hp0
            have HN := hid (tok_on hp0 (st5_dash h45 _ _ _ _))
            rw [HRD.out] at HN
            clear hp0
            go_wp2_with fail
            go_roundg (s.size - (i + 1))
            case rel => exact ⟨i + 1, rfl, by omega, by go_num, TS, by have := HTS.out; omega, .inr (.inr (.inr (.inr (.inr (.inr (.inl ⟨neg, RS, lo, Nat.le_succ_of_le HRL.out, rfl, rfl, rfl, by rw [← HR2.out]; exact HIC.out, HN.out⟩))))))⟩
            case measure => omega
          · have n45 : ((s[i].toNat : Int) == 45) = false := beq_eq_false_iff_ne.2 (by omega)
            by_cases h92 : s[i].toNat = 92
            · have hp0 := HP.out
              rw [HDI.out] at hp0
              have HN := hid (tok_on hp0 ((st5_o HR2.out h45 _ _).trans (st3_esc h92 _ _ _)))
              rw [HRD.out] at HN
              clear hp0
              go_wp2_with fail
              go_roundg (s.size - (i + 1))
              case rel => exact ⟨i + 1, rfl, by omega, by go_num, TS, by have := HTS.out; omega, .inr (.inr (.inr (.inr (.inl ⟨neg, R2, Nat.le_succ_of_le HLN.out, rfl, rfl, HIC.out, HN.out⟩))))⟩
              case measure => omega
            · have n92 : ((s[i].toNat : Int) == 92) = false := beq_eq_false_iff_ne.2 (by omega)
              have hp0 := HP.out
              rw [HDI.out] at hp0
              have HN := hid (tok_on hp0 ((st5_o HR2.out h45 _ _).trans (st3_byte h92 h93 h45 _ _ _)))
              rw [HRD.out] at HN
              clear hp0
              go_wp2_with (at_builtin; go_must (refine wpList_appR wr rfl (.tmp 105) (.tmp 109) 22 rfl Ybzm.underlying22 Ybzm.infoRange wA.heap.size _ (R2) (by rfl) HOR.out s[i] s[i] _ rfl (by simp) (by have := HLN.out; first | omega | (simp; omega) | simp) hbA.size ?_); intro ao8 cp8 w8 hown8 hb8 _; have HO8 := hid hown8; clear hown8)
              go_roundg (s.size - (i + 1))
              case rel => exact ⟨i + 1, rfl, by omega, by go_num, TS, by have := HTS.out; omega, .inr (.inr (.inr (.inr (.inr (.inl ⟨_, R2, s[i], by have := HLN.out; first | omega | (simp; omega) | simp, rfl, rfl, rfl, ⟨wA, HPA.out, hbA.trans hb8, HO8.out⟩, HN.out⟩)))))⟩
              case measure => omega

      · obtain ⟨neg, RS, lo, hRL, rfl, rfl, rfl, hIC, hP⟩ := hinv
        have HP := hid hP
        have HPB := hid hIC.pb
        have HIC := hid hIC
        obtain ⟨wA, hPA, hbA, hOR⟩ := hIC
        have HPA := hid hPA
        have HRL := hid hRL
        obtain ⟨aoR, cpR, hvR, _⟩ := hOR.shape
        subst hvR
        have HOR := hid hOR
        clear hP hPA hRL hOR
        have HIC2 := HIC
        have hlen1 : (RS ++ [(lo, lo)]).length = RS.length + 1 := by simp
        rw [hlen1] at HOR HIC2 ⊢
        obtain ⟨g, hg, hbg, q1, q2⟩ : ∃ g, aoR = some ⟨g, 0, none⟩ ∧ wA.heap.size ≤ g ∧ wr.cell? ⟨g, RS.length * 2 + 1, none⟩ = some (.int .u8 lo.toNat) ∧ wr.frozen? ⟨g, RS.length * 2 + 1, none⟩ = false := last_at HOR.out
        subst hg
        have HOS := hid (setHi HOR.out s[i])
        have HBS := hid (show Below wA.heap.size wA (wr.setCell ⟨g, RS.length * 2 + 1, none⟩ (.int .u8 s[i].toNat)) from hbA.setCell hbg _)
        have nl : ((RS.length + 1 : Nat) : Int) - 1 = (RS.length : Int) := by omega
        have hrl9 : RS.length ≤ 1000000 := by have := HRL.out; omega
        clear hlen1 HIC
        by_cases h92 : s[i].toNat = 92
        · have hp0 := HP.out
          rw [HDI.out] at hp0
          have HN := hid (tok_on hp0 (st6_esc h92 _ _ _ _))
          rw [HRD.out] at HN
          clear hp0
          go_wp2_with fail
          go_roundg (s.size - (i + 1))
          case rel => exact ⟨i + 1, rfl, by omega, by go_num, TS, by have := HTS.out; omega, .inr (.inr (.inr (.inr (.inr (.inr (.inr (⟨neg, RS, lo, Nat.le_succ_of_le HRL.out, rfl, rfl, rfl, HIC2.out, HN.out⟩)))))))⟩
          case measure => omega
        · have n92 : ((s[i].toNat : Int) == 92) = false := beq_eq_false_iff_ne.2 (by omega)
          by_cases h93 : s[i].toNat = 93
          · have HX := hid (tok_no HP.out (by rw [HDI.out]; exact st6_bad (.inl h93) _ _ _ _))
            have HB := hid HPB.out.below
            go_wp2_with fail
            first | exact finNone.out _ HX.out HB.out | (go_ret; exact finNone.out _ HX.out HB.out)
          · have n93 : ((s[i].toNat : Int) == 93) = false := beq_eq_false_iff_ne.2 (by omega)
            by_cases h45 : s[i].toNat = 45
            · have HX := hid (tok_no HP.out (by rw [HDI.out]; exact st6_bad (.inr h45) _ _ _ _))
              have HB := hid HPB.out.below
              go_wp2_with fail
              first | exact finNone.out _ HX.out HB.out | (go_ret; exact finNone.out _ HX.out HB.out)
            · have n45 : ((s[i].toNat : Int) == 45) = false := beq_eq_false_iff_ne.2 (by omega)
              by_cases hlt : s[i].toNat < lo.toNat
              · have HX := hid (tok_no HP.out (by rw [HDI.out]; exact st6_less h92 _ _ _ hlt _))
                have HB := hid HPB.out.below
                go_wp2_with fail
                first | exact finNone.out _ HX.out HB.out | (go_ret; exact finNone.out _ HX.out HB.out)
              · have hp0 := HP.out
                rw [HDI.out] at hp0
                have HN := hid (tok_on hp0 (st6_byte h92 h93 h45 _ _ _ hlt _))
                rw [HRD.out] at HN
                clear hp0
                go_wp2_with fail
                go_roundg (s.size - (i + 1))
                case rel => exact ⟨i + 1, rfl, by omega, by go_num, TS, by have := HTS.out; omega, .inr (.inr (.inr (.inl ⟨neg, RS ++ [(lo, s[i])], by have := HRL.out; simp; omega, rfl, rfl, ⟨wA, HPA.out, HBS.out, HOS.out⟩, HN.out⟩)))⟩
                case measure => omega

      · obtain ⟨neg, RS, lo, hRL, rfl, rfl, rfl, hIC, hP⟩ := hinv
        have HP := hid hP
        have HPB := hid hIC.pb
        have HIC := hid hIC
        obtain ⟨wA, hPA, hbA, hOR⟩ := hIC
        have HPA := hid hPA
        have HRL := hid hRL
        obtain ⟨aoR, cpR, hvR, _⟩ := hOR.shape
        subst hvR
        have HOR := hid hOR
        clear hP hPA hRL hOR
        have HIC2 := HIC
        have hlen1 : (RS ++ [(lo, lo)]).length = RS.length + 1 := by simp
        rw [hlen1] at HOR HIC2 ⊢
        obtain ⟨g, hg, hbg, q1, q2⟩ : ∃ g, aoR = some ⟨g, 0, none⟩ ∧ wA.heap.size ≤ g ∧ wr.cell? ⟨g, RS.length * 2 + 1, none⟩ = some (.int .u8 lo.toNat) ∧ wr.frozen? ⟨g, RS.length * 2 + 1, none⟩ = false := last_at HOR.out
        subst hg
        have HOS := hid (setHi HOR.out s[i])
        have HBS := hid (show Below wA.heap.size wA (wr.setCell ⟨g, RS.length * 2 + 1, none⟩ (.int .u8 s[i].toNat)) from hbA.setCell hbg _)
        have nl : ((RS.length + 1 : Nat) : Int) - 1 = (RS.length : Int) := by omega
        have hrl9 : RS.length ≤ 1000000 := by have := HRL.out; omega
        clear hlen1 HIC
        by_cases hlt : s[i].toNat < lo.toNat
        · have HX := hid (tok_no HP.out (by rw [HDI.out]; exact st7_less _ _ _ hlt _))
          have HB := hid HPB.out.below
          go_wp2_with fail
          first | exact finNone.out _ HX.out HB.out | (go_ret; exact finNone.out _ HX.out HB.out)
        · have hp0 := HP.out
          rw [HDI.out] at hp0
          have HN := hid (tok_on hp0 (st7_byte _ _ _ hlt _))
          rw [HRD.out] at HN
          clear hp0
          go_wp2_with fail
          go_roundg (s.size - (i + 1))
          case rel => exact ⟨i + 1, rfl, by omega, by go_num, TS, by have := HTS.out; omega, .inr (.inr (.inr (.inl ⟨neg, RS ++ [(lo, s[i])], by have := HRL.out; simp; omega, rfl, rfl, ⟨wA, HPA.out, HBS.out, HOS.out⟩, HN.out⟩)))⟩
          case measure => omega

    · have hii : s.size ≤ i := by omega
      rcases hinv with hinv | hinv | hinv | hinv | hinv | hinv | hinv | hinv
      · obtain ⟨rfl, hPB, hP⟩ := hinv
        have HX : Hid (parse l = some (TS.map Tk.pk)) := by rw [Hid, hP, HDE.out i hii, parse_nil]; simp
        obtain ⟨ao9, cp9, hv9, _⟩ := hPB.own.shape
        subst hv9
        have HPB := hid hPB
        have HLE : Hid (TS.length ≤ s.size) := Nat.le_trans HTS.out hi
        clear hP hPB hii
        go_wp2_with fail
        first | exact finSome.out _ TS ao9 cp9 HX.out HLE.out HPB.out | (go_ret; exact finSome.out _ TS ao9 cp9 HX.out HLE.out HPB.out)

      · obtain ⟨rfl, hPB, hP⟩ := hinv
        have HX := hid (tok_no hP (by rw [HDE.out i (by omega)]; rfl))
        have HB := hid hPB.below
        clear hP
        go_wp2_with fail
        first | exact finNone.out _ HX.out HB.out | (go_ret; exact finNone.out _ HX.out HB.out)

      · obtain ⟨rfl, rfl, rfl, hPB, hP⟩ := hinv
        have HX := hid (tok_no hP (by rw [HDE.out i (by omega)]; rfl))
        have HB := hid hPB.below
        clear hP
        go_wp2_with fail
        first | exact finNone.out _ HX.out HB.out | (go_ret; exact finNone.out _ HX.out HB.out)

      · obtain ⟨neg, RS, hRL, rfl, rfl, hIC, hP⟩ := hinv
        have HX := hid (tok_no hP (by rw [HDE.out i (by omega)]; exact st3_nil _ _))
        have HB := hid hIC.pb.below
        clear hP
        go_wp2_with fail
        first | exact finNone.out _ HX.out HB.out | (go_ret; exact finNone.out _ HX.out HB.out)

      · obtain ⟨neg, RS, hRL, rfl, rfl, hIC, hP⟩ := hinv
        have HX := hid (tok_no hP (by rw [HDE.out i (by omega)]; rfl))
        have HB := hid hIC.pb.below
        clear hP
        go_wp2_with fail
        first | exact finNone.out _ HX.out HB.out | (go_ret; exact finNone.out _ HX.out HB.out)

      · obtain ⟨neg, RS, lo, hRL, rfl, rfl, rfl, hIC, hP⟩ := hinv
        have HX := hid (tok_no hP (by rw [HDE.out i (by omega)]; exact st5_nil _ _ _))
        have HB := hid hIC.pb.below
        clear hP
        go_wp2_with fail
        first | exact finNone.out _ HX.out HB.out | (go_ret; exact finNone.out _ HX.out HB.out)

      · obtain ⟨neg, RS, lo, hRL, rfl, rfl, rfl, hIC, hP⟩ := hinv
        have HX := hid (tok_no hP (by rw [HDE.out i (by omega)]; exact st6_nil _ _ _))
        have HB := hid hIC.pb.below
        clear hP
        go_wp2_with fail
        first | exact finNone.out _ HX.out HB.out | (go_ret; exact finNone.out _ HX.out HB.out)

      · obtain ⟨neg, RS, lo, hRL, rfl, rfl, rfl, hIC, hP⟩ := hinv
        have HX := hid (tok_no hP (by rw [HDE.out i (by omega)]; rfl))
        have HB := hid hIC.pb.below
        clear hP
        go_wp2_with fail
        first | exact finNone.out _ HX.out HB.out | (go_ret; exact finNone.out _ HX.out HB.out)

end Go.Proofs.Ymbrbz

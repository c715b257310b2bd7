import Derived.Test.YmbrbzBBuild
namespace Go.Proofs.Ymbrbz
open Go.RowKit

theorem getD_at {α : Type} (xs : List α) (d : α) (k : Nat) (hk : k < xs.length) : xs.getD k d = xs[k] := by
  rw [List.getD_eq_getElem?_getD, List.getElem?_eq_getElem hk]; rfl

theorem starts_flat {α : Type} (f : α → List UInt8) (xs : List α) (d : α) {s : ByteArray} {p : Nat} {Z : List UInt8} (h : Starts s p (xs.flatMap f ++ Z)) (k : Nat) (hk : k < xs.length) :
    Starts s (p + ((xs.take k).flatMap f).length) (f (xs.getD k d)) ∧ ((xs.take (k + 1)).flatMap f).length = ((xs.take k).flatMap f).length + (f (xs.getD k d)).length := by
  have e : xs.flatMap f ++ Z = (xs.take k).flatMap f ++ (f (xs.getD k d) ++ ((xs.drop (k + 1)).flatMap f ++ Z)) := by
    rw [getD_at xs d k hk]
    have e2 : xs = xs.take k ++ (xs[k] :: xs.drop (k + 1)) := by rw [← List.drop_eq_getElem_cons hk, List.take_append_drop]
    conv => lhs; rw [e2]
    simp only [List.flatMap_append, List.flatMap_cons, List.append_assoc]
  rw [e] at h
  refine ⟨h.right.left, ?_⟩
  rw [List.take_succ_eq_append_getElem hk, getD_at xs d k hk]
  simp only [List.flatMap_append, List.flatMap_cons, List.flatMap_nil, List.append_nil, List.length_append]

theorem flat_take_le {α : Type} (f : α → List UInt8) (xs : List α) (k : Nat) : ((xs.take k).flatMap f).length ≤ (xs.flatMap f).length := by
  have e2 : xs.flatMap f = (xs.take k).flatMap f ++ (xs.drop k).flatMap f := by rw [← List.flatMap_append, List.take_append_drop]
  rw [e2, List.length_append]
  omega

theorem Starts.size {s : ByteArray} {p : Nat} {ys : List UInt8} (h : Starts s p ys) (h0 : 0 < ys.length) : p + ys.length ≤ s.size := by
  obtain ⟨Z, h⟩ := h
  have := congrArg List.length h
  simp at this
  omega

theorem starts_all (l : List UInt8) : Starts (strOf l) 0 l := ⟨[], by simp [strOf_data]⟩

set_option maxHeartbeats 4000000 in
set_option maxRecDepth 4000 in
theorem btext (w : World) (a : Option Addr) (n cap : Nat) (ts : List Tk) (hl : ts.length = n) (hm : n ≤ cap ∧ cap ≤ 9223372036854775807) (hr : TokensAt w a ts) :
    Calls Ybzm.prog 7 #[.slice a n cap] w fun e w' => e = .returned (.bool true) ∧ Below w.heap.size w w' := by
  have hn : n ≤ 9223372036854775807 := Nat.le_trans hm.1 hm.2
  clear hm
  have HR := hid hr
  have HL := hid hl
  clear hr hl
  go_enter Ybzm.func7, Ybzm.ntmps7
  go_wp2_with fail
  refine (bbig_any a n cap ts hn HL.out w HR.out).mono ?_
  rintro e w1 ⟨rfl, rfl⟩
  cases hbig : bigT ts with
  | true =>
    clear hbig
    go_wp2_with fail
    go_ret
    exact ⟨rfl, Below.refl _ _⟩
  | false =>
  have HSZ := hid (bigT_le hbig)
  have hn1 : n ≤ 1024 := by have := HSZ.out.1; rw [HL.out] at this; exact this
  clear hbig hn
  go_wp2_with fail
  refine (bbuild_any a n cap ts HL.out hn1 HSZ.out.2 _ HR.out).mono ?_
  rintro e w2 ⟨ao, cp, TS, rfl, hTS, hBB⟩
  have HTS := hid hTS
  have HBB := hid hBB
  have hb2 := hBB.below
  have HTA := hid (hBB.own.tokensAt (fun t ht => (hBB.fine t ht).held.ok))
  clear hTS hBB HSZ HL HR
  go_wp2_with fail
  refine (print_any ao n cp TS hn1 HTS.out (fun t ht => (HBB.out.fine t ht).small) _ HTA.out).mono ?_
  have HAL : Hid (TS.all okT = true) := List.all_eq_true.2 fun t ht => (HBB.out.fine t ht).ok
  rintro e w3 ⟨hb3, ⟨_, rfl⟩ | ⟨hbad, rfl⟩⟩
  case inr => rw [HAL.out] at hbad; cases hbad
  have hsz : (strOf (prA TS)).size ≤ 6000000 := by
    have h1 := prA_len TS (fun t ht => (HBB.out.fine t ht).small)
    have h2 := HTS.out
    rw [strOf_size]
    omega
  have HE : Hid ((strOf (prA TS)).size = ((TS.take n).flatMap prT).length) := by
    have : TS.take n = TS := List.take_of_length_le (by rw [HTS.out]; omega)
    rw [this]; exact strOf_size _
  have HST : Hid (∀ k, k < n → Starts (strOf (prA TS)) (((TS.take k).flatMap prT).length) (prT (TS.getD k tk0)) ∧ ((TS.take (k + 1)).flatMap prT).length = ((TS.take k).flatMap prT).length + (prT (TS.getD k tk0)).length) := by
    intro k hk
    have h := starts_flat prT TS tk0 (s := strOf (prA TS)) (p := 0) (Z := []) (by rw [List.append_nil]; exact starts_all _) k (by rw [HTS.out]; exact hk)
    rw [Nat.zero_add] at h
    exact h
  have HMX : Hid (∀ k, ((TS.take k).flatMap prT).length ≤ (strOf (prA TS)).size) := fun k => by rw [strOf_size]; exact flat_take_le prT TS k
  generalize strOf (prA TS) = s at hsz HE HST HMX
  obtain ⟨PL, hPL⟩ : ∃ PL : Nat → Nat, PL = fun k => ((TS.take k).flatMap prT).length := ⟨_, rfl⟩
  have H0 : Hid (PL 0 = 0) := by rw [hPL]; rfl
  have HE2 : Hid (s.size = PL n) := by rw [hPL]; exact HE.out
  have HST2 : Hid (∀ k, k < n → Starts s (PL k) (prT (TS.getD k tk0)) ∧ PL (k + 1) = PL k + (prT (TS.getD k tk0)).length) := by rw [hPL]; exact HST.out
  have HMX2 : Hid (∀ k, PL k ≤ s.size) := by rw [hPL]; exact HMX.out
  have HFI : Hid (∀ t ∈ TS, okT t = true ∧ t.rs.length ≤ 1025) := fun t ht => ⟨(HBB.out.fine t ht).ok, (HBB.out.fine t ht).small⟩
  have HT3 := hid (HTA.out.below hb3)
  have hb23 := hb2.trans (hb3.mono hb2.size)
  clear hPL HE HST HMX HAL HBB HTA hb2 hb3
  rename World => wZ
  go_wp2_with fail
  go_loopg [6, 7] n (fun g at_ i wr => ∃ k : Nat, g = n - k ∧ k ≤ n ∧ i = .int .i64 k ∧ at_ = .int .i64 (PL k) ∧ Below wZ.heap.size wZ wr)
  case atStart => exact ⟨0, rfl, Nat.zero_le _, rfl, by rw [H0.out]; rfl, Below.refl _ _⟩
  case round =>
    rename World => wA
    obtain ⟨k, rfl, hk, rfl, rfl, hb⟩ := hrel
    by_cases hkn : k < n
    · obtain ⟨b, off, rfl, ta, tr⟩ := HT3.out k (by rw [HTS.out]; exact hkn)
      have tw := ta.below hb ta.lt
      have HS := hid (HST2.out k hkn)
      have hmx := HMX2.out k
      have hmx2 := HMX2.out (k + 1)
      obtain ⟨hok, hsml⟩ := HFI.out _ (getD_mem_tk (by rw [HTS.out]; exact hkn))
      generalize TS.getD k tk0 = t at tw tr HS hok hsml
      have c0 := tw.c0
      have c1 := tw.c1
      have c2 := tw.c2
      have c3 := tw.c3
      have HRA := hid (show RangesAt wZ t.ra t.rs from tr.at_)
      clear ta tw tr
      by_cases h0 : t.kind = 0
      · have hpr : prT t = esc t.char := by simp [prT, h0]
        rw [hpr] at HS
        rw [h0] at c0
        clear hpr h0
        go_wp2_with fail
        refine (beatchar_at s (by omega) (PL k) t.char HS.out.1 _).mono ?_
        rintro e w4 ⟨rfl, rfl⟩
        rw [← HS.out.2]
        go_wp2_with fail
        go_roundg (n - (k + 1))
        case rel => exact ⟨k + 1, rfl, by omega, by go_num, rfl, hb.alloc hb.size _⟩
        case measure => omega
      · by_cases h1 : t.kind = 1
        · have hpr : prT t = [63] := by simp [prT, h1]
          rw [hpr] at HS
          rw [h1] at c0
          clear hpr h1 h0
          go_wp2_with fail
          refine (beat_at s (by omega) (PL k) _ 63 rfl HS.out.1 _).mono ?_
          rintro e w4 ⟨rfl, rfl⟩
          rw [show PL k + 1 = PL (k + 1) from HS.out.2.symm]
          go_wp2_with fail
          go_roundg (n - (k + 1))
          case rel => exact ⟨k + 1, rfl, by omega, by go_num, rfl, hb.alloc hb.size _⟩
          case measure => omega
        · by_cases h2 : t.kind = 2
          · have hpr : prT t = [42] := by simp [prT, h2]
            rw [hpr] at HS
            rw [h2] at c0
            clear hpr h1 h0 h2
            go_wp2_with fail
            refine (beat_at s (by omega) (PL k) _ 42 rfl HS.out.1 _).mono ?_
            rintro e w4 ⟨rfl, rfl⟩
            rw [show PL k + 1 = PL (k + 1) from HS.out.2.symm]
            go_wp2_with fail
            go_roundg (n - (k + 1))
            case rel => exact ⟨k + 1, rfl, by omega, by go_num, rfl, hb.alloc hb.size _⟩
            case measure => omega
          · have h3 : t.kind = 3 := by
              simp only [okT] at hok
              split at hok
              · assumption
              · simp at hok; omega
            have hpr : prT t = [91] ++ (bangs t.neg ++ (t.rs.flatMap prR ++ [93])) := by simp [prT, h3, prRs]
            have hall : t.rs.all okR = true := by simp [okT, h3] at hok; simpa using hok.2
            rw [hpr] at HS
            rw [h3] at c0
            have HAL := hid hall
            clear hpr h1 h0 h2 hok hall
            have HS1 := hid HS.out.1.left
            have HS2 := hid HS.out.1.right
            have hend : PL (k + 1) = PL k + 1 + (bangs t.neg).length + (t.rs.flatMap prR).length + 1 := by have := HS.out.2; simp only [List.length_append, List.length_cons, List.length_nil] at this; omega
            have HEND := hid hend
            have hps : PL k + 1 + (bangs t.neg).length + (t.rs.flatMap prR).length + 1 ≤ s.size := by omega
            clear HS hend
            go_wp2_with fail
            refine (beat_at s (by omega) (PL k) _ 91 rfl HS1.out _).mono ?_
            rintro e w4 ⟨rfl, rfl⟩
            cases hng : t.neg with
            | true =>
              have HNG := hid hng
              rw [hng] at HS2 hps HEND
              have HS4 := hid (show Starts s (PL k + 1) [33] from HS2.out.left)
              obtain ⟨q0, hq0⟩ : ∃ q0, q0 = PL k + 1 + 1 := ⟨_, rfl⟩
              have HS3 : Hid (Starts s q0 (t.rs.flatMap prR ++ [93])) := by rw [hq0]; exact HS2.out.right
              simp only [bangs, if_true, List.length_cons, List.length_nil] at hps HEND
              clear hng HS2
              go_wp2_with fail
              refine (beat_at s (by omega) (PL k + 1) _ 33 rfl HS4.out _).mono ?_
              rintro e w4 ⟨rfl, rfl⟩
              go_wp2_with fail
              have HQ : Hid (∀ j, j < t.rs.length → Starts s (q0 + ((t.rs.take j).flatMap prR).length) (prR (t.rs.getD j (0, 0))) ∧ q0 + ((t.rs.take (j + 1)).flatMap prR).length = q0 + ((t.rs.take j).flatMap prR).length + (prR (t.rs.getD j (0, 0))).length) := fun j hj => ⟨(starts_flat prR t.rs (0, 0) HS3.out j hj).1, by rw [(starts_flat prR t.rs (0, 0) HS3.out j hj).2, Nat.add_assoc]⟩
              have HQM : Hid (∀ j, q0 + ((t.rs.take j).flatMap prR).length ≤ s.size) := fun j => by have := flat_take_le prR t.rs j; omega
              have HQE : Hid (Starts s (q0 + ((t.rs.take t.rs.length).flatMap prR).length) [93] ∧ q0 + ((t.rs.take t.rs.length).flatMap prR).length + 1 = PL (k + 1)) := by rw [List.take_length]; exact ⟨HS3.out.right, by rw [HEND.out]; omega⟩
              have HQ0 : Hid (q0 + ((t.rs.take 0).flatMap prR).length = q0) := rfl
              obtain ⟨QL, hQL⟩ : ∃ QL : Nat → Nat, QL = fun j => q0 + ((t.rs.take j).flatMap prR).length := ⟨_, rfl⟩
              have HQ' : Hid (∀ j, j < t.rs.length → Starts s (QL j) (prR (t.rs.getD j (0, 0))) ∧ QL (j + 1) = QL j + (prR (t.rs.getD j (0, 0))).length) := by rw [hQL]; exact HQ.out
              have HQM' : Hid (∀ j, QL j ≤ s.size) := by rw [hQL]; exact HQM.out
              have HQE' : Hid (Starts s (QL t.rs.length) [93] ∧ QL t.rs.length + 1 = PL (k + 1)) := by rw [hQL]; exact HQE.out
              have HQ0' : Hid (QL 0 = q0) := by rw [hQL]; exact HQ0.out
              have HBN := hid (block_new wA #[.int .i64 3, .int .u8 t.char.toNat, .bool t.neg, .slice t.ra t.rs.length t.cap] 26)
              have HBB := hid (hb.alloc hb.size (.cells #[.int .i64 3, .int .u8 t.char.toNat, .bool t.neg, .slice t.ra t.rs.length t.cap] 26))
              have HSA := hid (Nat.le_refl wA.heap.size)
              rw [HNG.out] at HBN HBB
              clear hQL HQ HQM HQE HQ0 HS3 c0 c1 c2 c3 hps
              go_loopg [6, 9] t.rs.length (fun g at_ jv wr => ∃ j : Nat, g = t.rs.length - j ∧ j ≤ t.rs.length ∧ jv = .int .i64 j ∧ at_ = .int .i64 (QL j) ∧ wr.heap[wA.heap.size]? = some (.cells #[.int .i64 3, .int .u8 t.char.toNat, .bool true, .slice t.ra t.rs.length t.cap] 26 (0, 0)) ∧ Below wZ.heap.size wZ wr)
              case atStart => exact ⟨0, rfl, Nat.zero_le _, rfl, by rw [HQ0'.out]; go_num, HBN.out, HBB.out⟩
              case round =>
                clear HBN HBB HQ0'
                obtain ⟨j, rfl, hj, rfl, rfl, hblk, hbr⟩ := hrel
                have y3 := cell_block hblk 3
                simp only [List.getElem?_toArray, List.getElem?_cons_zero, List.getElem?_cons_succ] at y3
                have HBK := hid hblk
                have hslt : wA.heap.size < wr.heap.size := (Array.getElem?_eq_some_iff.1 hblk).1
                have m0 := HQM'.out j
                have m1 := HQM'.out (j + 1)
                clear hblk
                by_cases hjm : j < t.rs.length
                · obtain ⟨b2, off2, hra2, g0, g1⟩ := HRA.out j hjm
                  have e0 := (hbr.cell (p := ⟨b2, off2 + j * 2, none⟩) (block_lt g0)).trans g0
                  have e1 := (hbr.cell (p := ⟨b2, off2 + j * 2 + 1, none⟩) (block_lt g1)).trans g1
                  have HQJ := hid (HQ'.out j hjm)
                  have HOR := hid (List.all_eq_true.1 HAL.out (t.rs.getD j (0, 0)) (by rw [getD_at _ _ _ hjm]; exact List.getElem_mem hjm))
                  generalize t.rs.getD j (0, 0) = r at e0 e1 HQJ HOR
                  obtain ⟨lo, hi⟩ := r
                  simp only at e0 e1
                  have hle : lo.toNat ≤ hi.toNat := by simpa [okR] using HOR.out
                  rw [hra2] at y3 HBK ⊢
                  have HA2 := hid hra2
                  have HBL := hid (block_alloc HBK.out (.cells #[.int .u8 lo.toNat, .int .u8 hi.toNat] 29))
                  have HBW := hid (hbr.alloc hbr.size (.cells #[.int .u8 lo.toNat, .int .u8 hi.toNat] 29))
                  clear g0 g1 hra2 HOR HBK
                  by_cases hlt : lo.toNat < hi.toNat
                  · have hp : prR (lo, hi) = esc lo ++ ([45] ++ esc hi) := by simp [prR, hlt]
                    rw [hp] at HQJ
                    have nlt : ((lo.toNat : Int) != (hi.toNat : Int)) = true := bne_iff_ne.2 (by omega)
                    have hq2 : QL (j + 1) = QL j + (esc lo).length + 1 + (esc hi).length := by have := HQJ.out.2; simp only [List.length_append, List.length_cons, List.length_nil] at this; omega
                    have HQ2 := hid hq2
                    have b1 : QL j + (esc lo).length + 1 + (esc hi).length ≤ s.size := by omega
                    clear hp hq2 m1
                    go_wp2_with fail
                    refine (beatchar_at s (by omega) (QL j) lo HQJ.out.1.left _).mono ?_
                    rintro e w4 ⟨rfl, rfl⟩
                    go_wp2_with fail
                    refine (beat_at s (by omega) (QL j + (esc lo).length) _ 45 rfl HQJ.out.1.right.left _).mono ?_
                    rintro e w4 ⟨rfl, rfl⟩
                    go_wp2_with fail
                    refine (beatchar_at s (by omega) (QL j + (esc lo).length + 1) hi HQJ.out.1.right.right _).mono ?_
                    rintro e w4 ⟨rfl, rfl⟩
                    rw [← HQ2.out]
                    go_wp2_with fail
                    rw [← HA2.out] at HBL ⊢
                    go_roundg (t.rs.length - (j + 1))
                    case rel => exact ⟨j + 1, rfl, by omega, by go_num, rfl, HBL.out, HBW.out⟩
                    case measure => omega
                  · have hp : prR (lo, hi) = esc lo := by simp [prR, hlt]
                    rw [hp] at HQJ
                    have nlt : ((lo.toNat : Int) != (hi.toNat : Int)) = false := by rw [show lo.toNat = hi.toNat by omega]; simp
                    clear hp
                    go_wp2_with fail
                    refine (beatchar_at s (by omega) (QL j) lo HQJ.out.1 _).mono ?_
                    rintro e w4 ⟨rfl, rfl⟩
                    rw [← HQJ.out.2]
                    go_wp2_with fail
                    rw [← HA2.out] at HBL ⊢
                    go_roundg (t.rs.length - (j + 1))
                    case rel => exact ⟨j + 1, rfl, by omega, by go_num, rfl, HBL.out, HBW.out⟩
                    case measure => omega
                · have hjj : j = t.rs.length := by omega
                  have HQL : Hid (Starts s (QL j) [93] ∧ QL j + 1 = PL (k + 1)) := by rw [hjj]; exact HQE'.out
                  clear hjj
                  go_wp2_with fail
                  refine (beat_at s (by omega) (QL j) _ 93 rfl HQL.out.1 _).mono ?_
                  rintro e w4 ⟨rfl, rfl⟩
                  rw [HQL.out.2]
                  go_wp2_with fail
                  go_roundg (n - (k + 1))
                  case rel => exact ⟨k + 1, rfl, by omega, by go_num, rfl, hbr⟩
                  case measure => omega
            | false =>
              have HNG := hid hng
              rw [hng] at HS2 hps HEND
              obtain ⟨q0, hq0⟩ : ∃ q0, q0 = PL k + 1 := ⟨_, rfl⟩
              have HS3 : Hid (Starts s q0 (t.rs.flatMap prR ++ [93])) := by rw [hq0]; exact HS2.out.right
              simp only [bangs, List.length_nil, if_neg Bool.false_ne_true] at hps HEND
              clear hng HS2
              go_wp2_with fail
              have HQ : Hid (∀ j, j < t.rs.length → Starts s (q0 + ((t.rs.take j).flatMap prR).length) (prR (t.rs.getD j (0, 0))) ∧ q0 + ((t.rs.take (j + 1)).flatMap prR).length = q0 + ((t.rs.take j).flatMap prR).length + (prR (t.rs.getD j (0, 0))).length) := fun j hj => ⟨(starts_flat prR t.rs (0, 0) HS3.out j hj).1, by rw [(starts_flat prR t.rs (0, 0) HS3.out j hj).2, Nat.add_assoc]⟩
              have HQM : Hid (∀ j, q0 + ((t.rs.take j).flatMap prR).length ≤ s.size) := fun j => by have := flat_take_le prR t.rs j; omega
              have HQE : Hid (Starts s (q0 + ((t.rs.take t.rs.length).flatMap prR).length) [93] ∧ q0 + ((t.rs.take t.rs.length).flatMap prR).length + 1 = PL (k + 1)) := by rw [List.take_length]; exact ⟨HS3.out.right, by rw [HEND.out]; omega⟩
              have HQ0 : Hid (q0 + ((t.rs.take 0).flatMap prR).length = q0) := rfl
              obtain ⟨QL, hQL⟩ : ∃ QL : Nat → Nat, QL = fun j => q0 + ((t.rs.take j).flatMap prR).length := ⟨_, rfl⟩
              have HQ' : Hid (∀ j, j < t.rs.length → Starts s (QL j) (prR (t.rs.getD j (0, 0))) ∧ QL (j + 1) = QL j + (prR (t.rs.getD j (0, 0))).length) := by rw [hQL]; exact HQ.out
              have HQM' : Hid (∀ j, QL j ≤ s.size) := by rw [hQL]; exact HQM.out
              have HQE' : Hid (Starts s (QL t.rs.length) [93] ∧ QL t.rs.length + 1 = PL (k + 1)) := by rw [hQL]; exact HQE.out
              have HQ0' : Hid (QL 0 = q0) := by rw [hQL]; exact HQ0.out
              have HBN := hid (block_new wA #[.int .i64 3, .int .u8 t.char.toNat, .bool t.neg, .slice t.ra t.rs.length t.cap] 26)
              have HBB := hid (hb.alloc hb.size (.cells #[.int .i64 3, .int .u8 t.char.toNat, .bool t.neg, .slice t.ra t.rs.length t.cap] 26))
              have HSA := hid (Nat.le_refl wA.heap.size)
              rw [HNG.out] at HBN HBB
              clear hQL HQ HQM HQE HQ0 HS3 c0 c1 c2 c3 hps
              go_loopg [6, 9] t.rs.length (fun g at_ jv wr => ∃ j : Nat, g = t.rs.length - j ∧ j ≤ t.rs.length ∧ jv = .int .i64 j ∧ at_ = .int .i64 (QL j) ∧ wr.heap[wA.heap.size]? = some (.cells #[.int .i64 3, .int .u8 t.char.toNat, .bool false, .slice t.ra t.rs.length t.cap] 26 (0, 0)) ∧ Below wZ.heap.size wZ wr)
              case atStart => exact ⟨0, rfl, Nat.zero_le _, rfl, by rw [HQ0'.out]; go_num, HBN.out, HBB.out⟩
              case round =>
                clear HBN HBB HQ0'
                obtain ⟨j, rfl, hj, rfl, rfl, hblk, hbr⟩ := hrel
                have y3 := cell_block hblk 3
                simp only [List.getElem?_toArray, List.getElem?_cons_zero, List.getElem?_cons_succ] at y3
                have HBK := hid hblk
                have hslt : wA.heap.size < wr.heap.size := (Array.getElem?_eq_some_iff.1 hblk).1
                have m0 := HQM'.out j
                have m1 := HQM'.out (j + 1)
                clear hblk
                by_cases hjm : j < t.rs.length
                · obtain ⟨b2, off2, hra2, g0, g1⟩ := HRA.out j hjm
                  have e0 := (hbr.cell (p := ⟨b2, off2 + j * 2, none⟩) (block_lt g0)).trans g0
                  have e1 := (hbr.cell (p := ⟨b2, off2 + j * 2 + 1, none⟩) (block_lt g1)).trans g1
                  have HQJ := hid (HQ'.out j hjm)
                  have HOR := hid (List.all_eq_true.1 HAL.out (t.rs.getD j (0, 0)) (by rw [getD_at _ _ _ hjm]; exact List.getElem_mem hjm))
                  generalize t.rs.getD j (0, 0) = r at e0 e1 HQJ HOR
                  obtain ⟨lo, hi⟩ := r
                  simp only at e0 e1
                  have hle : lo.toNat ≤ hi.toNat := by simpa [okR] using HOR.out
                  rw [hra2] at y3 HBK ⊢
                  have HA2 := hid hra2
                  have HBL := hid (block_alloc HBK.out (.cells #[.int .u8 lo.toNat, .int .u8 hi.toNat] 29))
                  have HBW := hid (hbr.alloc hbr.size (.cells #[.int .u8 lo.toNat, .int .u8 hi.toNat] 29))
                  clear g0 g1 hra2 HOR HBK
                  by_cases hlt : lo.toNat < hi.toNat
                  · have hp : prR (lo, hi) = esc lo ++ ([45] ++ esc hi) := by simp [prR, hlt]
                    rw [hp] at HQJ
                    have nlt : ((lo.toNat : Int) != (hi.toNat : Int)) = true := bne_iff_ne.2 (by omega)
                    have hq2 : QL (j + 1) = QL j + (esc lo).length + 1 + (esc hi).length := by have := HQJ.out.2; simp only [List.length_append, List.length_cons, List.length_nil] at this; omega
                    have HQ2 := hid hq2
                    have b1 : QL j + (esc lo).length + 1 + (esc hi).length ≤ s.size := by omega
                    clear hp hq2 m1
                    go_wp2_with fail
                    refine (beatchar_at s (by omega) (QL j) lo HQJ.out.1.left _).mono ?_
                    rintro e w4 ⟨rfl, rfl⟩
                    go_wp2_with fail
                    refine (beat_at s (by omega) (QL j + (esc lo).length) _ 45 rfl HQJ.out.1.right.left _).mono ?_
                    rintro e w4 ⟨rfl, rfl⟩
                    go_wp2_with fail
                    refine (beatchar_at s (by omega) (QL j + (esc lo).length + 1) hi HQJ.out.1.right.right _).mono ?_
                    rintro e w4 ⟨rfl, rfl⟩
                    rw [← HQ2.out]
                    go_wp2_with fail
                    rw [← HA2.out] at HBL ⊢
                    go_roundg (t.rs.length - (j + 1))
                    case rel => exact ⟨j + 1, rfl, by omega, by go_num, rfl, HBL.out, HBW.out⟩
                    case measure => omega
                  · have hp : prR (lo, hi) = esc lo := by simp [prR, hlt]
                    rw [hp] at HQJ
                    have nlt : ((lo.toNat : Int) != (hi.toNat : Int)) = false := by rw [show lo.toNat = hi.toNat by omega]; simp
                    clear hp
                    go_wp2_with fail
                    refine (beatchar_at s (by omega) (QL j) lo HQJ.out.1 _).mono ?_
                    rintro e w4 ⟨rfl, rfl⟩
                    rw [← HQJ.out.2]
                    go_wp2_with fail
                    rw [← HA2.out] at HBL ⊢
                    go_roundg (t.rs.length - (j + 1))
                    case rel => exact ⟨j + 1, rfl, by omega, by go_num, rfl, HBL.out, HBW.out⟩
                    case measure => omega
                · have hjj : j = t.rs.length := by omega
                  have HQL : Hid (Starts s (QL j) [93] ∧ QL j + 1 = PL (k + 1)) := by rw [hjj]; exact HQE'.out
                  clear hjj
                  go_wp2_with fail
                  refine (beat_at s (by omega) (QL j) _ 93 rfl HQL.out.1 _).mono ?_
                  rintro e w4 ⟨rfl, rfl⟩
                  rw [HQL.out.2]
                  go_wp2_with fail
                  go_roundg (n - (k + 1))
                  case rel => exact ⟨k + 1, rfl, by omega, by go_num, rfl, hbr⟩
                  case measure => omega
    · have hkk : k = n := by omega
      subst hkk
      have hee : ((PL k : Int) == (s.size : Int)) = true := by rw [HE2.out]; simp
      clear HE2
      go_wp2_with fail
      go_ret
      exact ⟨rfl, hb23.trans (hb.mono hb23.size)⟩
end Go.Proofs.Ymbrbz

/- Package picks: the references May, Bits, ones. -/
import Derived.Test.YtoebnibhkdidhaaPicG
import Derived.Test.YtoebnibhkdidhaaPicR
import Derived.Deep.RegionHeld3
namespace Go.Proofs.Ytoebnibhkdidhaa
open Go.RowKit

set_option maxHeartbeats 1000000 in
theorem refmay_any (v : Value) (l : List Int) (t : Int) (w : World) (hv : RInts w v l) : Calls Try.prog 36 #[v, .int .i64 t] w fun e w' => e = .returned (.bool (mayP l t)) ∧ w = w' := by
  have HV := Lib.hid hv
  obtain ⟨a, cap, rfl, hc1, hc2⟩ := hv.shape
  clear hv
  by_cases h1 : t < 2
  · have d1 : decide (t < 2) = true := decide_eq_true h1
    have HE := Lib.hid (show mayP l t = false by rw [Bool.eq_false_iff]; intro e; have := (mayP_iff.1 e).1; omega)
    clear h1
    go_enter Try.func36, Try.ntmps36
    go_wp2
    go_ret
    exact ⟨ret_bool HE.out.symm, rfl⟩
  have d1 : decide (t < 2) = false := decide_eq_false h1
  by_cases h2 : 6 < t
  · have d2 : decide (6 < t) = true := decide_eq_true h2
    have HE := Lib.hid (show mayP l t = false by rw [Bool.eq_false_iff]; intro e; have := (mayP_iff.1 e).1; omega)
    clear h1 h2
    go_enter Try.func36, Try.ntmps36
    go_wp2
    go_ret
    exact ⟨ret_bool HE.out.symm, rfl⟩
  have d2 : decide (6 < t) = false := decide_eq_false h2
  by_cases h3 : l.length = 0
  · have d3 : ((l.length : Int) == 0) = true := beq_iff_eq.2 (by omega)
    have HE := Lib.hid (show mayP l t = false by rw [Bool.eq_false_iff]; intro e; have := (mayP_iff.1 e).2.1; omega)
    clear h1 h2 h3
    go_enter Try.func36, Try.ntmps36
    go_wp2
    go_ret
    exact ⟨ret_bool HE.out.symm, rfl⟩
  have d3 : ((l.length : Int) == 0) = false := beq_eq_false_iff_ne.2 (by omega)
  by_cases h4 : 32767 < l.length
  · have d4 : decide ((32767 : Int) < (l.length : Int)) = true := decide_eq_true (by omega)
    have HE := Lib.hid (show mayP l t = false by rw [Bool.eq_false_iff]; intro e; have := (mayP_iff.1 e).2.2.1; omega)
    clear h1 h2 h3 h4
    go_enter Try.func36, Try.ntmps36
    go_wp2
    go_ret
    exact ⟨ret_bool HE.out.symm, rfl⟩
  have d4 : decide ((32767 : Int) < (l.length : Int)) = false := decide_eq_false (by omega)
  have HR := Lib.hid (show (2 ≤ t ∧ t ≤ 6) ∧ 0 < l.length ∧ l.length ≤ 32767 by omega)
  clear h1 h2 h3 h4
  go_enter Try.func36, Try.ntmps36
  go_wp2
  go_loop [6, 25] (fun _ i => ∃ k : Nat, k ≤ l.length ∧ i = .int .i64 (k : Int) ∧ Hid (∀ p ∈ l.take k, 0 ≤ p ∧ p < t)) (fun _ i => l.length - (intOf i).toNat)
  case atStart => exact ⟨0, Nat.zero_le _, rfl, fun p hp => by simp at hp⟩
  case round =>
    obtain ⟨k, hk, rfl, HA⟩ := hrel
    by_cases hlt : k < l.length
    · obtain ⟨b, off, x, rfl, hbb, hx, hcx, -, -⟩ := HV.out.at hlt
      have HX := Lib.hid hx
      clear hx
      by_cases h1 : x < 0
      · have hd1 : decide (x < 0) = true := decide_eq_true h1
        have HE := Lib.hid (show mayP l t = false by rw [Bool.eq_false_iff]; intro e; have := (mayP_iff.1 e).2.2.2 x (List.mem_of_getElem? HX.out); omega)
        clear h1
        go_wp2
        go_ret
        exact ⟨ret_bool HE.out.symm, rfl⟩
      · have hd1 : decide (x < 0) = false := decide_eq_false h1
        by_cases h2 : t ≤ x
        · have hd2 : decide (t ≤ x) = true := decide_eq_true h2
          have HE := Lib.hid (show mayP l t = false by rw [Bool.eq_false_iff]; intro e; have := (mayP_iff.1 e).2.2.2 x (List.mem_of_getElem? HX.out); omega)
          clear h1 h2
          go_wp2
          go_ret
          exact ⟨ret_bool HE.out.symm, rfl⟩
        · have hd2 : decide (t ≤ x) = false := decide_eq_false h2
          have HE := Lib.hid (show ∀ p ∈ l.take (k + 1), 0 ≤ p ∧ p < t from fun p hp => by
            rw [take_snoc HX.out] at hp
            rcases List.mem_append.1 hp with hp | hp
            · exact HA.out p hp
            · rw [List.mem_singleton.1 hp]; omega)
          clear h1 h2
          go_wp2
          go_round
          case rel => exact ⟨k + 1, by omega, by go_num, HE.out⟩
          case measure => simp [intOf]; omega
    · obtain rfl : k = l.length := by omega
      have HE := Lib.hid (show mayP l t = true by
        have h := HA.out
        rw [List.take_length] at h
        exact mayP_iff.2 ⟨HR.out.1, HR.out.2.1, HR.out.2.2, h⟩)
      go_wp2
      go_ret
      exact ⟨ret_bool HE.out.symm, rfl⟩

theorem ones_drop {r : List Bool} {j : Nat} (h : j ≤ onesL r) : (j < r.length ∧ r[j]? = some true ∧ j + 1 ≤ onesL r) ∨ (j < r.length ∧ r[j]? = some false ∧ onesL r = j) ∨ (j = r.length ∧ onesL r = j) := by
  cases hd : r.drop j with
  | nil =>
    have h1 := ones_nil h hd
    have h2 := congrArg List.length hd
    rw [List.length_drop, List.length_nil] at h2
    have h3 := onesL_le r
    exact .inr (.inr ⟨by omega, by omega⟩)
  | cons x s =>
    have h1 := (drop_one hd).2
    have h2 : r[j]? = some x := by have := congrArg (fun l => l[0]?) hd; simpa using this
    have h3 := ones_cons h hd
    cases x with
    | true => exact .inl ⟨h1, h2, h3.1 rfl⟩
    | false => exact .inr (.inl ⟨h1, h2, h3.2 rfl⟩)

set_option maxHeartbeats 400000 in
theorem refones_any (s : ByteArray) (l : List Bool) (w : World) (hs : s = stx l) (hl : l.length ≤ 100000) :
    Calls Try.prog 60 #[.string s] w fun e w' => e = .returned (.int .i64 (onesL l : Int)) ∧ w = w' := by
  have HS := Lib.hid hs
  have hsz : s.size = l.length := by rw [hs, stx_size]
  have HZ := Lib.hid hsz
  have hz : s.size ≤ 100000 := by omega
  clear hs hsz
  go_enter Try.func60, Try.ntmps60
  go_wp2
  go_loop [3] (fun i => ∃ j : Nat, j ≤ s.size ∧ i = .int .i64 (j : Int) ∧ Hid (j ≤ onesL l)) (fun i => s.size - (intOf i).toNat)
  case atStart => exact ⟨0, Nat.zero_le _, rfl, Nat.zero_le _⟩
  case round =>
    obtain ⟨j, hj, rfl, HJ⟩ := hrel
    rcases ones_drop HJ.out with ⟨h1, h2, h3⟩ | ⟨h1, h2, h3⟩ | ⟨h1, h3⟩
    · have hlt : j < s.size := by rw [HZ.out]; exact h1
      have hlt' : (j : Int) < (s.size : Int) := by omega
      have hat : s[j] = 49 := stx_at HS.out h2 hlt
      have HJ2 := Lib.hid h3
      clear h1 h2 h3
      go_wp2
      go_round
      case rel => exact ⟨j + 1, by omega, by go_num, HJ2.out⟩
      case measure => simp [intOf]; omega
    · have hlt : j < s.size := by rw [HZ.out]; exact h1
      have hlt' : (j : Int) < (s.size : Int) := by omega
      have hat : s[j] = 48 := stx_at HS.out h2 hlt
      have HE := Lib.hid h3
      clear h1 h2 h3
      go_wp2
      go_ret
      exact ⟨ret_int' HE.out.symm, rfl⟩
    · have hlt : ¬ j < s.size := by rw [HZ.out, h1]; omega
      have hlt' : decide ((j : Int) < (s.size : Int)) = false := decide_eq_false (by omega)
      have HE := Lib.hid h3
      clear h1 h3
      go_wp2
      go_ret
      exact ⟨ret_int' HE.out.symm, rfl⟩

theorem six_ones : ∀ k, k < 7 → (⟨#[49, 49, 49, 49, 49, 49]⟩ : ByteArray).extract 0 k = stx (List.replicate k true) := by
  intro k hk
  have h : k = 0 ∨ k = 1 ∨ k = 2 ∨ k = 3 ∨ k = 4 ∨ k = 5 ∨ k = 6 := by omega
  have e : (⟨#[49, 49, 49, 49, 49, 49]⟩ : ByteArray) = str [49, 49, 49, 49, 49, 49] := rfl
  rw [e, str_extract, List.drop_zero, Nat.sub_zero]
  rcases h with rfl | rfl | rfl | rfl | rfl | rfl | rfl <;> rfl

set_option maxHeartbeats 4000000 in
set_option maxRecDepth 100000 in
theorem refbits13_any (v : Value) (l : List Int) (q : Nat) (w : World) (hv : RInts w v l) (hm : mayP l (q : Int) = true) :
    Calls Try.prog 50 #[v, .int .i64 (q : Int)] w fun e w' => e = .returned (.string (stx (bitsP l q))) ∧ Below w.heap.size w w' := by
  obtain ⟨h1, h2, h3, h4⟩ := mayP_iff.1 hm
  have hp5 : ∀ p ∈ l, 0 ≤ p ∧ p ≤ 5 := fun p hp => by have := h4 p hp; omega
  have HP5 := Lib.hid hp5
  have hk6 := (ordP_ok (l := l) (List.Perm.refl LET) hp5).2
  have HV := Lib.hid hv
  have HF1 := Lib.hid (fun w => field_any q 3 w (by omega) (by decide))
  have HF2 := Lib.hid (fun w => field_any l.length 15 w (by omega) (by decide))
  have e3 : (3 : Int).toNat = 3 := rfl
  have e15 : (15 : Int).toNat = 15 := rfl
  rw [e3] at HF1
  rw [e15] at HF2
  have hw1 : IntKind.u32.wrap (q : Int) = (q : Int) := IntWalk.u32_in _ (by omega)
  have hw2 : IntKind.u32.wrap (l.length : Int) = (l.length : Int) := IntWalk.u32_in _ (by omega)
  have HBP := Lib.hid (show bitsP l q = headP l.length q ++ (placesP LET l).flatMap unP from rfl)
  have HHD := Lib.hid (show stx (fieldL q 3) ++ stx (fieldL l.length 15) = stx (headP l.length q) from stx_append _ _)
  have hz1 : (stx (fieldL q 3)).size = 3 := by rw [stx_size, fieldL_len]
  have hz2 : (stx (fieldL l.length 15)).size = 15 := by rw [stx_size, fieldL_len]
  have HFL := Lib.hid (fun j => show (((placesP LET l).take j).flatMap unP).length ≤ 200000 from by
    have h := (flatP_len (ks := (placesP LET l).take j) (fun x hx => hk6 x (List.mem_of_mem_take hx))).1
    rw [List.length_take, placesP_len] at h
    omega)
  have HPT := Lib.hid (show ∀ j, j ≤ l.length → placesP LET (l.take j) = (placesP LET l).take j from fun j hj => by
    have : ∀ (l : List Int) (O : List UInt8) (j : Nat), placesP O (l.take j) = (placesP O l).take j := by
      intro l
      induction l with
      | nil => intro O j; simp [placesP]
      | cons x l ih =>
        intro O j
        cases j with
        | zero => simp [placesP]
        | succ j => rw [List.take_succ_cons, placesP, placesP, List.take_succ_cons, ih]
    exact this l LET j)
  obtain ⟨x1, hx1⟩ : ∃ z, stx (fieldL q 3) = z := ⟨_, rfl⟩
  obtain ⟨x2, hx2⟩ : ∃ z, stx (fieldL l.length 15) = z := ⟨_, rfl⟩
  rw [hx1] at HF1 HHD hz1
  rw [hx2] at HF2 HHD hz2
  have hz1' : x1.size ≤ 3 := by omega
  have hz2' : x2.size ≤ 15 := by omega
  obtain ⟨a, cap, rfl, hc1, hc2⟩ := hv.shape
  clear hm h1 h2 h3 h4 hp5 hk6 hv e3 e15 hx1 hx2 hz1 hz2
  go_enter Try.func50, Try.ntmps50
  go_wp2_with fail
  refine (HF1.out _).mono ?_
  rintro e w1 ⟨rfl, rfl⟩
  clear HF1
  go_wp2_with fail
  refine (HF2.out _).mono ?_
  rintro e w1 ⟨rfl, rfl⟩
  clear HF2
  go_wp2
  go_loopw [5, 6, 8, 9, 20] (fun o od _ _ i wr => ∃ (k : Nat) (ss so : ByteArray), k ≤ l.length ∧ i = .int .i64 (k : Int) ∧ o = .string ss ∧ od = .string so ∧ Hid (ss = stx (headP l.length q ++ (placesP LET (l.take k)).flatMap unP)) ∧ Hid (so = str (ordP LET (l.take k))) ∧ Hid (Below w.heap.size w wr)) (fun _ _ _ _ i _ => l.length - (intOf i).toNat)
  case atStart => exact ⟨0, _, _, Nat.zero_le _, rfl, rfl, rfl, (show _ = _ by rw [HHD.out]; simp [placesP]), rfl, Below.refl _ _⟩
  case round =>
    obtain ⟨k, ss, so, hk, rfl, rfl, rfl, HS, HSO, HB⟩ := hrel
    by_cases hlt : k < l.length
    · obtain ⟨b2, off2, p, rfl, hbb, hx, hcx, -, -⟩ := (HV.out.below HB.out).at hlt
      have hp := HP5.out p (List.mem_of_getElem? hx)
      have hord := (ordP_ok (l := l.take k) (List.Perm.refl LET) (fun p hp => HP5.out p (List.mem_of_mem_take hp))).1
      obtain ⟨g1, g2, g3, -⟩ := placeP_ok hord hp.1 hp.2
      have HPL := Lib.hid (fun w => refplace_any so (ordP LET (l.take k)) (letB p) w HSO.out (by rw [hord.len]; decide))
      have HTO := Lib.hid (fun w => reftouch_any so (ordP LET (l.take k)) (placeP (ordP LET (l.take k)) p) w HSO.out (by rw [hord.len]; decide) (by rw [hord.len]; exact g2))
      rw [plcI_some g1] at HPL
      have hU : (((letB p).toNat : Nat) : Int) = 48 + p := by rw [letB_nat hp.1 hp.2]; omega
      rw [hU] at HPL
      have HT1 := Lib.hid (show ordP LET (l.take (k + 1)) = touchL (ordP LET (l.take k)) (placeP (ordP LET (l.take k)) p) by rw [take_snoc hx, ordP_snoc])
      have HT2 := Lib.hid (show placesP LET (l.take (k + 1)) = placesP LET (l.take k) ++ [placeP (ordP LET (l.take k)) p] by rw [take_snoc hx, placesP_snoc])
      obtain ⟨m, hm⟩ : ∃ z, placeP (ordP LET (l.take k)) p = z := ⟨_, rfl⟩
      rw [hm] at HPL HTO HT1 HT2 g2
      have hX := six_ones m (by omega)
      obtain ⟨sk, hsk⟩ : ∃ z, stx (List.replicate m true) = z := ⟨_, rfl⟩
      have HSK := Lib.hid hsk
      have hskz : sk.size ≤ 6 := by rw [← hsk, stx_size, List.length_replicate]; omega
      have hssz : ss.size ≤ 200018 := by
        rw [HS.out, stx_size, List.length_append, headP_len, HPT.out k hk]
        have := HFL.out k
        omega
      have HS2 := Lib.hid (show ss ++ sk ++ ⟨#[48]⟩ = stx (headP l.length q ++ (placesP LET (l.take (k + 1))).flatMap unP) by
        rw [HT2.out, List.flatMap_append, ← List.append_assoc, ← stx_append, ← HS.out, ByteArray.append_assoc]
        congr 1
        rw [← HSK.out]
        simp only [List.flatMap_cons, List.flatMap_nil, List.append_nil]
        unfold unP
        rw [← stx_append]
        rfl)
      rw [hsk] at hX
      have hm6 : (m : Int) ≤ 6 := by omega
      have hm0 : m ≤ 6 := by omega
      have HCS := Lib.hid (show p = 0 ∨ p = 1 ∨ p = 2 ∨ p = 3 ∨ p = 4 ∨ p = 5 by omega)
      obtain ⟨st, hst⟩ : ∃ z, str (touchL (ordP LET (l.take k)) m) = z := ⟨_, rfl⟩
      have HST := Lib.hid hst
      rw [hst] at HTO
      clear hx hp hord g1 g2 g3 hm hsk hU HSO HS hst
      rcases HCS.out with rfl | rfl | rfl | rfl | rfl | rfl
      all_goals
        go_wp2_with fail
        refine (HPL.out _).mono ?_
        rintro e w3 ⟨rfl, rfl⟩
        clear HPL
        go_wp2_with fail
        refine (HTO.out _).mono ?_
        rintro e w3 ⟨rfl, hq⟩
        have HB3 := Lib.hid (HB.out.trans (below_of hq HB.out.size))
        clear HTO hq HB hcx
        go_wp2
        go_roundw
        case rel => exact ⟨k + 1, _, st, by omega, by go_num, rfl, rfl, HS2.out, (show st = _ by rw [HT1.out]; exact HST.out.symm), HB3.out⟩
        case measure => simp [intOf]; omega
    · obtain rfl : k = l.length := by omega
      have HE := Lib.hid (show ss = stx (bitsP l q) by rw [HBP.out, HS.out, List.take_length])
      go_wp2
      go_ret
      exact ⟨ret_str HE.out, HB.out⟩
end Go.Proofs.Ytoebnibhkdidhaa

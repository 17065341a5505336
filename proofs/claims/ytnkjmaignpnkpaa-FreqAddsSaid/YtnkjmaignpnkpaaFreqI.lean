/- The laws FreqCosts, FreqAdds, FreqWeighed walked. -/
import Derived.Test.YtnkjmaignpnkpaaFreqH
namespace Go.Proofs.Ytnkjmaignpnkpaa
open Go.RowKit

set_option maxHeartbeats 400000 in
theorem lawFreqCosts {v vl : Value} {l lens : List Int} {w : World} (hv : RInts w v l) (hvl : RInts w vl lens) :
    Calls Try.prog 4 #[v, vl] w fun e w' => e = .returned (.bool true) ∧ Below w.heap.size w w' := by
  have HV := Lib.hid hv
  have HVL := Lib.hid hvl
  obtain ⟨a, cap, rfl, hc1, hc2⟩ := hv.shape
  obtain ⟨a2, cap2, rfl, hc3, hc4⟩ := hvl.shape
  clear hv hvl
  by_cases hl : l.length ≤ 100 ∧ lens.length ≤ 100
  · obtain ⟨hl1, hl2⟩ := hl
    by_cases ho : allOf l lens.length = true
    · have HO := Lib.hid ho
      clear ho
      by_cases hm : mayL lens = true
      · have HM := Lib.hid hm
        clear hm
        go_enter Try.func4, Try.ntmps4
        go_wp2_with fail
        refine (cost_any _ _ l lens w HV.out HVL.out).mono ?_
        rintro e w1 ⟨rfl, ⟨_, _, rfl⟩ | ⟨hno, _⟩⟩
        · go_wp2_with fail
          refine (of_any _ l _ _ HV.out).mono ?_
          rintro e w2 ⟨rfl, rfl⟩
          rw [HO.out]
          go_wp2_with fail
          refine (refmay_any _ lens _ HVL.out).mono ?_
          rintro e w2 ⟨rfl, rfl⟩
          rw [HM.out]
          go_wp2_with fail
          refine (refcost_any _ _ l lens _ (by omega) HM.out HV.out HVL.out).mono ?_
          rintro e w3 ⟨rfl, rfl⟩
          rw [ssum_wsum _ _ HO.out]
          generalize min (wsum l lens) 1099511627776 = m
          have hmm : (m == m) = true := by simp
          go_wp2_with fail
          refine (three_any _).mono ?_
          rintro e w5 ⟨rfl, hb5⟩
          go_wp2
          go_ret
          exact ⟨rfl, hb5⟩
        · rw [HM.out, HO.out] at hno
          exact absurd hno (by decide)
      · have hm' : mayL lens = false := by simpa using hm
        have HM := Lib.hid hm'
        clear hm hm'
        go_enter Try.func4, Try.ntmps4
        go_wp2_with fail
        refine (cost_any _ _ l lens w HV.out HVL.out).mono ?_
        rintro e w1 ⟨rfl, ⟨hno, _, _⟩ | ⟨_, rfl⟩⟩
        · rw [HM.out] at hno
          exact absurd hno (by decide)
        · go_wp2_with fail
          refine (of_any _ l _ _ HV.out).mono ?_
          rintro e w2 ⟨rfl, rfl⟩
          rw [HO.out]
          go_wp2_with fail
          refine (refmay_any _ lens _ HVL.out).mono ?_
          rintro e w2 ⟨rfl, rfl⟩
          rw [HM.out]
          go_wp2_with fail
          refine (three_any _).mono ?_
          rintro e w5 ⟨rfl, hb5⟩
          go_wp2
          go_ret
          exact ⟨rfl, hb5⟩
    · have ho' : allOf l lens.length = false := by simpa using ho
      have HO := Lib.hid ho'
      clear ho ho'
      go_enter Try.func4, Try.ntmps4
      go_wp2_with fail
      refine (cost_any _ _ l lens w HV.out HVL.out).mono ?_
      rintro e w1 ⟨rfl, ⟨_, hno, _⟩ | ⟨_, rfl⟩⟩
      · rw [HO.out] at hno
        exact absurd hno (by decide)
      · go_wp2_with fail
        refine (of_any _ l _ _ HV.out).mono ?_
        rintro e w2 ⟨rfl, rfl⟩
        rw [HO.out]
        go_wp2_with fail
        refine (three_any _).mono ?_
        rintro e w5 ⟨rfl, hb5⟩
        go_wp2
        go_ret
        exact ⟨rfl, hb5⟩
  · by_cases h1 : l.length ≤ 100
    · have h2 : (100 : Int) < (lens.length : Int) := by omega
      clear hl
      go_enter Try.func4, Try.ntmps4
      go_wp2_with fail
      refine (three_any _).mono ?_
      rintro e w5 ⟨rfl, hb5⟩
      go_wp2
      go_ret
      exact ⟨rfl, hb5⟩
    · have h2 : (100 : Int) < (l.length : Int) := by omega
      clear hl
      go_enter Try.func4, Try.ntmps4
      go_wp2_with fail
      refine (three_any _).mono ?_
      rintro e w5 ⟨rfl, hb5⟩
      go_wp2
      go_ret
      exact ⟨rfl, hb5⟩

set_option maxHeartbeats 400000 in
theorem lawFreqAdds {v vl : Value} {l lens : List Int} {w : World} (hv : RInts w v l) (hvl : RInts w vl lens) :
    Calls Try.prog 6 #[v, vl] w fun e w' => e = .returned (.bool true) ∧ Below w.heap.size w w' := by
  have HV := Lib.hid hv
  have HVL := Lib.hid hvl
  obtain ⟨a, cap, rfl, hc1, hc2⟩ := hv.shape
  obtain ⟨a2, cap2, rfl, hc3, hc4⟩ := hvl.shape
  clear hv hvl
  by_cases hl : l.length ≤ 300 ∧ lens.length ≤ 300
  · obtain ⟨hl1, hl2⟩ := hl
    by_cases hok : l.length = lens.length ∧ mayL l = true ∧ mayL lens = true
    · have HOK := Lib.hid hok
      have hll : ((l.length : Int) != (lens.length : Int)) = false := by simp [hok.1]
      clear hok
      go_enter Try.func6, Try.ntmps6
      go_wp2_with fail
      refine (add_ok _ _ l lens w hl1 HOK.out.1 HOK.out.2.1 HOK.out.2.2 HV.out HVL.out).mono ?_
      rintro e w1 ⟨v1, rfl, hr1, hb1⟩
      have HV := Lib.hid (HV.out.below hb1)
      have HVL := Lib.hid (HVL.out.below hb1)
      go_wp2_with fail
      refine (total_any _ l _ HV.out).mono ?_
      rintro e w2 ⟨rfl, rfl⟩
      go_wp2_with fail
      refine (reftotal_any _ l _ HV.out).mono ?_
      rintro e w2 ⟨rfl, rfl⟩
      generalize totL l = m
      have hmm : (m != m) = false := by simp
      go_wp2_with fail
      refine (refmay_any _ l _ HV.out).mono ?_
      rintro e w2 ⟨rfl, rfl⟩
      rw [HOK.out.2.1]
      go_wp2_with fail
      refine (refmay_any _ lens _ HVL.out).mono ?_
      rintro e w2 ⟨rfl, rfl⟩
      rw [HOK.out.2.2]
      go_wp2_with fail
      refine (refadd_any _ _ l lens _ hl1 HOK.out.1 HOK.out.2.1 HOK.out.2.2 HV.out HVL.out).mono ?_
      rintro e w3 ⟨v3, rfl, hr3, hb3⟩
      have hr1 := hr1.below hb3
      have hb := below_two hb1 hb3
      clear hb1 hb3
      go_wp2_with fail
      refine (ints_same _ _ _ _ hr1 hr3).mono ?_
      rintro e w4 ⟨rfl, hd⟩
      have hb := below_two hb (below_drawn hd)
      clear hr1 hr3 hd
      go_wp2_with fail
      refine (three_any _).mono ?_
      rintro e w5 ⟨rfl, hb5⟩
      have hb := below_two hb hb5
      go_wp2
      go_ret
      exact ⟨rfl, hb⟩
    · have HBAD := Lib.hid hok
      clear hok
      by_cases h1 : l.length = lens.length
      · have hll : ((l.length : Int) != (lens.length : Int)) = false := by simp [h1]
        have H1 := Lib.hid h1
        clear h1
        by_cases h2 : mayL l = true
        · have h3 : mayL lens = false := by
            rw [Bool.eq_false_iff]
            exact fun h => HBAD.out ⟨H1.out, h2, h⟩
          have H2 := Lib.hid h2
          have H3 := Lib.hid h3
          clear h2 h3
          go_enter Try.func6, Try.ntmps6
          go_wp2_with fail
          refine (add_bad _ _ l lens w HBAD.out HV.out HVL.out).mono ?_
          rintro e w1 ⟨rfl, rfl⟩
          go_wp2_with fail
          refine (total_any _ l _ HV.out).mono ?_
          rintro e w2 ⟨rfl, rfl⟩
          go_wp2_with fail
          refine (reftotal_any _ l _ HV.out).mono ?_
          rintro e w2 ⟨rfl, rfl⟩
          generalize totL l = m
          have hmm : (m != m) = false := by simp
          go_wp2_with fail
          refine (refmay_any _ l _ HV.out).mono ?_
          rintro e w2 ⟨rfl, rfl⟩
          rw [H2.out]
          go_wp2_with fail
          refine (refmay_any _ lens _ HVL.out).mono ?_
          rintro e w2 ⟨rfl, rfl⟩
          rw [H3.out]
          go_wp2_with fail
          refine (three_any _).mono ?_
          rintro e w5 ⟨rfl, hb5⟩
          go_wp2
          go_ret
          exact ⟨rfl, hb5⟩
        · have h2' : mayL l = false := by simpa using h2
          have H2 := Lib.hid h2'
          clear h2 h2'
          go_enter Try.func6, Try.ntmps6
          go_wp2_with fail
          refine (add_bad _ _ l lens w HBAD.out HV.out HVL.out).mono ?_
          rintro e w1 ⟨rfl, rfl⟩
          go_wp2_with fail
          refine (total_any _ l _ HV.out).mono ?_
          rintro e w2 ⟨rfl, rfl⟩
          go_wp2_with fail
          refine (reftotal_any _ l _ HV.out).mono ?_
          rintro e w2 ⟨rfl, rfl⟩
          generalize totL l = m
          have hmm : (m != m) = false := by simp
          go_wp2_with fail
          refine (refmay_any _ l _ HV.out).mono ?_
          rintro e w2 ⟨rfl, rfl⟩
          rw [H2.out]
          go_wp2_with fail
          refine (three_any _).mono ?_
          rintro e w5 ⟨rfl, hb5⟩
          go_wp2
          go_ret
          exact ⟨rfl, hb5⟩
      · have hll : ((l.length : Int) != (lens.length : Int)) = true := by simp; omega
        clear h1
        go_enter Try.func6, Try.ntmps6
        go_wp2_with fail
        refine (add_bad _ _ l lens w HBAD.out HV.out HVL.out).mono ?_
        rintro e w1 ⟨rfl, rfl⟩
        go_wp2_with fail
        refine (total_any _ l _ HV.out).mono ?_
        rintro e w2 ⟨rfl, rfl⟩
        go_wp2_with fail
        refine (reftotal_any _ l _ HV.out).mono ?_
        rintro e w2 ⟨rfl, rfl⟩
        generalize totL l = m
        have hmm : (m != m) = false := by simp
        go_wp2_with fail
        refine (three_any _).mono ?_
        rintro e w5 ⟨rfl, hb5⟩
        go_wp2
        go_ret
        exact ⟨rfl, hb5⟩
  · by_cases h1 : l.length ≤ 300
    · have h2 : (300 : Int) < (lens.length : Int) := by omega
      clear hl
      go_enter Try.func6, Try.ntmps6
      go_wp2_with fail
      refine (three_any _).mono ?_
      rintro e w5 ⟨rfl, hb5⟩
      go_wp2
      go_ret
      exact ⟨rfl, hb5⟩
    · have h2 : (300 : Int) < (l.length : Int) := by omega
      clear hl
      go_enter Try.func6, Try.ntmps6
      go_wp2_with fail
      refine (three_any _).mono ?_
      rintro e w5 ⟨rfl, hb5⟩
      go_wp2
      go_ret
      exact ⟨rfl, hb5⟩

theorem ssum_bd {l lens : List Int} (h : allOf lens 1001 = true) (hl : l.length ≤ 300) : ∀ k, 0 ≤ ssum l lens k ∧ ssum l lens k ≤ 300000 * k
  | 0 => by simp [ssum]
  | k + 1 => by
    have ih := ssum_bd h hl k
    have h1 := cnt_bd l (k : Int)
    have h2 : 0 ≤ lens.getD k 0 ∧ lens.getD k 0 ≤ 1000 := by
      rw [List.getD_eq_getElem?_getD]
      cases hx : lens[k]? with
      | none => simp
      | some x => have := allOf_at h hx; simp; omega
    have h3 : 0 ≤ cnt l (k : Int) * lens.getD k 0 := Int.mul_nonneg h1.1 h2.1
    have h4 : cnt l (k : Int) * lens.getD k 0 ≤ 300 * 1000 := by
      refine Int.mul_le_mul (by omega) h2.2 h2.1 (by decide)
    simp only [ssum]
    omega

theorem mayL_of {lens : List Int} (h : allOf lens 1001 = true) : mayL lens = true := by
  unfold mayL
  unfold allOf at h
  rw [List.all_eq_true] at h ⊢
  intro x hx
  have := h x hx
  simp at this ⊢
  omega

set_option maxHeartbeats 400000 in
theorem lawFreqWeighed {v vl : Value} {l lens : List Int} {w : World} (hv : RInts w v l) (hvl : RInts w vl lens) :
    Calls Try.prog 5 #[v, vl] w fun e w' => e = .returned (.bool true) ∧ Below w.heap.size w w' := by
  have HV := Lib.hid hv
  have HVL := Lib.hid hvl
  obtain ⟨a, cap, rfl, hc1, hc2⟩ := hv.shape
  obtain ⟨a2, cap2, rfl, hc3, hc4⟩ := hvl.shape
  clear hv hvl
  by_cases hl : l.length ≤ 300
  · by_cases hs : 3 ≤ (lens.length : Int) ∧ (lens.length : Int) ≤ 258
    · obtain ⟨hs1, hs2⟩ := hs
      by_cases ho : allOf l lens.length = true
      · have HO := Lib.hid ho
        clear ho
        have hcost : Calls Try.prog 15 #[.slice a l.length cap, .slice a2 lens.length cap2] w fun e w' => ∃ n ee : Int, e = .returned (.tuple #[.int .i64 n, .int .i64 ee]) ∧ Hid (mayL lens = true → n = min (wsum l lens) 1099511627776 ∧ ee = 0) ∧ w = w' := by
          refine (cost_any _ _ l lens w HV.out HVL.out).mono ?_
          rintro e w1 ⟨rfl, ⟨_, _, rfl⟩ | ⟨hno, rfl⟩⟩
          · exact ⟨_, _, rfl, fun _ => ⟨rfl, rfl⟩, rfl⟩
          · refine ⟨_, _, rfl, fun h => ?_, rfl⟩
            rw [HO.out, h] at hno
            exact absurd hno (by decide)
        have HCOST := Lib.hid hcost
        clear hcost
        go_enter Try.func5, Try.ntmps5
        go_wp2_with fail
        refine (size_any _ _).mono ?_
        rintro e w2 ⟨rfl, rfl⟩
        rw [size_val hs1 hs2]
        go_wp2_with fail
        refine (of_any _ l _ _ HV.out).mono ?_
        rintro e w2 ⟨rfl, rfl⟩
        rw [HO.out]
        go_wp2_with fail
        refine HCOST.out.mono ?_
        rintro e w2 ⟨n, ee, rfl, HN, rfl⟩
        go_wp2_with fail
        refine (counts_ok _ l lens.length w hl HV.out (by omega) (by omega) HO.out).mono ?_
        rintro e w1 ⟨v1, rfl, hr1, hb1⟩
        have HVL := Lib.hid (HVL.out.below hb1)
        clear HV HCOST
        obtain ⟨a3, cap3, rfl, hc5, hc6⟩ := hr1.shape
        have hcl := counts_length l lens.length
        rw [hcl] at hr1 hc5 ⊢
        have HR1 := Lib.hid hr1
        clear hr1 hcl
        have hnn : ((lens.length : Int) != (lens.length : Int)) = false := by simp
        go_wp2
        go_loop [9, 10, 11, 53] (fun s j x i => ∃ k : Nat, k ≤ lens.length ∧ i = .int .i64 k ∧ allOf (lens.take k) 1001 = true ∧ s = .int .i64 (ssum l lens k)) (fun _ _ _ i => lens.length - (intOf i).toNat)
        case atStart => exact ⟨0, Nat.zero_le _, rfl, rfl, rfl⟩
        case round =>
          obtain ⟨k, hk, rfl, hall, rfl⟩ := hrel
          have HALL := Lib.hid hall
          clear hall
          have hsb : 0 ≤ ssum l lens k ∧ ssum l lens k ≤ 300000 * k := by
            have h1 := ssum_bd (lens := lens.take k) HALL.out hl k
            have e : ∀ j, j ≤ k → ssum l (lens.take k) j = ssum l lens j := by
              intro j
              induction j with
              | zero => intro _; rfl
              | succ j ih =>
                intro hj
                simp only [ssum]
                rw [ih (by omega), List.getD_eq_getElem?_getD, List.getD_eq_getElem?_getD, List.getElem?_take, if_pos (by omega)]
            rw [e k (Nat.le_refl k)] at h1
            exact h1
          obtain ⟨S, hS⟩ : ∃ S, ssum l lens k = S := ⟨_, rfl⟩
          rw [hS] at hsb ⊢
          have HS := Lib.hid hS
          clear hS
          obtain ⟨hsb1, hsb2⟩ := hsb
          by_cases hlt : k < lens.length
          · obtain ⟨b2, off2, y, rfl, hbb2, hy, hcy, hy1, hy2⟩ := HVL.out.at hlt
            obtain ⟨b3, off3, c, rfl, hbb3, hcc, hcd, _, _⟩ := HR1.out.at hlt
            rw [counts_at _ _ _ hlt] at hcc
            have hc : cnt l (k : Int) = c := by simpa using hcc
            have hcb := cnt_bd l (k : Int)
            rw [hc] at hcb
            obtain ⟨hcb1, hcb2⟩ := hcb
            have HC := Lib.hid hc
            have HY := Lib.hid hy
            clear hy hcc hc
            by_cases h0 : 0 ≤ y
            · by_cases h1 : y ≤ 1000
              · have hm1 : 0 ≤ y * c := Int.mul_nonneg h0 hcb1
                have hm2 : y * c ≤ 1000 * 300 := Int.mul_le_mul h1 (by omega) hcb1 (by decide)
                have hkl : (k : Int) < (lens.length : Int) := by omega
                go_wp2
                go_round
                case rel =>
                  refine ⟨k + 1, by omega, by go_num, by rw [allOf_take_succ HY.out, HALL.out]; simp; omega, ?_⟩
                  simp only [ssum]
                  have h5 := HY.out
                  rw [List.getD_eq_getElem?_getD, h5, HC.out, HS.out, Int.mul_comm c]
                  rfl
                case measure => simp [intOf]; omega
              · go_wp2_with fail
                refine (three_any _).mono ?_
                rintro e w5 ⟨rfl, hb5⟩
                have hb := below_two hb1 hb5
                go_wp2
                go_ret
                exact ⟨rfl, hb⟩
            · go_wp2_with fail
              refine (three_any _).mono ?_
              rintro e w5 ⟨rfl, hb5⟩
              have hb := below_two hb1 hb5
              go_wp2
              go_ret
              exact ⟨rfl, hb⟩
          · obtain rfl : k = lens.length := by omega
            have hall := HALL.out
            rw [List.take_length] at hall
            obtain ⟨h1, h2⟩ := HN.out (mayL_of hall)
            have h3 := ssum_wsum lens l HO.out
            have h4 := HS.out
            obtain rfl : n = S := by omega
            subst h2
            have hee : (n == n) = true := by simp
            clear h1 h3 h4 hall
            go_wp2_with fail
            refine (three_any _).mono ?_
            rintro e w5 ⟨rfl, hb5⟩
            have hb := below_two hb1 hb5
            go_wp2
            go_ret
            exact ⟨rfl, hb⟩
      · have ho' : allOf l lens.length = false := by simpa using ho
        have HO := Lib.hid ho'
        clear ho ho'
        go_enter Try.func5, Try.ntmps5
        go_wp2_with fail
        refine (size_any _ _).mono ?_
        rintro e w2 ⟨rfl, rfl⟩
        rw [size_val hs1 hs2]
        go_wp2_with fail
        refine (of_any _ l _ _ HV.out).mono ?_
        rintro e w2 ⟨rfl, rfl⟩
        rw [HO.out]
        go_wp2_with fail
        refine (three_any _).mono ?_
        rintro e w5 ⟨rfl, hb5⟩
        go_wp2
        go_ret
        exact ⟨rfl, hb5⟩
    · have HS := Lib.hid hs
      clear hs
      go_enter Try.func5, Try.ntmps5
      go_wp2_with fail
      refine (size_any _ _).mono ?_
      rintro e w2 ⟨rfl, rfl⟩
      rw [size_no HS.out]
      go_wp2_with fail
      refine (three_any _).mono ?_
      rintro e w5 ⟨rfl, hb5⟩
      go_wp2
      go_ret
      exact ⟨rfl, hb5⟩
  · have h2 : (300 : Int) < (l.length : Int) := by omega
    go_enter Try.func5, Try.ntmps5
    go_wp2_with fail
    refine (three_any _).mono ?_
    rintro e w5 ⟨rfl, hb5⟩
    go_wp2
    go_ret
    exact ⟨rfl, hb5⟩
end Go.Proofs.Ytnkjmaignpnkpaa

/- The law FreqParts walked. -/
import Derived.Test.YtnkjmaignpnkpaaFreqJ
namespace Go.Proofs.Ytnkjmaignpnkpaa
open Go.RowKit

theorem totL_sum {l : List Int} (h : ∀ x ∈ l, 0 ≤ x) : totL l = min l.sum 1099511627776 ∧ 0 ≤ l.sum := by
  induction l using snoc_ind with
  | h0 => exact ⟨rfl, Int.le_refl 0⟩
  | h1 l x ih =>
    have hx := h x (by simp)
    obtain ⟨i1, i2⟩ := ih (fun y hy => h y (by simp [hy]))
    have e : (l ++ [x]).sum = l.sum + x := by rw [List.sum_append]; simp
    rw [totL_snoc, i1, e]
    unfold totF
    constructor <;> omega

theorem counts_sum (l : List Int) (n : Nat) : ∀ k, k ≤ n → (counts l k).sum = ssum l (List.replicate n 1) k
  | 0, _ => rfl
  | k + 1, h => by
    rw [counts_take_succ, List.sum_append, counts_sum l n k (by omega)]
    simp only [ssum]
    have : (List.replicate n (1 : Int)).getD k 0 = 1 := by
      rw [List.getD_eq_getElem?_getD, List.getElem?_replicate, if_pos (by omega)]
      rfl
    rw [this]
    simp
theorem wsum_ones {l : List Int} {n : Nat} (h : allOf l n = true) : wsum l (List.replicate n 1) = l.length := by
  induction l using snoc_ind with
  | h0 => rfl
  | h1 l x ih =>
    rw [allOf_snoc] at h
    simp at h
    have : (List.replicate n (1 : Int)).getD x.toNat 0 = 1 := by
      rw [List.getD_eq_getElem?_getD, List.getElem?_replicate, if_pos (by omega)]
      rfl
    rw [wsum_snoc, this, ih h.1]
    simp
theorem total_counts {l : List Int} {n : Nat} (h : allOf l n = true) (hl : l.length ≤ 300) : totL (counts l n) = l.length := by
  have h1 := totL_sum (l := counts l n) (fun x hx => by
    unfold counts at hx
    obtain ⟨y, _, rfl⟩ := List.mem_map.1 hx
    exact (cnt_bd l y).1)
  rw [h1.1, counts_sum l n n (Nat.le_refl _)]
  have h2 := ssum_wsum (List.replicate n 1) l (by simpa using h)
  rw [List.length_replicate] at h2
  rw [h2, wsum_ones h]
  omega

theorem cnt_append (a b : List Int) (x : Int) : cnt (a ++ b) x = cnt a x + cnt b x := by
  unfold cnt
  rw [List.count_append]
  simp
theorem addL_counts {a b : List Int} (h : (a ++ b).length ≤ 300) (n : Nat) : addL (counts a n) (counts b n) = counts (a ++ b) n := by
  unfold addL counts
  rw [List.zipWith_map, List.zipWith_self]
  apply List.map_congr_left
  intro x _
  have h1 := cnt_bd (a ++ b) x
  rw [cnt_append] at h1 ⊢
  omega
theorem mayL_counts {a : List Int} (h : a.length ≤ 300) (n : Nat) : mayL (counts a n) = true := by
  unfold mayL
  rw [List.all_eq_true]
  intro x hx
  unfold counts at hx
  obtain ⟨y, _, rfl⟩ := List.mem_map.1 hx
  have := cnt_bd a y
  simp
  omega
theorem take_chunk (l : List Int) (i : Nat) : l.take (50 * (i + 1)) = l.take (50 * i) ++ chunk l i := by
  unfold chunk
  rw [show 50 * (i + 1) = 50 * i + 50 from by omega, List.take_add]
theorem allOf_chunk {l : List Int} {size : Int} (h : allOf l size = true) (i : Nat) : allOf (chunk l i) size = true := by
  unfold allOf at h ⊢
  rw [List.all_eq_true] at h ⊢
  exact fun x hx => h x (List.mem_of_mem_drop (List.mem_of_mem_take hx))
theorem chunk_le (l : List Int) (i : Nat) : (chunk l i).length ≤ 300 := by rw [chunk_length]; omega

theorem groups_len (l : List Int) (hl : l.length ≤ 300) (w : World) : Calls Try.prog 24 #[.int .i64 (l.length : Int)] w fun e w' => e = .returned (.int .i64 (((l.length + 49) / 50 : Nat) : Int)) ∧ w = w' := by
  by_cases h0 : l.length = 0
  · refine (groups_neg _ w (by omega)).mono ?_
    rintro e w' ⟨rfl, rfl⟩
    exact ⟨ret_int (by omega), rfl⟩
  · refine (groups_pos _ w (by omega) (by omega)).mono ?_
    rintro e w' ⟨rfl, rfl⟩
    exact ⟨ret_int (by omega), rfl⟩

set_option maxHeartbeats 1000000 in
theorem lawFreqParts {v : Value} {l : List Int} {size : Int} {w : World} (hv : RInts w v l) (hi1 : -9223372036854775808 ≤ size) (hi2 : size ≤ 9223372036854775807) :
    Calls Try.prog 8 #[v, .int .i64 size] w fun e w' => e = .returned (.bool true) ∧ Below w.heap.size w w' := by
  have HV := Lib.hid hv
  obtain ⟨a, cap, rfl, hc1, hc2⟩ := hv.shape
  clear hv
  by_cases hl : l.length ≤ 300
  · by_cases hs : 3 ≤ size ∧ size ≤ 258
    · obtain ⟨hs1, hs2⟩ := hs
      by_cases ho : allOf l size = true
      · have HO := Lib.hid ho
        clear ho
        obtain ⟨size, rfl⟩ := Int.eq_ofNat_of_zero_le (show 0 ≤ size by omega)
        go_enter Try.func8, Try.ntmps8
        go_wp2_with fail
        refine (size_any _ _).mono ?_
        rintro e w2 ⟨rfl, rfl⟩
        rw [size_val hs1 hs2]
        go_wp2_with fail
        refine (of_any _ l _ _ HV.out).mono ?_
        rintro e w2 ⟨rfl, rfl⟩
        rw [HO.out]
        go_wp2_with (at_make; refine wpList_make_blk _ rfl _ _ 22 rfl 3 (.int .i64 0) 8 Try.underlying22 intinfo rfl _ _ _ _ size rfl rfl rfl rfl (by omega) (by unfold maxLen; omega) ?_)
        intro w1 hb1 hk1
        have hr1 : RInts w1 (.slice (some ⟨w.heap.size, 0, none⟩) size size) (counts [] size) := by
          rw [counts_nil]
          refine ⟨?_, fun x hx => by rw [List.mem_replicate] at hx; omega⟩
          rw [List.length_replicate, List.map_replicate]
          exact hb1.reads _ _ (Nat.le_refl _) (by unfold maxLen; omega)
        have HR1 := Lib.hid hr1
        clear hb1 hr1
        go_wp2_with fail
        refine (groups_len l hl _).mono ?_
        rintro e w3 ⟨rfl, rfl⟩
        obtain ⟨D, hD⟩ : ∃ D, (l.length + 49) / 50 = D := ⟨_, rfl⟩
        rw [hD]
        have hdd : D ≤ 7 := by omega
        have HD := Lib.hid hD
        clear hD
        go_wp2
        go_loopw [5, 6, 7, 8, 9, 10, 11, 12, 35] (fun vs _ _ _ _ _ _ _ i wr => ∃ k : Nat, k ≤ D ∧ i = .int .i64 k ∧ RInts wr vs (counts (l.take (50 * k)) size) ∧ Below w.heap.size w wr) (fun _ _ _ _ _ _ _ _ i _ => D - (intOf i).toNat)
        case atStart => exact ⟨0, Nat.zero_le _, rfl, HR1.out, hk1⟩
        case round =>
          obtain ⟨k, hk, rfl, hr, hb⟩ := hrel
          have HVR := Lib.hid (HV.out.below hb)
          have HR := Lib.hid hr
          clear hr
          by_cases hlt : k < D
          · have hkl : 50 * k < l.length := by have := HD.out; omega
            go_wp2_with fail
            refine (group_ok _ l k _ hl hkl HVR.out).mono ?_
            rintro e w2 ⟨v2, rfl, hr2, hb2⟩
            have HR := Lib.hid (HR.out.below hb2)
            have hb := below_two hb hb2
            have HR2 := Lib.hid hr2
            clear hb2 hr2
            go_wp2_with fail
            refine (counts_ok _ (chunk l k) size _ (chunk_le l k) HR2.out (by omega) (by omega) (allOf_chunk HO.out k)).mono ?_
            rintro e w3 ⟨v3, rfl, hr3, hb3⟩
            have HR := Lib.hid (HR.out.below hb3)
            have hb := below_two hb hb3
            have HR3 := Lib.hid hr3
            clear hb3 hr3
            go_wp2_with fail
            refine (add_ok _ _ (counts (l.take (50 * k)) size) (counts (chunk l k) size) _ (by rw [counts_length]; omega) (by rw [counts_length, counts_length]) (mayL_counts (by simp; omega) _) (mayL_counts (chunk_le l k) _) HR.out HR3.out).mono ?_
            rintro e w4 ⟨v4, rfl, hr4, hb4⟩
            have hb := below_two hb hb4
            rw [addL_counts (by rw [← take_chunk]; simp; omega), ← take_chunk] at hr4
            have HR4 := Lib.hid hr4
            clear hb4 hr4
            go_wp2
            go_roundw
            case rel => exact ⟨k + 1, by omega, by go_num, HR4.out, hb⟩
            case measure => simp [intOf]; omega
          · obtain rfl : k = D := by omega
            go_wp2_with fail
            refine (counts_ok _ l size _ hl HVR.out (by omega) (by omega) HO.out).mono ?_
            rintro e w2 ⟨v2, rfl, hr2, hb2⟩
            have hr := HR.out.below hb2
            have e1 : l.take (50 * k) = l := List.take_of_length_le (by have := HD.out; omega)
            rw [e1] at hr
            have HR := Lib.hid hr
            have hb := below_two hb hb2
            have HR2 := Lib.hid hr2
            clear hr hb2 hr2 e1
            go_wp2_with fail
            refine (ints_same _ _ _ _ HR2.out HR.out).mono ?_
            rintro e w4 ⟨rfl, hd⟩
            have hbd := below_drawn hd
            have hb := below_two hb hbd
            have HR2 := Lib.hid (HR2.out.below hbd)
            clear hd hbd
            go_wp2_with fail
            refine (total_any _ _ _ HR2.out).mono ?_
            rintro e w5 ⟨rfl, rfl⟩
            rw [total_counts HO.out hl]
            have hll : ((l.length : Int) == (l.length : Int)) = true := by simp
            go_wp2_with fail
            refine (three_any _).mono ?_
            rintro e w5 ⟨rfl, hb5⟩
            have hb := below_two hb hb5
            go_wp2
            go_ret
            exact ⟨rfl, hb⟩
      · have ho' : allOf l size = false := by simpa using ho
        have HO := Lib.hid ho'
        clear ho ho'
        go_enter Try.func8, Try.ntmps8
        go_wp2_with fail
        refine (size_any _ _).mono ?_
        rintro e w2 ⟨rfl, rfl⟩
        rw [size_val hs1 hs2]
        go_wp2_with fail
        refine (of_any _ l _ _ HV.out).mono ?_
        rintro e w2 ⟨rfl, rfl⟩
        rw [HO.out]
        go_wp2_with fail
        refine (three_any _).mono ?_
        rintro e w5 ⟨rfl, hb5⟩
        go_wp2
        go_ret
        exact ⟨rfl, hb5⟩
    · have HS := Lib.hid hs
      clear hs
      go_enter Try.func8, Try.ntmps8
      go_wp2_with fail
      refine (size_any _ _).mono ?_
      rintro e w2 ⟨rfl, rfl⟩
      rw [size_no HS.out]
      go_wp2_with fail
      refine (three_any _).mono ?_
      rintro e w5 ⟨rfl, hb5⟩
      go_wp2
      go_ret
      exact ⟨rfl, hb5⟩
  · have h2 : (300 : Int) < (l.length : Int) := by omega
    go_enter Try.func8, Try.ntmps8
    go_wp2_with fail
    refine (three_any _).mono ?_
    rintro e w5 ⟨rfl, hb5⟩
    go_wp2
    go_ret
    exact ⟨rfl, hb5⟩
end Go.Proofs.Ytnkjmaignpnkpaa

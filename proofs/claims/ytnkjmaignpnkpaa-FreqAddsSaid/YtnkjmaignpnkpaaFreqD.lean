/- Contracts of package freq and its reference: what a row costs, all counts together, two rows together. -/
import Derived.Test.YtnkjmaignpnkpaaFreqC
namespace Go.Proofs.Ytnkjmaignpnkpaa
open Go.RowKit

/-- what a row costs, not cut -/
def wsum (l lens : List Int) : Int := l.foldl (fun s x => s + lens.getD x.toNat 0) 0
theorem wsum_snoc (l lens : List Int) (x : Int) : wsum (l ++ [x]) lens = wsum l lens + lens.getD x.toNat 0 := by
  unfold wsum
  rw [List.foldl_append]
  rfl
theorem wsum_take_succ {l : List Int} {k : Nat} {x : Int} (hx : l[k]? = some x) (lens : List Int) : wsum (l.take (k + 1)) lens = wsum (l.take k) lens + lens.getD x.toNat 0 := by
  rw [take_snoc hx, wsum_snoc]
theorem mayL_getD {l : List Int} (h : mayL l = true) (i : Nat) : 0 ≤ l.getD i 0 ∧ l.getD i 0 ≤ 1099511627776 := by
  rw [List.getD_eq_getElem?_getD]
  cases hx : l[i]? with
  | none => simp
  | some x => simpa using mayL_at h hx
theorem snoc_ind {α : Type} {P : List α → Prop} (h0 : P []) (h1 : ∀ l x, P l → P (l ++ [x])) : ∀ l, P l := by
  intro l
  rw [← List.reverse_reverse l]
  generalize l.reverse = r
  induction r with
  | nil => exact h0
  | cons x r ih => rw [List.reverse_cons]; exact h1 _ _ ih
theorem wsum_nonneg {lens : List Int} (h : mayL lens = true) (l : List Int) : 0 ≤ wsum l lens := by
  induction l using snoc_ind with
  | h0 => exact Int.le_refl 0
  | h1 l x ih => rw [wsum_snoc]; have := mayL_getD h x.toNat; omega

/-- what a row costs, symbol by symbol of the alphabet -/
def ssum (l lens : List Int) : Nat → Int
  | 0 => 0
  | k + 1 => ssum l lens k + cnt l k * lens.getD k 0
theorem ssum_snoc (l lens : List Int) (x : Int) (hx : 0 ≤ x) : ∀ k : Nat, ssum (l ++ [x]) lens k = ssum l lens k + if x < (k : Int) then lens.getD x.toNat 0 else 0
  | 0 => by simp [ssum]; omega
  | k + 1 => by
    simp only [ssum]
    rw [ssum_snoc l lens x hx k, cnt_snoc]
    by_cases h : x = (k : Int)
    · subst h
      simp [Int.add_mul]
      omega
    · by_cases h2 : x < (k : Int)
      · have h3 : x < ((k + 1 : Nat) : Int) := by omega
        simp only [if_neg h, if_pos h2, if_pos h3, Int.add_zero]
        omega
      · have h3 : ¬ x < ((k + 1 : Nat) : Int) := by omega
        simp only [if_neg h, if_neg h2, if_neg h3, Int.add_zero]
theorem ssum_nil (lens : List Int) : ∀ k, ssum [] lens k = 0
  | 0 => rfl
  | k + 1 => by simp [ssum, ssum_nil lens k, cnt]
theorem allOf_snoc (l : List Int) (x size : Int) : allOf (l ++ [x]) size = (allOf l size && (decide (0 ≤ x) && decide (x < size))) := by simp [allOf]
theorem ssum_wsum (lens l : List Int) (h : allOf l lens.length = true) : ssum l lens lens.length = wsum l lens := by
  induction l using snoc_ind with
  | h0 => exact ssum_nil lens _
  | h1 l x ih =>
    rw [allOf_snoc] at h
    simp at h
    rw [ssum_snoc _ _ _ h.2.1, wsum_snoc, ih h.1, if_pos h.2.2]
theorem ssum_nonneg {lens : List Int} (h : mayL lens = true) (l : List Int) : ∀ k, 0 ≤ ssum l lens k
  | 0 => Int.le_refl 0
  | k + 1 => by
    have h1 := ssum_nonneg h l k
    have h2 := mayL_getD h k
    have h3 := Int.mul_nonneg (cnt_bd l k).1 h2.1
    simp only [ssum]
    omega

def CostEnd (l lens : List Int) (w : World) (e : Ending) (w' : World) : Prop :=
  w = w' ∧ ((mayL lens = true ∧ allOf l lens.length = true ∧ e = .returned (.tuple #[.int .i64 (min (wsum l lens) 1099511627776), .int .i64 0])) ∨
    ((mayL lens = false ∨ allOf l lens.length = false) ∧ e = .returned (.tuple #[.int .i64 0, .int .i64 1])))

set_option maxHeartbeats 400000 in
theorem cost_any (v vl : Value) (l lens : List Int) (w : World) (hv : RInts w v l) (hvl : RInts w vl lens) :
    Calls Try.prog 15 #[v, vl] w (CostEnd l lens w) := by
  obtain ⟨a, cap, rfl, hc1, hc2⟩ := hv.shape
  obtain ⟨a2, cap2, rfl, hc3, hc4⟩ := hvl.shape
  by_cases hm : mayL lens = true
  · have HM := Lib.hid hm
    have hcall := Lib.hid (all_any _ _ w hvl)
    go_enter Try.func15, Try.ntmps15
    go_wp2_with (go_at_call 26; refine hcall.out.mono ?_; rintro e w' ⟨rfl, rfl⟩)
    clear hm
    go_loop [6, 8, 14] (fun n x i => ∃ k : Nat, k ≤ l.length ∧ i = .int .i64 k ∧ allOf (l.take k) lens.length = true ∧ n = .int .i64 (min (wsum (l.take k) lens) 1099511627776)) (fun _ _ i => l.length - (intOf i).toNat)
    case atStart => exact ⟨0, Nat.zero_le _, rfl, rfl, rfl⟩
    case round =>
      obtain ⟨k, hk, rfl, hall, rfl⟩ := hrel
      have HALL := Lib.hid hall
      clear hall hcall
      obtain ⟨n, hn⟩ : ∃ n, min (wsum (l.take k) lens) 1099511627776 = n := ⟨_, rfl⟩
      rw [hn]
      have hw0 := wsum_nonneg HM.out (l.take k)
      have hn1 : 0 ≤ n := by omega
      have hn2 : n ≤ 1099511627776 := by omega
      have HN := Lib.hid hn
      have HW0 := Lib.hid hw0
      clear hn hw0
      by_cases hlt : k < l.length
      · obtain ⟨b, off, x, rfl, hbb, hx, hcx, hx1, hx2⟩ := hv.at hlt
        have HX := Lib.hid hx
        clear hx hv
        by_cases h0 : 0 ≤ x
        · obtain ⟨x, rfl⟩ := Int.eq_ofNat_of_zero_le h0
          by_cases h1 : x < lens.length
          · obtain ⟨b2, off2, y, rfl, hbb2, hy, hcy, hy1, hy2⟩ := hvl.at h1
            obtain ⟨hy3, hy4⟩ := mayL_at HM.out hy
            have HY := Lib.hid hy
            clear hy hvl
            have hxl : (x : Int) < (lens.length : Int) := by omega
            go_wp2_with (go_at_call 27; refine (together_any _ _ _ hn1 hn2 hy3 hy4).mono ?_; rintro e w' ⟨rfl, rfl⟩)
            go_round
            case rel =>
              refine ⟨k + 1, by omega, by go_num, by rw [allOf_take_succ HX.out, HALL.out]; simp [h1], ?_⟩
              rw [wsum_take_succ HX.out]
              have := HY.out
              have h3 := HN.out
              have h4 := HW0.out
              rw [List.getD_eq_getElem?_getD, Int.toNat_natCast, this]
              congr 1
              simp
              omega
            case measure => simp [intOf]; omega
          · have hxl : (lens.length : Int) ≤ (x : Int) := by omega
            clear hvl
            go_wp2
            go_ret2
            exact ⟨rfl, .inr ⟨.inr (allOf_no HX.out (by omega)), rfl⟩⟩
        · clear hvl
          go_wp2
          go_ret2
          exact ⟨rfl, .inr ⟨.inr (allOf_no HX.out (by omega)), rfl⟩⟩
      · obtain rfl : k = l.length := by omega
        clear hv hvl
        go_wp2
        go_ret2
        refine ⟨rfl, .inl ⟨HM.out, ?_, ?_⟩⟩
        · have := HALL.out
          rw [List.take_length] at this
          exact this
        · have := HN.out
          rw [List.take_length] at this
          rw [this]
          rfl
  · have hm' : mayL lens = false := by simpa using hm
    have HM := Lib.hid hm'
    have hcall := Lib.hid (all_any _ _ w hvl)
    clear hm hv hvl
    go_enter Try.func15, Try.ntmps15
    go_wp2_with (go_at_call 26; refine hcall.out.mono ?_; rintro e w' ⟨rfl, rfl⟩)
    go_ret2
    exact ⟨rfl, .inr ⟨.inl HM.out, rfl⟩⟩

set_option maxHeartbeats 400000 in
theorem refcost_any (v vl : Value) (l lens : List Int) (w : World) (hl : l.length ≤ 300) (hm : mayL lens = true) (hv : RInts w v l) (hvl : RInts w vl lens) :
    Calls Try.prog 17 #[v, vl] w fun e w' => e = .returned (.int .i64 (min (ssum l lens lens.length) 1099511627776)) ∧ w = w' := by
  obtain ⟨a, cap, rfl, hc1, hc2⟩ := hv.shape
  obtain ⟨a2, cap2, rfl, hc3, hc4⟩ := hvl.shape
  have HM := Lib.hid hm
  clear hm
  go_enter Try.func17, Try.ntmps17
  go_wp2
  go_loop [5, 6, 7, 10] (fun n x y i => ∃ k : Nat, k ≤ lens.length ∧ i = .int .i64 k ∧ n = .int .i64 (min (ssum l lens k) 1099511627776)) (fun _ _ _ i => lens.length - (intOf i).toNat)
  case atStart => exact ⟨0, Nat.zero_le _, rfl, rfl⟩
  case round =>
    obtain ⟨k, hk, rfl, rfl⟩ := hrel
    obtain ⟨S, hS⟩ : ∃ S, ssum l lens k = S := ⟨_, rfl⟩
    have hS0 := ssum_nonneg HM.out l k
    rw [hS] at hS0
    rw [hS]
    have HS := Lib.hid hS
    clear hS
    by_cases hlt : k < lens.length
    · obtain ⟨b2, off2, y, rfl, hbb2, hy, hcy, hy1, hy2⟩ := hvl.at hlt
      obtain ⟨hy3, hy4⟩ := mayL_at HM.out hy
      have HY := Lib.hid hy
      clear hy hvl
      have hcb := cnt_bd l (k : Int)
      obtain ⟨c, hc⟩ : ∃ c, cnt l (k : Int) = c := ⟨_, rfl⟩
      have HCALL := Lib.hid (count_any _ l (k : Int) w hv)
      rw [hc] at hcb HCALL
      have HC := Lib.hid hc
      clear hc hv
      obtain ⟨hcb1, hcb2⟩ := hcb
      go_wp2_with (go_at_call 25; refine HCALL.out.mono ?_; rintro e w' ⟨rfl, rfl⟩)
      go_loop [5, 18] (fun n j => ∃ jj : Nat, jj ≤ c ∧ j = .int .i64 jj ∧ n = .int .i64 (min (S + jj * y) 1099511627776)) (fun _ j => c.toNat - (intOf j).toNat)
      case atStart => exact ⟨0, by omega, rfl, by simp⟩
      case round =>
        obtain ⟨j, hj, rfl, rfl⟩ := hrel
        obtain ⟨t, ht⟩ : ∃ t, S + j * y = t := ⟨_, rfl⟩
        have ht0 : 0 ≤ t := by have := Int.mul_nonneg (Int.natCast_nonneg j) hy3; omega
        rw [ht]
        have HT := Lib.hid ht
        clear ht HCALL
        obtain ⟨n, hn⟩ : ∃ n, min t 1099511627776 = n := ⟨_, rfl⟩
        rw [hn]
        have hn1 : 0 ≤ n := by omega
        have hn2 : n ≤ 1099511627776 := by omega
        have HN := Lib.hid hn
        clear hn
        by_cases hjc : (j : Int) < c
        · go_wp2_with (go_at_call 28; refine (most_any _ _).mono ?_; rintro e w' ⟨rfl, rfl⟩)
          go_round
          case rel =>
            refine ⟨j + 1, by omega, by go_num, ?_⟩
            have h1 := HT.out
            have h2 := HN.out
            congr 1
            rw [Int.natCast_add, Int.add_mul]
            simp
            omega
          case measure => simp [intOf]; omega
        · go_wp2
          go_round
          case rel =>
            refine ⟨k + 1, by omega, by go_num, ?_⟩
            have h1 := HT.out
            have h2 := HN.out
            have h3 := HC.out
            have h4 := HS.out
            have h5 := HY.out
            congr 1
            simp only [ssum]
            rw [List.getD_eq_getElem?_getD, h5, h4, h3]
            have h6 : (j : Int) = c := by omega
            rw [h6] at h1
            simp
            omega
          case measure => simp [intOf]; omega
    · obtain rfl : k = lens.length := by omega
      clear hv hvl
      go_wp2
      go_ret
      exact ⟨ret_int (by have := HS.out; rw [this]), rfl⟩
end Go.Proofs.Ytnkjmaignpnkpaa

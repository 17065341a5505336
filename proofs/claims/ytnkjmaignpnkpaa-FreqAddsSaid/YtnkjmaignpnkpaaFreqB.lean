/- Contracts of functions that only read rows of numbers. -/
import Derived.Test.YtnkjmaignpnkpaaFreqA
namespace Go.Proofs.Ytnkjmaignpnkpaa
open Go.RowKit

theorem size_any (n : Int) (w : World) : Calls Try.prog 11 #[.int .i64 n] w fun e w' => e = .returned (.bool (decide (3 ≤ n) && decide (n ≤ 258))) ∧ w = w' := by
  by_cases h1 : 3 ≤ n
  · by_cases h2 : n ≤ 258
    · go_enter Try.func11, Try.ntmps11
      go_wp2
      go_ret
      exact ⟨ret_bool (by simp [h1, h2]), rfl⟩
    · go_enter Try.func11, Try.ntmps11
      go_wp2
      go_ret
      exact ⟨ret_bool (by simp; omega), rfl⟩
  · go_enter Try.func11, Try.ntmps11
    go_wp2
    go_ret
    exact ⟨ret_bool (by simp; omega), rfl⟩

theorem allOf_take_succ {l : List Int} {size : Int} {k : Nat} {x : Int} (hx : l[k]? = some x) :
    allOf (l.take (k + 1)) size = (allOf (l.take k) size && (decide (0 ≤ x) && decide (x < size))) := by
  rw [take_snoc hx]
  simp [allOf]
theorem allOf_no {l : List Int} {size : Int} {k : Nat} {x : Int} (hx : l[k]? = some x) (h : ¬ (0 ≤ x ∧ x < size)) : allOf l size = false := by
  rw [Bool.eq_false_iff]
  intro h'
  exact h (allOf_at h' hx)

set_option maxHeartbeats 400000 in
theorem of_any (v : Value) (l : List Int) (size : Int) (w : World) (hv : RInts w v l) :
    Calls Try.prog 12 #[v, .int .i64 size] w fun e w' => e = .returned (.bool (allOf l size)) ∧ w = w' := by
  obtain ⟨a, cap, rfl, hc1, hc2⟩ := hv.shape
  go_enter Try.func12, Try.ntmps12
  go_wp2
  go_loop [6, 9] (fun x i => ∃ k : Nat, k ≤ l.length ∧ i = .int .i64 k ∧ allOf (l.take k) size = true) (fun _ i => l.length - (intOf i).toNat)
  case atStart => exact ⟨0, Nat.zero_le _, rfl, rfl⟩
  case round =>
    obtain ⟨k, hk, rfl, hall⟩ := hrel
    have HALL := Lib.hid hall
    clear hall
    by_cases hlt : k < l.length
    · obtain ⟨b, off, x, rfl, hbb, hx, hcx, hx1, hx2⟩ := hv.at hlt
      have HX := Lib.hid hx
      clear hx hv
      by_cases h0 : 0 ≤ x
      · by_cases h1 : x < size
        · go_wp2
          go_round
          case rel => exact ⟨k + 1, by omega, by go_num, by rw [allOf_take_succ HX.out, HALL.out]; simp [h0, h1]⟩
          case measure => simp [intOf]; omega
        · go_wp2
          go_ret
          exact ⟨ret_bool (allOf_no HX.out (by omega)).symm, rfl⟩
      · go_wp2
        go_ret
        exact ⟨ret_bool (allOf_no HX.out (by omega)).symm, rfl⟩
    · obtain rfl : k = l.length := by omega
      go_wp2
      go_ret
      exact ⟨ret_bool (by have := HALL.out; rw [List.take_length] at this; exact this.symm), rfl⟩

/-- may numbers be counts, or lengths -/
def mayL (l : List Int) : Bool := l.all fun x => decide (0 ≤ x) && decide (x ≤ 1099511627776)
theorem mayL_at {l : List Int} {k : Nat} {x : Int} (h : mayL l = true) (hx : l[k]? = some x) : 0 ≤ x ∧ x ≤ 1099511627776 := by
  unfold mayL at h
  rw [List.all_eq_true] at h
  have := h x (List.mem_of_getElem? hx)
  simpa using this
theorem mayL_take_succ {l : List Int} {k : Nat} {x : Int} (hx : l[k]? = some x) :
    mayL (l.take (k + 1)) = (mayL (l.take k) && (decide (0 ≤ x) && decide (x ≤ 1099511627776))) := by
  rw [take_snoc hx]
  simp [mayL]
theorem mayL_no {l : List Int} {k : Nat} {x : Int} (hx : l[k]? = some x) (h : ¬ (0 ≤ x ∧ x ≤ 1099511627776)) : mayL l = false := by
  rw [Bool.eq_false_iff]
  intro h'
  exact h (mayL_at h' hx)

set_option maxHeartbeats 400000 in
theorem refmay_any (v : Value) (l : List Int) (w : World) (hv : RInts w v l) :
    Calls Try.prog 16 #[v] w fun e w' => e = .returned (.bool (mayL l)) ∧ w = w' := by
  obtain ⟨a, cap, rfl, hc1, hc2⟩ := hv.shape
  go_enter Try.func16, Try.ntmps16
  go_wp2
  go_loop [4, 7] (fun x i => ∃ k : Nat, k ≤ l.length ∧ i = .int .i64 k ∧ mayL (l.take k) = true) (fun _ i => l.length - (intOf i).toNat)
  case atStart => exact ⟨0, Nat.zero_le _, rfl, rfl⟩
  case round =>
    obtain ⟨k, hk, rfl, hall⟩ := hrel
    have HALL := Lib.hid hall
    clear hall
    by_cases hlt : k < l.length
    · obtain ⟨b, off, x, rfl, hbb, hx, hcx, hx1, hx2⟩ := hv.at hlt
      have HX := Lib.hid hx
      clear hx hv
      by_cases h0 : 0 ≤ x
      · by_cases h1 : x ≤ 1099511627776
        · go_wp2
          go_round
          case rel => exact ⟨k + 1, by omega, by go_num, by rw [mayL_take_succ HX.out, HALL.out]; simp [h0, h1]⟩
          case measure => simp [intOf]; omega
        · go_wp2
          go_ret
          exact ⟨ret_bool (mayL_no HX.out (by omega)).symm, rfl⟩
      · go_wp2
        go_ret
        exact ⟨ret_bool (mayL_no HX.out (by omega)).symm, rfl⟩
    · obtain rfl : k = l.length := by omega
      go_wp2
      go_ret
      exact ⟨ret_bool (by have := HALL.out; rw [List.take_length] at this; exact this.symm), rfl⟩

set_option maxHeartbeats 400000 in
theorem ints_same (va vb : Value) (l : List Int) (w : World) (ha : RInts w va l) (hb : RInts w vb l) :
    Calls Try.prog 13 #[va, vb] w fun e w' => e = .returned (.bool true) ∧ ∃ n, w' = w.drewN n := by
  obtain ⟨a, cap, rfl, hc1, hc2⟩ := ha.shape
  obtain ⟨a2, cap2, rfl, hc3, hc4⟩ := hb.shape
  have hne : ((l.length : Int) != (l.length : Int)) = false := by simp
  go_enter Try.func13, Try.ntmps13
  go_wp2
  go_loopw [5, 13] (fun x i wr => ∃ k : Nat, k ≤ l.length ∧ i = .int .i64 k ∧ ∃ n, wr = w.drewN n) (fun _ i _ => l.length - (intOf i).toNat)
  case atStart => exact ⟨0, Nat.zero_le _, rfl, 0, rfl⟩
  case round =>
    obtain ⟨k, hk, rfl, n, rfl⟩ := hrel
    by_cases hlt : k < l.length
    · obtain ⟨b, off, x, rfl, hbb, hx, hcx, hx1, hx2⟩ := ha.at hlt
      obtain ⟨b2, off2, x2, rfl, hbb2, hx', hcx2, _, _⟩ := hb.at hlt
      obtain rfl : x = x2 := by rw [hx] at hx'; simpa using hx'
      have hkl : (k : Int) < (l.length : Int) := by omega
      have hxx : (x != x) = false := by simp
      clear hx hx' ha hb
      go_wp2
      go_quiet (fail)
      go_wp2
      go_roundw
      case rel => exact ⟨k + 1, by omega, by go_num, _, rfl⟩
      case measure => simp [intOf]; omega
    · obtain rfl : k = l.length := by omega
      go_wp2
      go_ret
      exact ⟨rfl, n, rfl⟩

theorem cnt_take_succ {l : List Int} {k : Nat} {x : Int} (hx : l[k]? = some x) (y : Int) : cnt (l.take (k + 1)) y = cnt (l.take k) y + if x = y then 1 else 0 := by
  rw [take_snoc hx, cnt_snoc]

set_option maxHeartbeats 400000 in
theorem count_any (v : Value) (l : List Int) (y : Int) (w : World) (hv : RInts w v l) :
    Calls Try.prog 25 #[v, .int .i64 y] w fun e w' => e = .returned (.int .i64 (cnt l y)) ∧ w = w' := by
  obtain ⟨a, cap, rfl, hc1, hc2⟩ := hv.shape
  go_enter Try.func25, Try.ntmps25
  go_wp2
  go_loop [5, 7, 10] (fun n x i => ∃ k : Nat, k ≤ l.length ∧ i = .int .i64 k ∧ n = .int .i64 (cnt (l.take k) y)) (fun _ _ i => l.length - (intOf i).toNat)
  case atStart => exact ⟨0, Nat.zero_le _, rfl, rfl⟩
  case round =>
    obtain ⟨k, hk, rfl, rfl⟩ := hrel
    obtain ⟨c, hc⟩ : ∃ c, cnt (l.take k) y = c := ⟨_, rfl⟩
    have hcb := cnt_bd (l.take k) y
    have hlen : (l.take k).length ≤ k := List.length_take_le _ _
    rw [hc] at hcb
    have HC := Lib.hid hc
    rw [hc]
    clear hc
    by_cases hlt : k < l.length
    · obtain ⟨b, off, x, rfl, hbb, hx, hcx, hx1, hx2⟩ := hv.at hlt
      have HX := Lib.hid hx
      clear hx hv
      by_cases h0 : x = y
      · have h0' : (y == x) = true := by simp [h0]
        have H0 := Lib.hid h0
        clear h0
        go_wp2
        go_round
        case rel => exact ⟨k + 1, by omega, by go_num, by rw [cnt_take_succ HX.out, HC.out, if_pos H0.out]⟩
        case measure => simp [intOf]; omega
      · have h0' : (y == x) = false := by simp; omega
        have H0 := Lib.hid h0
        clear h0
        go_wp2
        go_round
        case rel => exact ⟨k + 1, by omega, by go_num, by rw [cnt_take_succ HX.out, HC.out, if_neg H0.out, Int.add_zero]⟩
        case measure => simp [intOf]; omega
    · obtain rfl : k = l.length := by omega
      go_wp2
      go_ret
      exact ⟨ret_int (by have := HC.out; rw [List.take_length] at this; exact this.symm), rfl⟩

end Go.Proofs.Ytnkjmaignpnkpaa

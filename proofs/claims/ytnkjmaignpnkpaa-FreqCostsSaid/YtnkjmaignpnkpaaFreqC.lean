/- Contracts of package freq and its reference: counts, costs, sums. -/
import Derived.Test.YtnkjmaignpnkpaaFreqB
import Derived.StillTailTactics
namespace Go.Proofs.Ytnkjmaignpnkpaa
open Go.RowKit

theorem counts_take_succ (l : List Int) (k : Nat) : (counts l (k + 1)) = counts l k ++ [cnt l (k : Int)] := by
  unfold counts
  rw [List.range_succ, List.map_append]
  rfl

theorem counts_bd {l : List Int} {n : Nat} (h : l.length ≤ 300) : ∀ x ∈ counts l n, -9223372036854775808 ≤ x ∧ x ≤ 9223372036854775807 := by
  intro x hx
  unfold counts at hx
  obtain ⟨y, _, rfl⟩ := List.mem_map.1 hx
  have := cnt_bd l y
  omega

set_option maxHeartbeats 400000 in
theorem refcounts_any (v : Value) (l : List Int) (size : Nat) (w : World) (hl : l.length ≤ 300) (hv : RInts w v l) (hs2 : size ≤ 258) :
    Calls Try.prog 14 #[v, .int .i64 size] w fun e w' => ∃ v', e = .returned v' ∧ RInts w' v' (counts l size) ∧ Below w.heap.size w w' := by
  obtain ⟨a, cap, rfl, hc1, hc2⟩ := hv.shape
  go_enter Try.func14, Try.ntmps14
  go_wp2
  go_loopw [5, 6, 8] (fun v' x i wr => ∃ k : Nat, k ≤ size ∧ i = .int .i64 k ∧ OwnI wr 3 v' (counts l k) ∧ FreshV w.heap.size v' ∧ Below w.heap.size w wr) (fun _ _ i _ => size - (intOf i).toNat)
  case atStart => exact ⟨0, Nat.zero_le _, rfl, OwnI.nil _ _, FreshV.nil _, Below.refl _ _⟩
  case round =>
    obtain ⟨k, hk, rfl, hown, hfr, hbel⟩ := hrel
    have hsz := hbel.size
    by_cases hlt : k < size
    · have hvr := hv.below hbel
      clear hv
      go_wp2_with (first
        | (go_at_call 25; refine (count_any _ _ _ _ hvr).mono ?_; rintro e w' ⟨rfl, rfl⟩)
        | (at_builtin; refine wpList_append_int _ _ rfl _ _ 22 rfl 3 Try.underlying22 intinfo _ (counts l k) _ _ rfl rfl rfl hown (by rw [counts_length]; omega) ?_))
      intro v2 w2 hown2 hkeep hfresh
      have hbel2 := below_append hbel hkeep hfr (by omega)
      have hfr2 := hfr.step (by omega) hfresh
      clear hown hfr hbel hkeep hfresh hvr
      go_wp2
      go_roundw
      case rel => exact ⟨k + 1, by omega, by go_num, by rw [counts_take_succ]; exact hown2, hfr2, hbel2⟩
      case measure => simp [intOf]; omega
    · obtain rfl : k = size := by omega
      clear hv
      go_wp2
      go_ret
      exact ⟨_, rfl, hown.reads (counts_bd hl), hbel⟩

theorem together_any (a b : Int) (w : World) (h1 : 0 ≤ a) (h2 : a ≤ 1099511627776) (h3 : 0 ≤ b) (h4 : b ≤ 1099511627776) :
    Calls Try.prog 27 #[.int .i64 a, .int .i64 b] w fun e w' => e = .returned (.int .i64 (min (a+b) 1099511627776)) ∧ w = w' := by
  go_enter Try.func27, Try.ntmps27
  go_wp2
  all_goals
    go_ret
    exact ⟨ret_int (by omega), rfl⟩

theorem most_any (a : Int) (w : World) :
    Calls Try.prog 28 #[.int .i64 a] w fun e w' => e = .returned (.int .i64 (min a 1099511627776)) ∧ w = w' := by
  go_enter Try.func28, Try.ntmps28
  go_wp2
  all_goals
    go_ret
    exact ⟨ret_int (by omega), rfl⟩

theorem may_any (n : Int) (w : World) : Calls Try.prog 32 #[.int .i64 n] w fun e w' => e = .returned (.bool (decide (0 ≤ n) && decide (n ≤ 1099511627776))) ∧ w = w' := by
  by_cases h1 : 0 ≤ n
  · by_cases h2 : n ≤ 1099511627776
    · go_enter Try.func32, Try.ntmps32
      go_wp2
      go_ret
      exact ⟨ret_bool (by simp [h1, h2]), rfl⟩
    · go_enter Try.func32, Try.ntmps32
      go_wp2
      go_ret
      exact ⟨ret_bool (by simp; omega), rfl⟩
  · go_enter Try.func32, Try.ntmps32
    go_wp2
    go_ret
    exact ⟨ret_bool (by simp; omega), rfl⟩

theorem all1_yes (n : Int) (w : World) (h1 : 0 ≤ n) (h2 : n ≤ 1099511627776) : Calls Try.prog 31 #[.int .i64 n] w fun e w' => e = .returned (.bool false) ∧ w = w' := by
  go_enter Try.func31, Try.ntmps31
  go_wp2_with (go_at_call 32; refine (may_any _ _).mono ?_; rintro e w' ⟨rfl, rfl⟩)
  go_ret
  exact ⟨ret_bool (by simp [h1, h2]), rfl⟩

theorem all1_no (n : Int) (w : World) (h : ¬ (0 ≤ n ∧ n ≤ 1099511627776)) : Calls Try.prog 31 #[.int .i64 n] w fun e w' => e = .returned (.bool true) ∧ w = w' := by
  have H := Lib.hid h
  clear h
  go_enter Try.func31, Try.ntmps31
  go_wp2_with (go_at_call 32; refine (may_any _ _).mono ?_; rintro e w' ⟨rfl, rfl⟩)
  go_ret
  exact ⟨ret_bool (by have := H.out; simp; omega), rfl⟩

/-- the place of the first number that may not be, or -1 -/
def IdxMay (l : List Int) (w : World) (e : Ending) (w' : World) : Prop := ∃ r : Int, e = .returned (.int .i64 r) ∧ (0 ≤ r → mayL l = false) ∧ (r < 0 → mayL l = true) ∧ w = w'

set_option maxHeartbeats 400000 in
theorem indexfunc_any (v : Value) (l : List Int) (w : World) (hv : RInts w v l) :
    Calls Try.prog 34 #[v, .func (.func 31) #[] #[]] w (IdxMay l w) := by
  obtain ⟨a, cap, rfl, hc1, hc2⟩ := hv.shape
  go_enter Try.func34, Try.ntmps34
  go_wp2
  go_loop [5, 8] (fun x i => ∃ k : Nat, k ≤ l.length ∧ i = .int .i64 k ∧ mayL (l.take k) = true) (fun _ i => l.length - (intOf i).toNat)
  case atStart => exact ⟨0, Nat.zero_le _, rfl, rfl⟩
  case round =>
    obtain ⟨k, hk, rfl, hall⟩ := hrel
    have HALL := Lib.hid hall
    clear hall
    by_cases hlt : k < l.length
    · obtain ⟨b, off, x, rfl, hbb, hx, hcx, hx1, hx2⟩ := hv.at hlt
      have HX := Lib.hid hx
      clear hx hv
      by_cases h0 : 0 ≤ x ∧ x ≤ 1099511627776
      · obtain ⟨h0, h1⟩ := h0
        go_wp2_with (go_at_call 31; refine (all1_yes _ _ (by assumption) (by assumption)).mono ?_; rintro e w' ⟨rfl, rfl⟩)
        go_round
        case rel => exact ⟨k + 1, by omega, by go_num, by rw [mayL_take_succ HX.out, HALL.out]; simp [h0, h1]⟩
        case measure => simp [intOf]; omega
      · have H0 := Lib.hid h0
        clear h0
        go_wp2_with (go_at_call 31; refine (all1_no _ _ H0.out).mono ?_; rintro e w' ⟨rfl, rfl⟩)
        go_ret
        exact ⟨k, rfl, fun _ => mayL_no HX.out H0.out, fun h => absurd h (by omega), rfl⟩
    · obtain rfl : k = l.length := by omega
      go_wp2
      go_ret
      exact ⟨-1, rfl, fun h => absurd h (by omega), fun _ => by have := HALL.out; rw [List.take_length] at this; exact this, rfl⟩

theorem containsfunc_any (v : Value) (l : List Int) (w : World) (hv : RInts w v l) :
    Calls Try.prog 30 #[v, .func (.func 31) #[] #[]] w fun e w' => e = .returned (.bool (!mayL l)) ∧ w = w' := by
  go_enter Try.func30, Try.ntmps30
  go_wp2_with fail
  refine (indexfunc_any v l w hv).mono ?_
  rintro e w' ⟨r, rfl, h1, h2, rfl⟩
  have H1 := Lib.hid h1
  have H2 := Lib.hid h2
  clear h1 h2 hv
  by_cases hr : 0 ≤ r
  · go_wp2
    go_ret
    exact ⟨ret_bool (by rw [H1.out hr]; simp [hr]), rfl⟩
  · go_wp2
    go_ret
    exact ⟨ret_bool (by rw [H2.out (by omega)]; simp; omega), rfl⟩

theorem all_any (v : Value) (l : List Int) (w : World) (hv : RInts w v l) :
    Calls Try.prog 26 #[v] w fun e w' => e = .returned (.bool (mayL l)) ∧ w = w' := by
  go_enter Try.func26, Try.ntmps26
  go_wp2_with fail
  refine (containsfunc_any v l w hv).mono ?_
  rintro e w' ⟨rfl, rfl⟩
  go_wp2
  go_ret
  exact ⟨ret_bool (by simp), rfl⟩

end Go.Proofs.Ytnkjmaignpnkpaa

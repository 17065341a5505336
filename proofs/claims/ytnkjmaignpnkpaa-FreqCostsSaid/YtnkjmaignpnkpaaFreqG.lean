/- Counts that are refused; the law FreqCounts walked. -/
import Derived.Test.YtnkjmaignpnkpaaFreqF
namespace Go.Proofs.Ytnkjmaignpnkpaa
open Go.RowKit

set_option maxHeartbeats 400000 in
theorem counts_bad (v : Value) (l : List Int) (size : Int) (w : World) (hl : l.length ≤ 300) (hv : RInts w v l) (hbad : ¬ (3 ≤ size ∧ size ≤ 258 ∧ allOf l size = true)) :
    Calls Try.prog 10 #[v, .int .i64 size] w fun e w' => e = .returned (.tuple #[.slice none 0 0, .int .i64 1]) ∧ Below w.heap.size w w' := by
  obtain ⟨a, cap, rfl, hc1, hc2⟩ := hv.shape
  by_cases h1 : 3 ≤ size
  · by_cases h2 : size ≤ 258
    · have hof : allOf l size = false := by
        rw [Bool.eq_false_iff]
        exact fun h => hbad ⟨h1, h2, h⟩
      have HOF := Lib.hid hof
      clear hof hbad
      obtain ⟨size, rfl⟩ := Int.eq_ofNat_of_zero_le (show 0 ≤ size by omega)
      go_enter Try.func10, Try.ntmps10
      go_wp2_with (at_make; refine wpList_make_blk _ rfl _ _ 22 rfl 3 (.int .i64 0) 8 Try.underlying22 intinfo rfl _ _ _ _ size rfl rfl rfl rfl (by omega) (by unfold maxLen; omega) ?_)
      intro w1 hb1 hk1
      go_wp2
      go_loopw [8, 19] (fun x i wr => ∃ k : Nat, k ≤ l.length ∧ i = .int .i64 k ∧ allOf (l.take k) size = true ∧ Blk wr w.heap.size ((counts (l.take k) size).map (Value.int .i64)) 3 ∧ Below w.heap.size w wr)
        (fun _ i _ => l.length - (intOf i).toNat)
      case atStart => exact ⟨0, Nat.zero_le _, rfl, rfl, by simpa [counts_nil] using hb1, hk1⟩
      case round =>
        obtain ⟨k, hk, rfl, hall, hblk, hbel⟩ := hrel
        have HALL := Lib.hid hall
        clear hall
        by_cases hlt : k < l.length
        · obtain ⟨b, off, x, rfl, hbb, hx, hcx, hx1, hx2⟩ := (hv.below hbel).at hlt
          have HX := Lib.hid hx
          clear hx
          by_cases hr1 : 0 ≤ x
          · by_cases hr2 : x < size
            · obtain ⟨x, rfl⟩ := Int.eq_ofNat_of_zero_le hr1
              have hcb := cnt_bd (l.take k) x
              have hct := hblk.cell (i := x) (x := .int .i64 (cnt (l.take k) x)) (by rw [List.getElem?_map, counts_at _ _ _ (by omega)]; rfl)
              have hfr := hblk.free x
              obtain ⟨c, hc⟩ : ∃ c, c = cnt (l.take k) x := ⟨_, rfl⟩
              rw [← hc] at hct hcb
              have HC := Lib.hid hc
              have hlen : (l.take k).length ≤ 300 := by simp; omega
              clear hc
              clear hv hb1 hk1
              have hnt : k < (l.length : Int) := by omega
              go_wp2
              go_roundw
              case rel =>
                refine ⟨k + 1, by omega, by go_num, by rw [allOf_take_succ HX.out, HALL.out]; simp; omega, ?_, ?_⟩
                · rw [take_snoc HX.out, counts_snoc _ _ _ (by omega), List.map_set, ← HC.out]
                  exact hblk.set _ _
                · exact hbel.setCell (Nat.le_refl _) _
              case measure => simp [intOf]; omega
            · clear hv hb1 hk1
              go_wp2
              go_ret2
              exact ⟨rfl, hbel⟩
          · clear hv hb1 hk1
            go_wp2
            go_ret2
            exact ⟨rfl, hbel⟩
        · obtain rfl : k = l.length := by omega
          exfalso
          have h1 := HALL.out
          rw [List.take_length, HOF.out] at h1
          exact absurd h1 (by decide)
    · clear hbad hv
      go_enter Try.func10, Try.ntmps10
      go_wp2
      go_ret2
      exact ⟨rfl, Below.refl _ _⟩
  · clear hbad hv
    go_enter Try.func10, Try.ntmps10
    go_wp2
    go_ret2
    exact ⟨rfl, Below.refl _ _⟩

theorem size_val {n : Int} (h1 : 3 ≤ n) (h2 : n ≤ 258) : (decide (3 ≤ n) && decide (n ≤ 258)) = true := by simp [h1, h2]
theorem size_no {n : Int} (h : ¬ (3 ≤ n ∧ n ≤ 258)) : (decide (3 ≤ n) && decide (n ≤ 258)) = false := by simp; omega

set_option maxHeartbeats 400000 in
theorem lawFreqCounts {v : Value} {l : List Int} {size : Int} {w : World} (hv : RInts w v l) (hw1 : -9223372036854775808 ≤ size) (hw2 : size ≤ 9223372036854775807) :
    Calls Try.prog 3 #[v, .int .i64 size] w fun e w' => e = .returned (.bool true) ∧ Below w.heap.size w w' := by
  obtain ⟨a, cap, rfl, hc1, hc2⟩ := hv.shape
  by_cases hl : l.length ≤ 300
  · by_cases hok : 3 ≤ size ∧ size ≤ 258 ∧ allOf l size = true
    · obtain ⟨h1, h2, h3⟩ := hok
      obtain ⟨size, rfl⟩ := Int.eq_ofNat_of_zero_le (show 0 ≤ size by omega)
      have HOF := Lib.hid h3
      clear h3
      go_enter Try.func3, Try.ntmps3
      go_wp2_with fail
      refine (counts_ok _ l size w hl hv (by omega) (by omega) HOF.out).mono ?_
      rintro e w1 ⟨v1, rfl, hr1, hb1⟩
      have hv1 := hv.below hb1
      clear hv
      go_wp2_with fail
      refine (size_any _ _).mono ?_
      rintro e w2 ⟨rfl, rfl⟩
      rw [size_val h1 h2]
      go_wp2_with fail
      refine (of_any _ l _ _ hv1).mono ?_
      rintro e w2 ⟨rfl, rfl⟩
      rw [HOF.out]
      go_wp2_with fail
      refine (refcounts_any _ l size _ hl hv1 (by omega)).mono ?_
      rintro e w3 ⟨v3, rfl, hr3, hb3⟩
      have hr1 := hr1.below hb3
      have hb := below_two hb1 hb3
      clear hv1 hb1 hb3
      go_wp2_with fail
      refine (ints_same _ _ _ _ hr1 hr3).mono ?_
      rintro e w4 ⟨rfl, hd⟩
      have hb := below_two hb (below_drawn hd)
      clear hr1 hr3 hd
      go_wp2_with fail
      refine (three_any _).mono ?_
      rintro e w5 ⟨rfl, hb5⟩
      have hb := below_two hb hb5
      go_wp2
      go_ret
      exact ⟨rfl, hb⟩
    · have HBAD := Lib.hid hok
      clear hok
      by_cases hs : 3 ≤ size ∧ size ≤ 258
      · have hof : allOf l size = false := by
          rw [Bool.eq_false_iff]
          exact fun h => HBAD.out ⟨hs.1, hs.2, h⟩
        have HOF := Lib.hid hof
        obtain ⟨h1, h2⟩ := hs
        clear hof
        go_enter Try.func3, Try.ntmps3
        go_wp2_with fail
        refine (counts_bad _ l size w hl hv HBAD.out).mono ?_
        rintro e w1 ⟨rfl, hb1⟩
        have hv1 := hv.below hb1
        clear hv
        go_wp2_with fail
        refine (size_any _ _).mono ?_
        rintro e w2 ⟨rfl, rfl⟩
        rw [size_val h1 h2]
        go_wp2_with fail
        refine (of_any _ l _ _ hv1).mono ?_
        rintro e w2 ⟨rfl, rfl⟩
        rw [HOF.out]
        go_wp2_with fail
        refine (three_any _).mono ?_
        rintro e w5 ⟨rfl, hb5⟩
        have hb := below_two hb1 hb5
        go_wp2
        go_ret
        exact ⟨rfl, hb⟩
      · have HS := Lib.hid hs
        clear hs
        go_enter Try.func3, Try.ntmps3
        go_wp2_with fail
        refine (counts_bad _ l size w hl hv HBAD.out).mono ?_
        rintro e w1 ⟨rfl, hb1⟩
        clear hv
        go_wp2_with fail
        refine (size_any _ _).mono ?_
        rintro e w2 ⟨rfl, rfl⟩
        rw [size_no HS.out]
        go_wp2_with fail
        refine (three_any _).mono ?_
        rintro e w5 ⟨rfl, hb5⟩
        have hb := below_two hb1 hb5
        go_wp2
        go_ret
        exact ⟨rfl, hb⟩
  · have hgt : (300 : Int) < (l.length : Int) := by omega
    clear hv
    go_enter Try.func3, Try.ntmps3
    go_wp2_with fail
    refine (three_any _).mono ?_
    rintro e w5 ⟨rfl, hb5⟩
    go_wp2
    go_ret
    exact ⟨rfl, hb5⟩
end Go.Proofs.Ytnkjmaignpnkpaa

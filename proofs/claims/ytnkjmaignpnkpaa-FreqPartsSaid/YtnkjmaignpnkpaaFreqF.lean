/- Contracts of package freq: two rows together; the small case. -/
import Derived.Test.YtnkjmaignpnkpaaFreqE
import Derived.StillTailTactics
import Derived.Outline
namespace Go.Proofs.Ytnkjmaignpnkpaa
open Go.RowKit

theorem addL_take_succ_set {la lb : List Int} {k n : Nat} {x y : Int} (hx : la[k]? = some x) (hy : lb[k]? = some y) (hk : k < n) :
    ((addL la lb).take k ++ List.replicate (n - k) 0).set k (min (x + y) 1099511627776) = (addL la lb).take (k + 1) ++ List.replicate (n - (k + 1)) 0 := by
  have h := addL_at hx hy
  have hl : k < (addL la lb).length := (List.getElem?_eq_some_iff.1 h).1
  have hlen : ((addL la lb).take k).length = k := by simp; omega
  rw [take_snoc h, List.set_append_right _ _ (by omega), hlen, Nat.sub_self]
  rw [show n - k = (n - (k + 1)) + 1 from by omega, List.replicate_succ]
  simp

set_option maxHeartbeats 400000 in
theorem add_ok (va vb : Value) (la lb : List Int) (w : World) (hl : la.length ≤ 300) (hlen : la.length = lb.length) (hma : mayL la = true) (hmb : mayL lb = true) (hv : RInts w va la) (hw : RInts w vb lb) :
    Calls Try.prog 18 #[va, vb] w fun e w' => ∃ v', e = .returned (.tuple #[v', .int .i64 0]) ∧ RInts w' v' (addL la lb) ∧ Below w.heap.size w w' := by
  obtain ⟨a, cap, rfl, hc1, hc2⟩ := hv.shape
  obtain ⟨a2, cap2, rfl, hc3, hc4⟩ := hw.shape
  have HA := Lib.hid hma
  have HB := Lib.hid hmb
  have HL := Lib.hid hlen
  clear hma hmb
  rw [← hlen] at hw hc3 ⊢
  clear hlen
  have hnn : ((la.length : Int) != (la.length : Int)) = false := by simp
  have HCA := Lib.hid (all_any _ _ w hv)
  have HCB := Lib.hid (all_any _ _ w hw)
  rw [HA.out] at HCA
  rw [HB.out] at HCB
  go_enter Try.func18, Try.ntmps18
  go_wp2_with fail
  refine HCA.out.mono ?_
  rintro e w' ⟨rfl, rfl⟩
  go_wp2_with fail
  refine HCB.out.mono ?_
  rintro e w' ⟨rfl, rfl⟩
  clear HCA HCB
  go_wp2_with (at_make; refine wpList_make_blk _ rfl _ _ 22 rfl 3 (.int .i64 0) 8 Try.underlying22 intinfo rfl _ _ _ _ la.length rfl rfl rfl rfl (by omega) (by unfold maxLen; omega) ?_)
  intro w1 hb1 hk1
  go_wp2
  go_loopw [7, 28] (fun x i wr => ∃ k : Nat, k ≤ la.length ∧ i = .int .i64 k ∧ Blk wr w.heap.size (((addL la lb).take k ++ List.replicate (la.length - k) 0).map (Value.int .i64)) 3 ∧ Below w.heap.size w wr)
    (fun _ i _ => la.length - (intOf i).toNat)
  case atStart => exact ⟨0, Nat.zero_le _, rfl, by simpa using hb1, hk1⟩
  case round =>
    obtain ⟨k, hk, rfl, hblk, hbel⟩ := hrel
    have hsz := hbel.size
    by_cases hlt : k < la.length
    · obtain ⟨b, off, x, rfl, hbb, hx, hcx, hx1, hx2⟩ := (hv.below hbel).at hlt
      obtain ⟨b2, off2, y, rfl, hbb2, hy, hcy, hy1, hy2⟩ := (hw.below hbel).at hlt
      have HX := Lib.hid hx
      have HY := Lib.hid hy
      obtain ⟨hx3, hx4⟩ := mayL_at HA.out hx
      obtain ⟨hy3, hy4⟩ := mayL_at HB.out hy
      have hlb : (k : Int) < (la.length : Int) := by omega
      have hct : ∃ u, wr.cell? ⟨w.heap.size, k, none⟩ = some u := by
        have : k < (((addL la lb).take k ++ List.replicate (la.length - k) 0).map (Value.int .i64)).length := by simp [addL_length _ _ HL.out]; omega
        exact ⟨_, hblk.cell (List.getElem?_eq_getElem this)⟩
      obtain ⟨u, hu⟩ := hct
      have hfr := hblk.free k
      clear hv hw hx hy hb1 hk1
      go_wp2
      have HCALL := Lib.hid (fun W => (together_any x y W hx3 hx4 hy3 hy4).mono (fun e w' h => (⟨h.1, h.2.symm⟩ : e = .returned (.int .i64 (min (x + y) 1099511627776)) ∧ w' = W)))
      go_still_tail 12, (by kernel_rfl)
      still_call (HCALL.out _)
      repeat still_step
      refine wpStill_nil ?_
      change wpList _ _ _ _ _ wr.drew
      clear HCALL
      go_wp2
      go_roundw
      case rel =>
        refine ⟨k + 1, by omega, by go_num, ?_, ?_⟩
        · rw [← addL_take_succ_set HX.out HY.out hlt, List.map_set]
          exact hblk.set _ _
        · exact (hbel.setCell (Nat.le_refl _) _).drew
      case measure => simp [intOf]; omega
    · obtain rfl : k = la.length := by omega
      clear hv hw hb1 hk1
      go_wp2
      go_ret2
      refine ⟨_, rfl, ?_, hbel⟩
      rw [Nat.sub_self, List.replicate_zero, List.append_nil, List.take_of_length_le (by rw [addL_length _ _ HL.out]; exact Nat.le_refl _)] at hblk
      refine ⟨?_, addL_bd HA.out HB.out⟩
      rw [addL_length _ _ HL.out]
      exact hblk.reads _ _ (Nat.le_refl _) (by unfold maxLen; omega)

set_option maxHeartbeats 400000 in
theorem add_bad (va vb : Value) (la lb : List Int) (w : World) (hbad : ¬ (la.length = lb.length ∧ mayL la = true ∧ mayL lb = true)) (hv : RInts w va la) (hw : RInts w vb lb) :
    Calls Try.prog 18 #[va, vb] w fun e w' => e = .returned (.tuple #[.slice none 0 0, .int .i64 1]) ∧ w = w' := by
  have HCA := Lib.hid (all_any _ _ w hv)
  have HCB := Lib.hid (all_any _ _ w hw)
  obtain ⟨a, cap, rfl, hc1, hc2⟩ := hv.shape
  obtain ⟨a2, cap2, rfl, hc3, hc4⟩ := hw.shape
  clear hv hw
  by_cases h1 : la.length = lb.length
  · have h1' : ((la.length : Int) != (lb.length : Int)) = false := by simp [h1]
    by_cases h2 : mayL la = true
    · have h3 : mayL lb = false := by
        rw [Bool.eq_false_iff]
        exact fun h => hbad ⟨h1, h2, h⟩
      rw [h2] at HCA
      rw [h3] at HCB
      clear h1 hbad h2 h3
      go_enter Try.func18, Try.ntmps18
      go_wp2_with fail
      refine HCA.out.mono ?_
      rintro e w' ⟨rfl, rfl⟩
      go_wp2_with fail
      refine HCB.out.mono ?_
      rintro e w' ⟨rfl, rfl⟩
      go_wp2
      go_ret2
      exact ⟨rfl, rfl⟩
    · have h2' : mayL la = false := by simpa using h2
      rw [h2'] at HCA
      clear h1 hbad h2 h2'
      go_enter Try.func18, Try.ntmps18
      go_wp2_with fail
      refine HCA.out.mono ?_
      rintro e w' ⟨rfl, rfl⟩
      go_wp2
      go_ret2
      exact ⟨rfl, rfl⟩
  · have h1' : ((la.length : Int) != (lb.length : Int)) = true := by simp; omega
    clear h1 hbad
    go_enter Try.func18, Try.ntmps18
    go_wp2
    go_ret2
    exact ⟨rfl, rfl⟩

theorem groups_pos (n : Int) (w : World) (h : 0 < n) (h2 : n ≤ 9223372036854775807) :
    Calls Try.prog 24 #[.int .i64 n] w fun e w' => e = .returned (.int .i64 ((n-1)/50+1)) ∧ w = w' := by
  go_enter Try.func24, Try.ntmps24
  go_wp2
  go_ret
  exact ⟨rfl, rfl⟩

theorem groups_neg (n : Int) (w : World) (h : n ≤ 0) :
    Calls Try.prog 24 #[.int .i64 n] w fun e w' => e = .returned (.int .i64 0) ∧ w = w' := by
  go_enter Try.func24, Try.ntmps24
  go_wp2
  go_ret
  exact ⟨rfl, rfl⟩

set_option maxHeartbeats 400000 in
theorem three_any (w : World) : Calls Try.prog 9 #[] w fun e w' => e = .returned (.bool true) ∧ Below w.heap.size w w' := by
  have hc9 : ∀ (va vb : Value) (w : World), RInts w va [0, 2, 2] → RInts w vb [5, 1, 2] → Calls Try.prog 15 #[va, vb] w fun e w' => e = .returned (.tuple #[.int .i64 9, .int .i64 0]) ∧ Below w.heap.size w w' := by
    intro va vb w ha hb
    refine (cost_any va vb _ _ w ha hb).mono ?_
    rintro e w' ⟨rfl, ⟨_, _, rfl⟩ | ⟨h, _⟩⟩
    · exact ⟨rfl, Below.refl _ _⟩
    · exact absurd h (by decide)
  have hcn : counts [0, 2, 2] 3 = [1, 0, 2] := by decide
  have HCN := Lib.hid hcn
  have ht7 : totL [3, -1, 4] = 7 := by decide
  have htot : ∀ (va : Value) (w : World), RInts w va [3, -1, 4] → Calls Try.prog 19 #[va] w fun e w' => e = .returned (.int .i64 7) ∧ Below w.heap.size w w' := by
    intro va w ha
    rw [← ht7]
    exact (total_any va _ w ha).mono fun _ _ h => ⟨h.1, below_eq h.2⟩
  have HC9 := Lib.hid hc9
  have HTOT := Lib.hid htot
  clear hcn hc9 htot ht7
  go_enter Try.func9, Try.ntmps9
  go_wp2_with fail
  refine (counts_ok _ [0, 2, 2] 3 _ (by decide) (rints_new w [0, 2, 2] _ 3 _ _ rfl rfl rfl (by decide) (by decide)) (by decide) (by decide) (by decide)).mono ?_
  rintro e w1 ⟨v1, rfl, hr1, hb1⟩
  rw [HCN.out] at hr1
  have hb := below_two (below_alloc w _) hb1
  clear hb1
  go_wp2_with fail
  refine (HC9.out _ _ _ ((rints_new w1 [0, 2, 2] _ 3 _ _ rfl rfl rfl (by decide) (by decide)).below (below_alloc _ _)) (rints_new _ [5, 1, 2] _ 3 _ _ (by simp) rfl rfl (by decide) (by decide))).mono ?_
  rintro e w2 ⟨rfl, hb2⟩
  have hb12 := below_two (below_two (below_alloc w1 _) (below_alloc _ _)) hb2
  have hr2 := hr1.below hb12
  have hb := below_two hb hb12
  clear hb2 hb12 hr1
  go_wp2_with fail
  refine (ints_same _ _ [1, 0, 2] _ (hr2.below (below_alloc _ _)) (rints_new w2 [1, 0, 2] _ 3 _ _ rfl rfl rfl (by decide) (by decide))).mono ?_
  rintro e w3 ⟨rfl, hd⟩
  have hb := below_two hb (below_two (below_alloc w2 _) (below_drawn hd))
  clear hr2 hd
  go_wp2_with fail
  refine (groups_pos 51 _ (by decide) (by decide)).mono ?_
  rintro e w4 ⟨rfl, rfl⟩
  go_wp2_with fail
  refine (HTOT.out _ _ (rints_new w3 [3, -1, 4] _ 3 _ _ rfl rfl rfl (by decide) (by decide))).mono ?_
  rintro e w5 ⟨rfl, hb5⟩
  have hb := below_two hb (below_two (below_alloc w3 _) hb5)
  go_wp2
  go_ret
  exact ⟨ret_bool (by decide), hb⟩
end Go.Proofs.Ytnkjmaignpnkpaa

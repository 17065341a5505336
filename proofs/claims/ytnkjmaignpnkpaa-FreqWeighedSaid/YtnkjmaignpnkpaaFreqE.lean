/- Contracts of package freq and its reference: all counts together, two rows together, groups. -/
import Derived.Test.YtnkjmaignpnkpaaFreqD
namespace Go.Proofs.Ytnkjmaignpnkpaa
open Go.RowKit

def totF (n x : Int) : Int := min (n + min (max x 0) 1099511627776) 1099511627776
/-- all counts together -/
def totL (l : List Int) : Int := l.foldl totF 0
theorem totL_snoc (l : List Int) (x : Int) : totL (l ++ [x]) = totF (totL l) x := by
  unfold totL
  rw [List.foldl_append]
  rfl
theorem totL_take_succ {l : List Int} {k : Nat} {x : Int} (hx : l[k]? = some x) : totL (l.take (k + 1)) = totF (totL (l.take k)) x := by
  rw [take_snoc hx, totL_snoc]
theorem totL_bd (l : List Int) : 0 ≤ totL l ∧ totL l ≤ 1099511627776 := by
  induction l using snoc_ind with
  | h0 => exact ⟨Int.le_refl 0, by decide⟩
  | h1 l x ih => rw [totL_snoc]; unfold totF; omega

set_option maxHeartbeats 400000 in
theorem total_any (v : Value) (l : List Int) (w : World) (hv : RInts w v l) :
    Calls Try.prog 19 #[v] w fun e w' => e = .returned (.int .i64 (totL l)) ∧ w = w' := by
  obtain ⟨a, cap, rfl, hc1, hc2⟩ := hv.shape
  go_enter Try.func19, Try.ntmps19
  go_wp2
  go_loop [3, 5, 8] (fun n x i => ∃ k : Nat, k ≤ l.length ∧ i = .int .i64 k ∧ n = .int .i64 (totL (l.take k))) (fun _ _ i => l.length - (intOf i).toNat)
  case atStart => exact ⟨0, Nat.zero_le _, rfl, rfl⟩
  case round =>
    obtain ⟨k, hk, rfl, rfl⟩ := hrel
    have hb := totL_bd (l.take k)
    obtain ⟨t, ht⟩ : ∃ t, totL (l.take k) = t := ⟨_, rfl⟩
    rw [ht] at hb
    rw [ht]
    have HT := Lib.hid ht
    clear ht
    obtain ⟨ht1, ht2⟩ := hb
    by_cases hlt : k < l.length
    · obtain ⟨b, off, x, rfl, hbb, hx, hcx, hx1, hx2⟩ := hv.at hlt
      have HX := Lib.hid hx
      clear hx hv
      by_cases h0 : 0 < x
      · by_cases h1 : x ≤ 1099511627776
        · go_wp2_with (go_at_call 27; refine (together_any _ _ _ ht1 ht2 (by omega) (by omega)).mono ?_; rintro e w' ⟨rfl, rfl⟩)
          all_goals
            go_round
            case rel => exact ⟨k + 1, by omega, by go_num, by rw [totL_take_succ HX.out, HT.out]; unfold totF; congr 1; omega⟩
            case measure => simp [intOf]; omega
        · go_wp2_with (go_at_call 27; refine (together_any _ _ _ ht1 ht2 (by omega) (by omega)).mono ?_; rintro e w' ⟨rfl, rfl⟩)
          all_goals
            go_round
            case rel => exact ⟨k + 1, by omega, by go_num, by rw [totL_take_succ HX.out, HT.out]; unfold totF; congr 1; omega⟩
            case measure => simp [intOf]; omega
      · go_wp2_with (go_at_call 27; refine (together_any _ _ _ ht1 ht2 (by omega) (by omega)).mono ?_; rintro e w' ⟨rfl, rfl⟩)
        all_goals
          go_round
          case rel => exact ⟨k + 1, by omega, by go_num, by rw [totL_take_succ HX.out, HT.out]; unfold totF; congr 1; omega⟩
          case measure => simp [intOf]; omega
    · obtain rfl : k = l.length := by omega
      go_wp2
      go_ret
      exact ⟨ret_int (by have := HT.out; rw [List.take_length] at this; exact this.symm), rfl⟩

set_option maxHeartbeats 400000 in
theorem reftotal_any (v : Value) (l : List Int) (w : World) (hv : RInts w v l) :
    Calls Try.prog 20 #[v] w fun e w' => e = .returned (.int .i64 (totL l)) ∧ w = w' := by
  obtain ⟨a, cap, rfl, hc1, hc2⟩ := hv.shape
  go_enter Try.func20, Try.ntmps20
  go_wp2
  go_loop [3, 5, 8] (fun n x i => ∃ k : Nat, k ≤ l.length ∧ i = .int .i64 k ∧ n = .int .i64 (totL (l.take k))) (fun _ _ i => l.length - (intOf i).toNat)
  case atStart => exact ⟨0, Nat.zero_le _, rfl, rfl⟩
  case round =>
    obtain ⟨k, hk, rfl, rfl⟩ := hrel
    have hb := totL_bd (l.take k)
    obtain ⟨t, ht⟩ : ∃ t, totL (l.take k) = t := ⟨_, rfl⟩
    rw [ht] at hb
    rw [ht]
    have HT := Lib.hid ht
    clear ht
    obtain ⟨ht1, ht2⟩ := hb
    by_cases hlt : k < l.length
    · obtain ⟨b, off, x, rfl, hbb, hx, hcx, hx1, hx2⟩ := hv.at hlt
      have HX := Lib.hid hx
      clear hx hv
      by_cases h0 : 0 < x
      · obtain ⟨m, hm⟩ : ∃ m, min x 1099511627776 = m := ⟨_, rfl⟩
        have hm1 : 0 ≤ m := by omega
        have hm2 : m ≤ 1099511627776 := by omega
        have HM := Lib.hid hm
        have HC := Lib.hid (most_any x w)
        rw [hm] at HC
        clear hm
        go_wp2_with fail
        refine HC.out.mono ?_
        rintro e w' ⟨rfl, rfl⟩
        clear HC
        go_wp2_with fail
        refine (most_any _ _).mono ?_
        rintro e w' ⟨rfl, rfl⟩
        go_wp2
        go_round
        case rel => exact ⟨k + 1, by omega, by go_num, by rw [totL_take_succ HX.out, HT.out]; have := HM.out; unfold totF; congr 1; omega⟩
        case measure => simp [intOf]; omega
      · go_wp2
        go_round
        case rel => exact ⟨k + 1, by omega, by go_num, by rw [totL_take_succ HX.out, HT.out]; unfold totF; congr 1; omega⟩
        case measure => simp [intOf]; omega
    · obtain rfl : k = l.length := by omega
      go_wp2
      go_ret
      exact ⟨ret_int (by have := HT.out; rw [List.take_length] at this; exact this.symm), rfl⟩

/-- two rows of counts together -/
def addL (a b : List Int) : List Int := List.zipWith (fun x y => min (x + y) 1099511627776) a b
theorem addL_length (a b : List Int) (h : a.length = b.length) : (addL a b).length = a.length := by simp [addL, h]
theorem addL_at {a b : List Int} {k : Nat} {x y : Int} (hx : a[k]? = some x) (hy : b[k]? = some y) : (addL a b)[k]? = some (min (x + y) 1099511627776) := by
  simp [addL, List.getElem?_zipWith, hx, hy]
theorem addL_bd {a b : List Int} (ha : mayL a = true) (hb : mayL b = true) : ∀ x ∈ addL a b, -9223372036854775808 ≤ x ∧ x ≤ 9223372036854775807 := by
  intro x hx
  obtain ⟨i, hi⟩ := List.getElem?_of_mem hx
  unfold addL at hi
  rw [List.getElem?_zipWith] at hi
  cases h1 : a[i]? with
  | none => simp [h1] at hi
  | some y =>
    cases h2 : b[i]? with
    | none => simp [h1, h2] at hi
    | some z =>
      simp [h1, h2] at hi
      have := mayL_at ha h1
      have := mayL_at hb h2
      omega

set_option maxHeartbeats 400000 in
theorem refadd_any (va vb : Value) (la lb : List Int) (w : World) (hl : la.length ≤ 300) (hlen : la.length = lb.length) (hma : mayL la = true) (hmb : mayL lb = true) (hv : RInts w va la) (hw : RInts w vb lb) :
    Calls Try.prog 21 #[va, vb] w fun e w' => ∃ v', e = .returned v' ∧ RInts w' v' (addL la lb) ∧ Below w.heap.size w w' := by
  obtain ⟨a, cap, rfl, hc1, hc2⟩ := hv.shape
  obtain ⟨a2, cap2, rfl, hc3, hc4⟩ := hw.shape
  have HA := Lib.hid hma
  have HB := Lib.hid hmb
  have HL := Lib.hid hlen
  clear hma hmb
  rw [← hlen] at hw hc3 ⊢
  clear hlen
  go_enter Try.func21, Try.ntmps21
  go_wp2
  go_loopw [5, 6, 7, 10] (fun v' x y i wr => ∃ k : Nat, k ≤ la.length ∧ i = .int .i64 k ∧ OwnI wr 3 v' ((addL la lb).take k) ∧ FreshV w.heap.size v' ∧ Below w.heap.size w wr) (fun _ _ _ i _ => la.length - (intOf i).toNat)
  case atStart => exact ⟨0, Nat.zero_le _, rfl, OwnI.nil _ _, FreshV.nil _, Below.refl _ _⟩
  case round =>
    obtain ⟨k, hk, rfl, hown, hfr, hbel⟩ := hrel
    have hsz := hbel.size
    by_cases hlt : k < la.length
    · obtain ⟨b, off, x, rfl, hbb, hx, hcx, hx1, hx2⟩ := (hv.below hbel).at hlt
      obtain ⟨b2, off2, y, rfl, hbb2, hy, hcy, hy1, hy2⟩ := (hw.below hbel).at hlt
      have HXY := Lib.hid (addL_at hx hy)
      obtain ⟨hx3, hx4⟩ := mayL_at HA.out hx
      obtain ⟨hy3, hy4⟩ := mayL_at HB.out hy
      have hlb : (k : Int) < (la.length : Int) := by omega
      have htl : ((addL la lb).take k).length < 1000000000 := by have := List.length_take_le k (addL la lb); omega
      have HTL := Lib.hid htl
      clear hv hw hx hy htl
      go_wp2_with (first
        | (go_at_call 28; refine (most_any _ _).mono ?_; rintro e w' ⟨rfl, rfl⟩)
        | (at_builtin; refine wpList_append_int _ _ rfl _ _ 22 rfl 3 Try.underlying22 intinfo _ ((addL la lb).take k) _ _ rfl rfl rfl hown HTL.out ?_))
      intro v2 w2 hown2 hkeep hfresh
      have hbel2 := below_append hbel hkeep hfr (by omega)
      have hfr2 := hfr.step (by omega) hfresh
      clear hown hfr hbel hkeep hfresh
      go_wp2
      go_roundw
      case rel => exact ⟨k + 1, by omega, by go_num, by rw [take_snoc HXY.out]; exact hown2, hfr2, hbel2⟩
      case measure => simp [intOf]; omega
    · obtain rfl : k = la.length := by omega
      clear hv hw
      go_wp2
      go_ret
      refine ⟨_, rfl, ?_, hbel⟩
      rw [List.take_of_length_le (by rw [addL_length _ _ HL.out]; exact Nat.le_refl _)] at hown
      exact hown.reads (addL_bd HA.out HB.out)
end Go.Proofs.Ytnkjmaignpnkpaa

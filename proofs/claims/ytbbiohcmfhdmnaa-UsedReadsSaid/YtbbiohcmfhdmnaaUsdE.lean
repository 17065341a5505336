/- Package used: symbols are written. -/
import Derived.Test.YtbbiohcmfhdmnaaUsdD
import Derived.Test.YtbbiohcmfhdmnaaBitB
namespace Go.Proofs.Ytbbiohcmfhdmnaa
open Go.RowKit

def whichF (f : Nat → Bool) (j : Nat) (k : Nat) : Bool := decide (k < j) && someR f k
theorem whichF_zero (f : Nat → Bool) : rowV (whichF f 0) 0 = 0 := by
  rw [rowV_zero]
  unfold someR rowL
  rw [List.any_eq_false]
  intro x hx
  obtain ⟨k, _, rfl⟩ := List.mem_map.1 hx
  simp [whichF]
theorem whichF_yes {f : Nat → Bool} {j : Nat} (hj : j < 16) (h : someR f j = true) : rowV (whichF f j) 0 ||| 2 ^ (15 - j) = rowV (whichF f (j + 1)) 0 := by
  rw [rowV_or _ 0 j hj]
  refine rowV_same _ _ _ fun k _ => ?_
  unfold whichF
  simp only [Nat.mul_zero, Nat.zero_add]
  by_cases e : k = j
  · subst e; simp [h]
  · have : (decide (k < j + 1)) = decide (k < j) := by
      rw [Bool.eq_iff_iff]; simp; omega
    rw [this]
    simp [e]
theorem whichF_no {f : Nat → Bool} {j : Nat} (h : someR f j = false) : rowV (whichF f j) 0 = rowV (whichF f (j + 1)) 0 := by
  refine rowV_same _ _ _ fun k _ => ?_
  unfold whichF
  simp only [Nat.mul_zero, Nat.zero_add]
  by_cases e : k = j
  · subst e; simp [h]
  · have : (decide (k < j + 1)) = decide (k < j) := by
      rw [Bool.eq_iff_iff]; simp; omega
    rw [this]
theorem whichF_all (f : Nat → Bool) : fieldL (rowV (whichF f 16) 0) 16 = whichL f := by
  rw [rowV_field]
  unfold rowL whichL
  apply List.map_congr_left
  intro k hk
  have hk := List.mem_range.1 hk
  unfold whichF
  simp [hk]
theorem restL_succ (f : Nat → Bool) (j : Nat) : restL f (List.range (j + 1)) = restL f (List.range j) ++ (if someR f j then rowL f j else []) := by
  unfold restL
  rw [List.range_succ, List.flatMap_append]
  simp
theorem rowL_bit_len (f : Nat → Bool) (j : Nat) : (if someR f j then rowL f j else []).length ≤ 16 := by split <;> simp [rowL_len]
theorem restL_len (f : Nat → Bool) (j : Nat) : (restL f (List.range j)).length ≤ 16 * j := by
  induction j with
  | zero => simp [restL]
  | succ j ih => rw [restL_succ, List.length_append]; have := rowL_bit_len f j; omega

theorem put16 {all : List Bool} {v : Nat} (h : v < 65536) : putE v 16 = 0 ∧ putA all v 16 = all ++ fieldL v 16 := by
  have hf : fitsB v 16 = true := by
    unfold fitsB
    rw [decide_eq_true (show (0 : Int) ≤ 16 by decide), decide_eq_true (show (16 : Int) ≤ 32 by decide), decide_eq_true (show v < 2 ^ (16 : Int).toNat from h)]
    rfl
  unfold putE putA
  rw [hf]
  exact ⟨rfl, rfl⟩

set_option maxHeartbeats 2000000 in
set_option maxRecDepth 100000 in
theorem write_any (G : Nat → Prop) (B b : Nat) (all : List Bool) (k : Nat) (s : ByteArray) (S : List UInt8) (w : World) (h : WLive G B b all k w) (hl : all.length ≤ 800000000) (hs : s = str S) (hsl : S.length ≤ 1000000) (his : isL S = true) :
    Calls Try.prog 44 #[.pointer (some ⟨b, 0, none⟩), .string s] w fun e w' => e = .returned (.int .i64 0) ∧ WActs G B b (all ++ usedBits (thereL S)) k w w' := by
  have HI := Lib.hid (is_any s S w hs hsl)
  rw [his] at HI
  have hz := zero_rows
  have HRO := Lib.hid (fun w => rows_any s S w hs hsl)
  have H := Lib.hid h
  obtain ⟨f, hf⟩ : ∃ z, thereL S = z := ⟨_, rfl⟩
  rw [hf] at HRO ⊢
  obtain ⟨Z, hZ⟩ : ∃ z, (rowsA fun _ => false).toArray = z := ⟨_, rfl⟩
  have HZ := Lib.hid hZ
  rw [hZ] at hz
  obtain ⟨A, hA⟩ : ∃ z, (rowsA f).toArray = z := ⟨_, rfl⟩
  have HA := Lib.hid hA
  have hone := rowsA_one f
  have hsz2 : (Try.prog.info? 77).map (·.size) = some (rowsA f).toArray.size := by rw [List.size_toArray, rowsA_len]; exact rowsinfo
  have hold : Z.size = A.size := by rw [← hZ, ← hA]; simp [rowsA_len]
  have HAT := Lib.hid (show ∀ i, i < 16 → A[i]? = some (.int .u32 (rowV f i : Nat)) from fun i hi => by rw [← hA]; simpa using rowsA_at f hi)
  rw [hA] at HRO hone hsz2
  clear hs hf hZ hA h his
  go_enter Try.func44, Try.ntmps44
  go_wp2_with fail
  refine HI.out.mono ?_
  rintro e w1 ⟨rfl, hd1⟩
  have HB1 := Lib.hid (below_drawn hd1)
  clear HI hd1
  go_wp2_with fail
  refine (HRO.out _).mono ?_
  rintro e w2 ⟨rfl, hb2⟩
  have HB2 := Lib.hid (below_two HB1.out hb2)
  clear HRO hb2 HB1
  have hal := below_alloc w2 (.cells Z 77 (0, 0))
  have hbz : Blk (w2.alloc (.cells Z 77 (0, 0))) w2.heap.size (rowsA fun _ => false) 77 := by
    have := Blk.new w2 (rowsA fun _ => false) 77
    rw [HZ.out] at this
    exact this
  have hg0 : (w2.alloc (.cells Z 77 (0, 0))).heap[w2.heap.size]? = some (.cells Z 77 (0, 0)) := by rw [← HZ.out]; rw [← HZ.out] at hbz; exact hbz
  have HBX := Lib.hid (hbz.setRow (rowsA f))
  rw [HA.out] at HBX
  have hk := keep_setRow (w2.alloc (.cells Z 77 (0, 0))) w2.heap.size A
  have HBA := Lib.hid (HB2.out.trans ((below_of hal (HB2.out.size)).trans (hk.below (B := w.heap.size) (by have := HB2.out.size; simp; omega) (fun j hj e => by have h : j = w2.heap.size := e; have := HB2.out.size; omega))))
  have HSZ := Lib.hid (show w.heap.size ≤ w2.heap.size ∧ w2.heap.size < ((w2.alloc (.cells Z 77 (0, 0))).setRow w2.heap.size A).heap.size from ⟨HB2.out.size, by simp⟩)
  have HB3' := Lib.hid ((below_alloc w2 (.cells Z 77 (0, 0))).trans (hk.below (B := w2.heap.size) (by simp) (fun j hj e => by have h : j = w2.heap.size := e; omega)))
  have HBO := Lib.hid (below_of HB3'.out HB2.out.size)
  clear hal hbz hk
  have hgA : ((w2.alloc (.cells Z 77 (0, 0))).setRow w2.heap.size A).heap[w2.heap.size]? = some (.cells A 77 (0, 0)) := by
    have := HBX.out
    unfold Blk at this
    rw [HA.out] at this
    exact this
  go_wp2_with (first | (refine wpList_store_row rfl 77 _ _ rfl w2.heap.size A rfl rfl 77 Z hg0 hsz2 hold hone ?_) | (refine wpList_load_row rfl 77 _ rfl _ rfl _ A (0, 0) _ hgA Try.underlying77 rfl hsz2 ?_))
  have HGA := Lib.hid hgA
  have HS2 := Lib.hid hsz2
  clear hg0 hold hone hz hgA hsz2
  generalize (w2.alloc (.cells Z 77 (0, 0))).setRow w2.heap.size A = w3 at *
  go_loop [6, 7, 8, 21] (fun v x y i => ∃ (j : Nat), j ≤ 16 ∧ i = .int .i64 j ∧ v = .int .u32 (rowV (whichF f j) 0 : Nat)) (fun _ _ _ i => 16 - (intOf i).toNat)
  case atStart => exact ⟨0, by omega, rfl, by rw [whichF_zero]; rfl⟩
  case round =>
    obtain ⟨j, hj, rfl, rfl⟩ := hrel
    by_cases hlt : j < 16
    · have hix := fun w => run_index_arr (P := Try.prog) w 77 27 16 A .i64 j _ Try.underlying77 u32_flat u32info hlt (HAT.out j hlt)
      have hzr := rowV_zero f j
      have HY := Lib.hid (fun h => whichF_yes (f := f) hlt h)
      have HNO := Lib.hid (fun h => whichF_no (f := f) (j := j) h)
      have hWl := rowV_lt (whichF f j) 0
      obtain ⟨W, hW⟩ : ∃ z, rowV (whichF f j) 0 = z := ⟨_, rfl⟩
      obtain ⟨R, hR⟩ : ∃ z, rowV f j = z := ⟨_, rfl⟩
      rw [hR] at hix hzr
      rw [hW] at HY HNO hWl ⊢
      clear hW hR
      cases hsr : someR f j with
      | true =>
        have hne : ((R : Int) != 0) = true := by
          rw [hsr] at hzr
          rw [bne_iff_ne]
          intro e
          have := hzr.1 (by omega)
          cases this
        have HW2 := Lib.hid (HY.out hsr)
        obtain ⟨t, ht⟩ : ∃ z, 15 - j = z := ⟨_, rfl⟩
        have e1 : (15 : Int) - (j : Int) = (t : Int) := by omega
        have ht15 : t ≤ 15 := by omega
        rw [ht] at HW2
        have hor := or_row W t hWl ht15
        obtain ⟨V, hV⟩ : ∃ z, W ||| 2 ^ t = z := ⟨_, rfl⟩
        rw [hV] at hor HW2
        clear hzr HY HNO hsr ht hV
        go_wp2
        go_round
        case rel => exact ⟨j + 1, by omega, by go_num, by rw [← HW2.out]⟩
        case measure => simp [intOf]; omega
      | false =>
        have hR0 : R = 0 := hzr.2 hsr
        have HW2 := Lib.hid (HNO.out hsr)
        subst hR0
        clear hzr HY HNO hsr
        go_wp2
        go_round
        case rel => exact ⟨j + 1, by omega, by go_num, by rw [← HW2.out]⟩
        case measure => simp [intOf]; omega
    · obtain rfl : j = 16 := by omega
      have hWl := rowV_lt (whichF f 16) 0
      have HWF := Lib.hid (whichF_all f)
      obtain ⟨W, hW⟩ : ∃ z, rowV (whichF f 16) 0 = z := ⟨_, rfl⟩
      rw [hW] at HWF hWl ⊢
      clear hW
      have HG3 := Lib.hid ((H.out.below HB2.out).more (G' := fun j => G j ∨ j = w2.heap.size) HB3'.out (fun j hj => by
        rcases hj with h | h
        · exact .inl h
        · exact .inr (by have := HSZ.out; omega)))
      obtain ⟨p1, p2⟩ := put16 (all := all) hWl
      have HPU := Lib.hid (lwput_any _ B b all k W 16 w3 HG3.out (by omega) (by omega))
      rw [p1, p2, HWF.out] at HPU
      clear p1 p2 HWF
      go_wp2_with fail
      refine HPU.out.mono ?_
      rintro e w4 ⟨rfl, hw4, hk4⟩
      have hgA4 : w4.heap[w2.heap.size]? = some (.cells A 77 (0, 0)) := (hk4.block w2.heap.size HSZ.out.2 (fun hz => hz.2 (.inr rfl))).trans HGA.out
      have HW4 := Lib.hid (show WLive (fun j => G j ∨ j = w2.heap.size) B b (all ++ whichL f ++ restL f (List.range 0)) k w4 by
        rw [show restL f (List.range 0) = [] from rfl, List.append_nil]
        exact hw4)
      have HK4 := Lib.hid (hk4.mono (T := Zone B G) (fun j _ hz => ⟨hz.1, fun hg => hz.2 (.inl hg)⟩))
      have hsz2 := HS2.out
      clear HPU hw4 hk4
      go_wp2_with (refine wpList_load_row rfl 77 _ rfl _ rfl _ A (0, 0) _ hgA4 Try.underlying77 rfl hsz2 ?_)
      clear hgA4 hsz2
      go_loopw [10, 37] (fun x i wr => ∃ (j : Nat), j ≤ 16 ∧ i = .int .i64 j ∧ Hid (WLive (fun j => G j ∨ j = w2.heap.size) B b (all ++ whichL f ++ restL f (List.range j)) k wr) ∧ Hid (Keep (Zone B G) w3 wr)) (fun _ i _ => 16 - (intOf i).toNat)
      case atStart => exact ⟨0, by omega, rfl, HW4.out, HK4.out⟩
      case round =>
        obtain ⟨j, hj, rfl, HW, HK⟩ := hrel
        by_cases hlt : j < 16
        · have hix := fun w => run_index_arr (P := Try.prog) w 77 27 16 A .i64 j _ Try.underlying77 u32_flat u32info hlt (HAT.out j hlt)
          have hzr := rowV_zero f j
          have hRl := rowV_lt f j
          have HRS := Lib.hid (restL_succ f j)
          have HRF := Lib.hid (rowV_field f j)
          have hrl := restL_len f j
          obtain ⟨R, hR⟩ : ∃ z, rowV f j = z := ⟨_, rfl⟩
          rw [hR] at hix hzr hRl HRF
          clear hR
          cases hsr : someR f j with
          | true =>
            have hne : ((R : Int) != 0) = true := by
              rw [hsr] at hzr
              rw [bne_iff_ne]
              intro e
              have := hzr.1 (by omega)
              cases this
            obtain ⟨p1, p2⟩ := put16 (all := all ++ whichL f ++ restL f (List.range j)) hRl
            have HPU := Lib.hid (lwput_any _ B b _ k R 16 _ HW.out (by rw [List.length_append, List.length_append, whichL_len]; omega) (by omega))
            rw [p1, p2, HRF.out] at HPU
            have HE := Lib.hid (show all ++ whichL f ++ restL f (List.range j) ++ rowL f j = all ++ whichL f ++ restL f (List.range (j + 1)) by rw [HRS.out, hsr]; simp)
            clear p1 p2 hzr hsr HRS hrl
            go_wp2_with fail
            refine HPU.out.mono ?_
            rintro e w5 ⟨rfl, hw5, hk5⟩
            rw [HE.out] at hw5
            have HW5 := Lib.hid hw5
            have HK5 := Lib.hid (HK.out.trans (hk5.mono (T := Zone B G) (fun j _ hz => ⟨hz.1, fun hg => hz.2 (.inl hg)⟩)))
            clear HPU hw5 hk5 HE
            go_wp2
            go_roundw
            case rel => exact ⟨j + 1, by omega, by go_num, HW5.out, HK5.out⟩
            case measure => simp [intOf]; omega
          | false =>
            have hR0 : R = 0 := hzr.2 hsr
            have HE := Lib.hid (show restL f (List.range j) = restL f (List.range (j + 1)) by rw [HRS.out, hsr]; simp)
            subst hR0
            clear hzr hsr HRS hrl
            go_wp2
            go_roundw
            case rel => exact ⟨j + 1, by omega, by go_num, by rw [← HE.out]; exact HW.out, HK.out⟩
            case measure => simp [intOf]; omega
        · obtain rfl : j = 16 := by omega
          have HF := Lib.hid (show WLive G B b (all ++ usedBits f) k wr by
            have := HW.out.less (G' := G) (fun j h => .inl h)
            rwa [List.append_assoc] at this)
          have HKF := Lib.hid ((Keep.of_below (HB2.out.trans HBO.out) (Zone B G)).trans HK.out)
          go_wp2
          go_ret
          exact ⟨rfl, HF.out, HKF.out⟩
end Go.Proofs.Ytbbiohcmfhdmnaa

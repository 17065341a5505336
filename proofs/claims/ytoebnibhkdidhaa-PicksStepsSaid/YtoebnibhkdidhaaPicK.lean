/- Package picks: the laws PicksWrites, PicksReads. -/
import Derived.Test.YtoebnibhkdidhaaPicJ
import Derived.Test.YtoebnibhkdidhaaRs
namespace Go.Proofs.Ytoebnibhkdidhaa
open Go.RowKit

theorem wfu32 {n : Int} (h : (Lit.int .u32 n).wf = true) : 0 ≤ n ∧ n ≤ 4294967295 := by
  have h1 : IntKind.u32.min = 0 := rfl
  have h2 : IntKind.u32.max = 4294967295 := rfl
  simp only [Lit.wf, Bool.and_eq_true, decide_eq_true_eq] at h
  omega

/-- an argument of two numbers in an array -/
theorem arr2u_of {H : Type} {en : TypeId × Value → H} {P : Program} {w : World} {r : Reach} {b0 : Nat} {t e : TypeId} {v : Value} {d : DataW H} {p : List MemPlace}
    (ht : P.underlying t = some (.array 2 e)) (he : P.underlying e = some (.int .u32)) (hC : P.cellsOf e = 1) (hCt : P.cellsOf t = 2) (hv : Value.okWide P w r b0 t v)
    (h : DataW.Trod en P w 0 (fun _ => true) true t v d p) : ∃ z : Int × Int, v = .agg #[.int .u32 z.1, .int .u32 z.2] ∧ (Lit.int .u32 z.1).wf = true ∧ (Lit.int .u32 z.2).wf = true := by
  unfold Value.okWide at hv
  rw [ht] at hv
  obtain ⟨⟨cs⟩, rfl, hsz, _⟩ := hv
  obtain ⟨fuel, hf⟩ := h
  obtain ⟨xs, m, _, _, hlen, hxl, hx⟩ := DataW.trod_array ht hf
  rw [hCt] at hlen
  have g0 := hx 0 (by decide)
  have g1 := hx 1 (by decide)
  rw [hC, List.getElem?_eq_getElem (by omega)] at g0 g1
  obtain ⟨a, ha, _, wa⟩ := DataW.trod_int he g0
  obtain ⟨b, hb, _, wb⟩ := DataW.trod_int he g1
  have e0 := cells_one ha
  have e1 := cells_one hb
  have hcs := list2 hlen e0 e1
  simp [Value.cells] at hcs
  subst hcs
  exact ⟨(a, b), rfl, wa, wb⟩

set_option maxHeartbeats 4000000 in
theorem lawPicksWrites {v : Value} {l : List Int} {n xi yi : Int} {w : World} (hv : RInts w v l) (_hn1 : -9223372036854775808 ≤ n) (_hn2 : n ≤ 9223372036854775807) (hx1 : 0 ≤ xi) (hx2 : xi ≤ 4294967295) (hy1 : 0 ≤ yi) (hy2 : yi ≤ 4294967295) :
    Calls Try.prog 12 #[v, .int .i64 n, .agg #[.int .u32 xi, .int .u32 yi]] w fun e w' => e = .returned (.bool true) ∧ Below w.heap.size w w' := by
  have HM := Lib.hid (fun w h => refmay_any v l n w h)
  have HLT := Lib.hid three13_any
  obtain ⟨x, rfl⟩ : ∃ x : Nat, xi = x := ⟨xi.toNat, by omega⟩
  obtain ⟨y, rfl⟩ : ∃ y : Nat, yi = y := ⟨yi.toNat, by omega⟩
  have hx : x < 4294967296 := by omega
  obtain ⟨m, hm⟩ : ∃ m, y % 9 = m := ⟨_, rfl⟩
  have hm9 : m < 9 := by omega
  have htm : Int.tmod (y : Int) 9 = (m : Int) := by rw [Int.tmod_eq_emod_of_nonneg (by omega)]; omega
  have hwm : IntKind.u32.wrap (m : Int) = (m : Int) := IntWalk.u32_in _ (by omega)
  have hwi : IntKind.i64.wrap (m : Int) = (m : Int) := IntWalk.i64_in _ (by omega)
  have HFT := Lib.hid (fun w => reffits_any x (m : Int) w hx)
  have HV := Lib.hid (hv.below (below_alloc w (Obj.cells #[Value.int .u32 (x : Int), Value.int .u32 (y : Int)] 73 (0, 0))))
  have HAL := Lib.hid (below_alloc w (Obj.cells #[Value.int .u32 (x : Int), Value.int .u32 (y : Int)] 73 (0, 0)))
  have HBX := Lib.hid (Blk.new w [Value.int .u32 (x : Int), Value.int .u32 (y : Int)] 73)
  have HSZ := Lib.hid (show (w.alloc (Obj.cells #[Value.int .u32 (x : Int), Value.int .u32 (y : Int)] 73 (0, 0))).heap.size = w.heap.size + 1 by simp)
  have c0 := HBX.out.cell (i := 0) rfl
  have c1 := HBX.out.cell (i := 1) rfl
  obtain ⟨a, cap, rfl, hc1, hc2⟩ := hv.shape
  clear hv hy1 hy2 hx1 hx2 hm
  have hll : l.length ≤ 100 ∨ ¬ l.length ≤ 100 := by omega
  by_cases hz : 100 < l.length ∧ l.length ≤ 32767
  · have t1 : decide ((100 : Int) < (l.length : Int)) = true := decide_eq_true (by omega)
    have t2 : decide ((l.length : Int) ≤ 32767) = true := decide_eq_true (by omega)
    clear hz hll
    go_enter Try.func12, Try.ntmps12
    go_wp2_with fail
    refine (HLT.out _).mono ?_
    rintro e w1 ⟨rfl, hb⟩
    have HB := Lib.hid (HAL.out.trans (below_of hb HAL.out.size))
    clear hb
    go_wp2
    go_ret
    exact ⟨rfl, HB.out⟩
  obtain ⟨q1, hq1⟩ : ∃ z, decide ((100 : Int) < (l.length : Int)) = z := ⟨_, rfl⟩
  obtain ⟨q2, hq2⟩ : ∃ z, decide ((l.length : Int) ≤ 32767) = z := ⟨_, rfl⟩
  have hq12 : q1 = false ∨ (q1 = true ∧ q2 = false) := by
    by_cases h1 : (100 : Int) < (l.length : Int)
    · right
      exact ⟨by rw [← hq1]; exact decide_eq_true h1, by rw [← hq2]; exact decide_eq_false (by omega)⟩
    · left
      rw [← hq1]; exact decide_eq_false h1
  have HQ := Lib.hid hq12
  clear hq12 hll
  cases hfit : fitsB x (m : Int) with
  | false =>
    rw [hfit] at HFT
    clear hfit hz
    rcases HQ.out with rfl | ⟨rfl, rfl⟩
    all_goals
      go_enter Try.func12, Try.ntmps12
      go_wp2_with fail
      refine (HFT.out _).mono ?_
      rintro e w1 ⟨rfl, rfl⟩
      go_wp2_with fail
      refine (HLT.out _).mono ?_
      rintro e w1 ⟨rfl, hb⟩
      have HB := Lib.hid (HAL.out.trans (below_of hb HAL.out.size))
      clear hb
      go_wp2
      go_ret
      exact ⟨rfl, HB.out⟩
  | true =>
    rw [hfit] at HFT
    obtain ⟨m', hmm, hm32, hxm⟩ := fitsB_yes hfit
    obtain rfl : m = m' := by omega
    have HPU := Lib.hid (fun G B b k w h => lwput_any G B b [] k x (m : Int) w h (by decide) hx)
    have e1 : putE x (m : Int) = 0 := by unfold putE; rw [hfit]; rfl
    have e2 : putA [] x (m : Int) = fieldL x m := by unfold putA; rw [hfit]; rfl
    rw [e1, e2] at HPU
    have HFI := Lib.hid (fun w => field_any x (m : Int) w hx (by omega))
    rw [Int.toNat_natCast] at HFI
    have hfl : (fieldL x m).length = m := fieldL_len x m
    obtain ⟨A, hA⟩ : ∃ z, fieldL x m = z := ⟨_, rfl⟩
    rw [hA] at HPU HFI hfl
    clear hmm
    cases hm : mayP l n with
    | false =>
      have HW := Lib.hid (fun b w h => pwrite_no b (.slice a l.length cap) l n w h hm)
      have HBI := Lib.hid (fun w h => pbits_no (.slice a l.length cap) l n w h hm)
      have HLE := Lib.hid (fun G B b k w h => lwlen_any G B b A k w h)
      rw [hfl] at HLE
      rw [hm] at HM
      clear hfit hm hz hxm e1 e2 hA HFI
      rcases HQ.out with rfl | ⟨rfl, rfl⟩
      all_goals
        go_enter Try.func12, Try.ntmps12
        go_wp2_with fail
        refine (HFT.out _).mono ?_
        rintro e w0 ⟨rfl, hw0⟩
        rw [hw0] at HV HAL HBX HSZ c0 c1
        clear HFT hw0
        go_wp2_with fail
        refine (lwnew_any w0 (fun _ => False) w0.heap.size (Nat.le_refl _) (nog w0)).mono ?_
        rintro e w1 ⟨b, rfl, -, hw1, hb1⟩
        have HW1 := Lib.hid hw1
        have HB1 := Lib.hid hb1
        have d0 := cellB c0 HB1.out
        have d1 := cellB c1 HB1.out
        clear hw1 hb1 c0 c1
        go_wp2_with fail
        refine (HPU.out _ _ _ _ _ HW1.out).mono ?_
        rintro e w2 ⟨rfl, hw2, hk2⟩
        have HW2 := Lib.hid hw2
        have HB2 := Lib.hid (HB1.out.trans (zone_below hk2 HB1.out.size))
        clear HPU hw2 hk2 HW1 HB1 d0 d1
        go_wp2_with fail
        refine (HW.out _ _ (HV.out.below HB2.out)).mono ?_
        rintro e w3 ⟨rfl, hq⟩
        have HW3 := Lib.hid (HW2.out.below hq)
        have HB3 := Lib.hid (HB2.out.trans (below_of hq HB2.out.size))
        clear HW hq HW2 HB2
        go_wp2_with fail
        refine (HBI.out _ (HV.out.below HB3.out)).mono ?_
        rintro e w4 ⟨rfl, hq⟩
        have HW4 := Lib.hid (HW3.out.below hq)
        have HB4 := Lib.hid (HB3.out.trans (below_of hq HB3.out.size))
        clear HBI hq HW3 HB3
        go_wp2_with fail
        refine (HM.out _ (HV.out.below HB4.out)).mono ?_
        rintro e w5 ⟨rfl, rfl⟩
        clear HM
        go_wp2_with fail
        refine (HLE.out _ _ _ _ _ HW4.out).mono ?_
        rintro e w5 ⟨rfl, rfl⟩
        clear HLE
        go_wp2_with fail
        refine (HLT.out _).mono ?_
        rintro e w5 ⟨rfl, hq⟩
        have HB5 := Lib.hid (HAL.out.trans (below_of (HB4.out.trans (below_of hq HB4.out.size)) HAL.out.size))
        clear hq
        go_wp2
        go_ret
        exact ⟨rfl, HB5.out⟩
    | true =>
      obtain ⟨⟨hn2, hn6⟩, hl0, hlm, -⟩ := mayP_iff.1 hm
      obtain ⟨t, rfl⟩ : ∃ t : Nat, n = t := ⟨n.toNat, by omega⟩
      have hbl := bitsP_len hm
      rw [Int.toNat_natCast] at hbl
      have HVL := Lib.hid (rints_lt HV.out hl0)
      have HW := Lib.hid (fun B b w1 h hr hz => pwrite_any (fun _ => False) B b A 0 (.slice a l.length cap) l t w1 h (by omega) hr hz hm)
      have HBI := Lib.hid (fun w h => pbits_any (.slice a l.length cap) l (t : Int) w h hm)
      rw [Int.toNat_natCast] at HBI
      have HRB := Lib.hid (fun w h => refbits13_any (.slice a l.length cap) l t w h hm)
      obtain ⟨N, hN⟩ : ∃ z, (bitsP l t).length = z := ⟨_, rfl⟩
      rw [hN] at HBI hbl
      have hys : (stx (bitsP l t)).size = N := by rw [stx_size, hN]
      have hcat : stx A ++ stx (bitsP l t) = stx (A ++ bitsP l t) := stx_append _ _
      have hCl : (A ++ bitsP l t).length ≤ 10200 := by rw [List.length_append]; omega
      obtain ⟨C, hC⟩ : ∃ z, A ++ bitsP l t = z := ⟨_, rfl⟩
      rw [hC] at HW hcat hCl
      have HPA := Lib.hid (fun G B b k w h => lwpad_any G B b C k w h (by omega))
      have HT := Lib.hid (fun G B b w h => lwtake_any G B b (padL C) 0 w h)
      have HPK := Lib.hid (fun w => refpack_any _ C w rfl (by omega))
      rw [List.drop_zero] at HT
      have hxs : (stx A).size ≤ 32 := by rw [stx_size, hfl]; omega
      obtain ⟨sx, hsx⟩ : ∃ z, stx A = z := ⟨_, rfl⟩
      obtain ⟨sy, hsy⟩ : ∃ z, stx (bitsP l t) = z := ⟨_, rfl⟩
      obtain ⟨sc, hsc⟩ : ∃ z, stx C = z := ⟨_, rfl⟩
      obtain ⟨p, hp⟩ : ∃ z, str (bytesL (padL C)) = z := ⟨_, rfl⟩
      rw [hsx, hsy, hsc] at hcat
      rw [hsx] at HFI hxs
      rw [hsy] at HRB hys
      rw [hsc, hp] at HPK
      rw [hp] at HT
      have hys2 : sy.size ≤ 10200 := by omega
      have hyn : ((N : Int) == (sy.size : Int)) = true := beq_iff_eq.2 (by omega)
      have hsum : ¬ (9223372036854775807 < sx.size + sy.size) := by omega
      rw [hm] at HM
      clear hfit hm hz hxm e1 e2 hA hfl hbl hN hC hCl hsx hsy hsc hp hys hn2 hn6 hl0 hlm
      rcases HQ.out with rfl | ⟨rfl, rfl⟩
      all_goals
        go_enter Try.func12, Try.ntmps12
        go_wp2_with fail
        refine (HFT.out _).mono ?_
        rintro e w0 ⟨rfl, hw0⟩
        rw [hw0] at HV HVL HAL HBX HSZ c0 c1
        clear HFT hw0
        go_wp2_with fail
        refine (lwnew_any w0 (fun _ => False) w0.heap.size (Nat.le_refl _) (nog w0)).mono ?_
        rintro e w1 ⟨b, rfl, -, hw1, hb1⟩
        have HW1 := Lib.hid hw1
        have HB1 := Lib.hid hb1
        have d0 := cellB c0 HB1.out
        have d1 := cellB c1 HB1.out
        have C0 := Lib.hid c0
        clear hw1 hb1 c0 c1
        go_wp2_with fail
        refine (HPU.out _ _ _ _ _ HW1.out).mono ?_
        rintro e w2 ⟨rfl, hw2, hk2⟩
        have HW2 := Lib.hid hw2
        have HB2 := Lib.hid (HB1.out.trans (zone_below hk2 HB1.out.size))
        clear HPU hw2 hk2 HW1 HB1 d0 d1
        go_wp2_with fail
        refine (HW.out _ _ _ HW2.out (HV.out.below HB2.out) (fun g hg hz => by have := HVL.out g hg; have := hz.1; omega)).mono ?_
        rintro e w3 ⟨rfl, hw3, hk3⟩
        have HW3 := Lib.hid hw3
        have HB3 := Lib.hid (HB2.out.trans (zone_below hk3 HB2.out.size))
        clear HW hw3 hk3 HW2 HB2
        go_wp2_with fail
        refine (HBI.out _ (HV.out.below HB3.out)).mono ?_
        rintro e w4 ⟨rfl, hq⟩
        have HW4 := Lib.hid (HW3.out.below hq)
        have HB4 := Lib.hid (HB3.out.trans (below_of hq HB3.out.size))
        clear HBI hq HW3 HB3
        go_wp2_with fail
        refine (HM.out _ (HV.out.below HB4.out)).mono ?_
        rintro e w5 ⟨rfl, rfl⟩
        clear HM
        go_wp2_with fail
        refine (HRB.out _ (HV.out.below HB4.out)).mono ?_
        rintro e w5 ⟨rfl, hq⟩
        have HW5 := Lib.hid (HW4.out.below hq)
        have HB5 := Lib.hid (HB4.out.trans (below_of hq HB4.out.size))
        clear HRB hq HW4 HB4
        go_wp2_with fail
        refine (HPA.out _ _ _ _ _ HW5.out).mono ?_
        rintro e w6 ⟨rfl, hw6, hk6⟩
        have HW6 := Lib.hid hw6
        have HB6 := Lib.hid (HB5.out.trans (zone_below hk6 HB5.out.size))
        clear HPA hw6 hk6 HW5 HB5
        have HW7 := Lib.hid (HW6.out.below (below_drew1 _))
        have HB7 := Lib.hid (HB6.out.trans (below_of (below_drew1 _) HB6.out.size))
        clear HW6 HB6
        go_wp2
        go_region_held3 (fun w' => w'.cell? ⟨w.heap.size, 0, none⟩ = some (.int .u32 (x : Int)))
          (first | (with_reducible exact cellB C0.out HB7.out) | (with_reducible exact cellB C0.out hA1) | (with_reducible exact cellB C0.out hA3) | (with_reducible exact cellB C0.out hA4) | assumption)
          (first
            | (go_at_call 29; refine (HLT.out _).mono ?_; rintro e y4 ⟨rfl, hq⟩; have hA4 := hA3.trans (below_of hq hA3.size); clear hq)
            | (go_at_call 51; refine (HPK.out _).mono ?_; rintro e y3 ⟨rfl, hq⟩; have hA3 := hA1.trans (below_of hq hA1.size); clear hq)
            | (go_at_call 52; refine (HFI.out _).mono ?_; rintro e y2 ⟨rfl, rfl⟩)
            | (go_at_call 41; refine (HT.out _ _ _ _ HW7.out).mono ?_; rintro e y1 ⟨rfl, hw7, hk7⟩; have hA1 := HB7.out.trans (zone_below hk7 HB7.out.size); clear hw7 hk7))
        all_goals
          have HE := Lib.hid (HAL.out.trans (below_of hA4 HAL.out.size))
          go_wp2
          go_ret
          exact ⟨rfl, HE.out⟩

theorem lawPicksWrites2 {v : Value} {l : List Int} {n : Int} {z : Int × Int} {w : World} (hv : RInts w v l) (hn1 : -9223372036854775808 ≤ n) (hn2 : n ≤ 9223372036854775807) (hz : (Lit.int .u32 z.1).wf = true ∧ (Lit.int .u32 z.2).wf = true) :
    Calls Try.prog 12 #[v, .int .i64 n, .agg #[.int .u32 z.1, .int .u32 z.2]] w fun e w' => e = .returned (.bool true) ∧ Below w.heap.size w w' :=
  lawPicksWrites hv hn1 hn2 (wfu32 hz.1).1 (wfu32 hz.1).2 (wfu32 hz.2).1 (wfu32 hz.2).2

set_option maxHeartbeats 4000000 in
set_option maxRecDepth 100000 in
theorem lawPicksReads {s : ByteArray} {a : Int} {w : World} (_hs : s.size ≤ maxLen) (_ha1 : -9223372036854775808 ≤ a) (_ha2 : a ≤ 9223372036854775807) :
    Calls Try.prog 9 #[.string s, .int .i64 a] w fun e w' => e = .returned (.bool true) ∧ Below w.heap.size w w' := by
  have HLT := Lib.hid three13_any
  by_cases hz : 100 < s.size
  · have t1 : decide ((100 : Int) < (s.size : Int)) = true := decide_eq_true (by omega)
    have t1' : decide (100 < s.size) = true := decide_eq_true (by omega)
    clear hz
    go_enter Try.func9, Try.ntmps9
    go_wp2_with fail
    refine (HLT.out _).mono ?_
    rintro e w1 ⟨rfl, hb⟩
    go_wp2
    go_ret
    exact ⟨rfl, hb⟩
  have t1 : decide ((100 : Int) < (s.size : Int)) = false := decide_eq_false (by omega)
  have t1' : decide (100 < s.size) = false := decide_eq_false (by omega)
  have e8 : IntKind.i64.wrap (8 * (s.size : Int)) = 8 * (s.size : Int) := IntWalk.i64_in _ (by omega)
  by_cases ha : a < 0
  · have t2 : decide (a < 0) = true := decide_eq_true ha
    clear ha hz
    go_enter Try.func9, Try.ntmps9
    go_wp2_with fail
    refine (HLT.out _).mono ?_
    rintro e w1 ⟨rfl, hb⟩
    go_wp2
    go_ret
    exact ⟨rfl, hb⟩
  have t2 : decide (a < 0) = false := decide_eq_false ha
  by_cases hb8 : 8 * (s.size : Int) < a
  · have t3 : decide (8 * (s.size : Int) < a) = true := decide_eq_true hb8
    clear ha hz hb8
    go_enter Try.func9, Try.ntmps9
    go_wp2_with fail
    refine (HLT.out _).mono ?_
    rintro e w1 ⟨rfl, hb⟩
    go_wp2
    go_ret
    exact ⟨rfl, hb⟩
  have t3 : decide (8 * (s.size : Int) < a) = false := decide_eq_false hb8
  obtain ⟨c, rfl⟩ : ∃ c : Nat, a = c := ⟨a.toNat, by omega⟩
  obtain ⟨S, hS⟩ : ∃ S, s = str S := ⟨_, str_of s⟩
  have hsz : s.size = S.length := by rw [hS, str_size]
  have hdat : s.data.toList = S := by rw [hS]; rfl
  have HN := Lib.hid (fun w => rnew_any s w (by omega))
  rw [hdat] at HN
  have hcl : c ≤ 8 * S.length := by omega
  have hSl : S.length ≤ 100 := by omega
  have HSK := Lib.hid (fun r w h => rseek_ok r S 0 0 c w h (by omega) hcl)
  have HRD := Lib.hid (fun r w h => pread_any r S 0 c w h)
  have HRB := Lib.hid (fun w => refbits_any s S w hS (by omega))
  have hbl : (bitsL S).length = 8 * S.length := bitsL_len S
  have hX : (stx (bitsL S)).extract c (stx (bitsL S)).size = stx ((bitsL S).drop c) := by
    rw [stx_extract, stx_size, List.take_of_length_le (by rw [List.length_drop]; omega)]
  have HRF := Lib.hid (fun w => refread_any _ ((bitsL S).drop c) w rfl (by rw [List.length_drop]; omega))
  have hru := refP_bd ((bitsL S).drop c)
  rw [List.length_drop] at hru
  have hzz : (stx (bitsL S)).size = 8 * S.length := by rw [stx_size, hbl]
  unfold RefQ at HRF
  obtain ⟨⟨rl, rt, ru, rto, re⟩, hrf⟩ : ∃ z, refP ((bitsL S).drop c) = z := ⟨_, rfl⟩
  rw [hrf] at HRD HRF hru
  dsimp only at hru
  obtain ⟨sx, hsx⟩ : ∃ z, stx (bitsL S) = z := ⟨_, rfl⟩
  obtain ⟨sy, hsy⟩ : ∃ z, stx ((bitsL S).drop c) = z := ⟨_, rfl⟩
  rw [hsx, hsy] at hX
  rw [hsx] at HRB hzz
  rw [hsy] at HRF
  have hcs : (c : Int) ≤ (sx.size : Int) := by omega
  have hc0 : (0 : Int) ≤ (c : Int) := by omega
  obtain ⟨N, hN⟩ : ∃ z, c + ru = z := ⟨_, rfl⟩
  have hNi : (c : Int) + (ru : Int) = (N : Int) := by omega
  have hNw : IntKind.i64.wrap (N : Int) = (N : Int) := IntWalk.i64_in _ (by omega)
  have HNN := Lib.hid hN
  clear ha hz hb8 hS hsz hdat hbl hru hrf hsx hsy hzz hN
  go_enter Try.func9, Try.ntmps9
  go_wp2_with fail
  refine (HN.out _).mono ?_
  rintro e w1 ⟨r, rfl, hr, hrd, hb1⟩
  have HR1 := Lib.hid hrd
  have HB1 := Lib.hid hb1
  have HRL := Lib.hid (show w.heap.size ≤ r by omega)
  clear HN hr hrd hb1
  go_wp2_with fail
  refine (HSK.out _ _ HR1.out).mono ?_
  rintro e w2 ⟨rfl, hd2⟩
  have HR2 := Lib.hid hd2.1
  have HB2 := Lib.hid (HB1.out.trans (hd2.2.below (B := w.heap.size) HB1.out.size (fun j hj e => by have h : j = r := e; have := HRL.out; omega)))
  clear HSK hd2 HR1 HB1
  go_wp2_with fail
  refine (HRD.out _ _ HR2.out).mono ?_
  rintro e w3 ⟨v3, rfl, hv3, -, hd3⟩
  dsimp only at hv3 hd3 ⊢
  have HV3 := Lib.hid hv3
  have HR3 := Lib.hid hd3.1
  have HB3 := Lib.hid (HB2.out.trans (hd3.2.below (B := w.heap.size) HB2.out.size (fun j hj e => by have h : j = r := e; have := HRL.out; omega)))
  obtain ⟨a3, c3, rfl, -, -⟩ := hv3.shape
  clear HRD hv3 hd3 HR2 HB2
  go_wp2_with fail
  refine (HRB.out _).mono ?_
  rintro e w4 ⟨rfl, rfl⟩
  clear HRB
  go_wp2_with fail
  refine (HRF.out _).mono ?_
  rintro e w4 ⟨v4, rfl, hv4, -, hb4⟩
  dsimp only at hv4 ⊢
  obtain ⟨a4, c4, rfl, -, -⟩ := hv4.shape
  have hal := below_alloc w4 (.cells #[.slice a4 rl.length c4, .int .i64 (rt : Int), .int .i64 (ru : Int), .int .i64 (rto : Int), .int .i64 re] 60 (0, 0))
  have hq := below_two (below_two hb4 hal) (below_drew1 _)
  have hbx := (Blk.new w4 [.slice a4 rl.length c4, .int .i64 (rt : Int), .int .i64 (ru : Int), .int .i64 (rto : Int), .int .i64 re] 60).below (below_drew1 _)
  have g0 := hbx.cell (i := 0) (x := .slice a4 rl.length c4) rfl
  have g1 := hbx.cell (i := 1) (x := .int .i64 (rt : Int)) rfl
  have g2 := hbx.cell (i := 2) (x := .int .i64 (ru : Int)) rfl
  have g4 := hbx.cell (i := 4) (x := .int .i64 re) rfl
  have HV4 := Lib.hid ((hv4.below hal).below (below_drew1 _))
  have HV3b := Lib.hid (HV3.out.below hq)
  have HR4 := Lib.hid (HR3.out.below hq)
  rw [HNN.out] at HR4
  have HB4 := Lib.hid (HB3.out.trans (below_of hq HB3.out.size))
  have HATT := Lib.hid (fun w h => rat_any r S 0 N w h)
  clear HRF hv4 hb4 hal hq hbx HV3 HR3 HB3
  go_wp2
  go_region_held3 (fun w' => w'.cell? ⟨w4.heap.size, 0, none⟩ = some (.slice a4 rl.length c4) ∧ w'.cell? ⟨w4.heap.size, 1, none⟩ = some (.int .i64 (rt : Int)) ∧ w'.cell? ⟨w4.heap.size, 2, none⟩ = some (.int .i64 (ru : Int)) ∧ w'.cell? ⟨w4.heap.size, 4, none⟩ = some (.int .i64 re))
    (first | (with_reducible exact ⟨g0, g1, g2, g4⟩) | (with_reducible exact ⟨cellB g0 hA1, cellB g1 hA1, cellB g2 hA1, cellB g4 hA1⟩) | (with_reducible exact ⟨cellB g0 hA3, cellB g1 hA3, cellB g2 hA3, cellB g4 hA3⟩) | assumption)
    (first
      | (go_at_call 29; refine (HLT.out _).mono ?_; rintro e y3 ⟨rfl, hq⟩; have hA3 := below_two hA1 hq; clear hq)
      | (go_at_call 35; refine (HATT.out _ (HR4.out.below hA1)).mono ?_; rintro e y2 ⟨rfl, rfl⟩)
      | (go_at_call 17; refine (ints_same _ _ rl _ HV3b.out HV4.out).mono ?_; rintro e y1 ⟨rfl, hd⟩; have hA1 := below_drawn hd; clear hd))
  all_goals
    have HE := Lib.hid (HB4.out.trans (below_of hA3 HB4.out.size))
    clear g0 g1 g2 g4
    go_wp2
    go_ret
    exact ⟨rfl, HE.out⟩
end Go.Proofs.Ytoebnibhkdidhaa

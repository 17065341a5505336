/- Package picks: three; the laws PicksNil, PicksBack. -/
import Derived.Test.YtoebnibhkdidhaaPicI
namespace Go.Proofs.Ytoebnibhkdidhaa
open Go.RowKit

set_option maxHeartbeats 1000000 in
theorem three13_any (w : World) : Calls Try.prog 29 #[] w fun e w' => e = .returned (.bool true) ∧ Below w.heap.size w w' := by
  have e1 : padL (bitsP [1, 1, 0] 2) = [false, true, false, false, false, false, false, false, false, false, false, false, false, false, false, false, true, true, true, false, false, true, false, false] := by decide +kernel
  have HE1 := Lib.hid e1
  have HE2 := Lib.hid (show (bytesL [false, true, false, false, false, false, false, false, false, false, false, false, false, false, false, false, true, true, true, false, false, true, false, false]).drop 0 = [64, 0, 228] by decide +kernel)
  have HE3 := Lib.hid (show (bitsP [1, 1, 0] 2).length = 23 by decide +kernel)
  have HE4 := Lib.hid (show refP ((bitsL [64, 0, 228]).drop 0) = ([1, 1, 0], 2, 23, 23, 0) by decide +kernel)
  clear e1
  go_enter Try.func29, Try.ntmps29
  go_wp2_with fail
  refine (lwnew_any w (fun _ => False) w.heap.size (Nat.le_refl _) (nog w)).mono ?_
  rintro e w1 ⟨b, rfl, -, hw1, hb1⟩
  have hal := below_alloc w1 (.cells #[.int .i64 1, .int .i64 1, .int .i64 0] 3 (0, 0))
  have HV := Lib.hid (rints_new w1 [1, 1, 0] 3 3 w1.heap.size _ rfl rfl rfl (by decide) (by decide))
  have HW := Lib.hid (hw1.more (G' := fun j => j = w1.heap.size) hal (fun j hj => .inr (by have h : j = w1.heap.size := hj; simp; omega)))
  have HB := Lib.hid (hb1.trans (below_of hal hb1.size))
  clear hw1 hb1 hal
  have HWR := Lib.hid (pwrite_any _ w.heap.size b [] 0 _ [1, 1, 0] 2 _ HW.out (by decide) HV.out (fun g hg hz => hz.2 (by simp [Value.ownBlock] at hg; exact hg.symm)) (by decide))
  go_wp2_with fail
  refine HWR.out.mono ?_
  rintro e w2 ⟨rfl, hw2, hk2⟩
  rw [List.nil_append] at hw2
  have HW2 := Lib.hid hw2
  have HB2 := Lib.hid (HB.out.trans (zone_below hk2 HB.out.size))
  have HLE := Lib.hid (lwlen_any _ _ b _ 0 w2 hw2)
  rw [HE3.out] at HLE
  clear hw2 hk2 HW HWR HV HB
  go_wp2_with fail
  refine HLE.out.mono ?_
  rintro e w3 ⟨rfl, rfl⟩
  clear HLE
  go_wp2_with fail
  refine (lwpad_any _ _ b _ 0 w2 HW2.out (by rw [HE3.out]; decide)).mono ?_
  rintro e w3 ⟨rfl, hw3, hk3⟩
  rw [HE1.out] at hw3
  have HW3 := Lib.hid hw3
  have HB3 := Lib.hid (HB2.out.trans (zone_below hk3 HB2.out.size))
  have HTK := Lib.hid (lwtake_any _ _ b _ 0 w3 hw3)
  rw [HE2.out] at HTK
  clear hw3 hk3 HW2 HB2
  go_wp2_with fail
  refine HTK.out.mono ?_
  rintro e w4 ⟨rfl, hw4, hk4⟩
  have HB4 := Lib.hid (HB3.out.trans (zone_below hk4 HB3.out.size))
  clear hw4 hk4 HW3 HB3 HTK
  have hstr : str [64, 0, 228] = ⟨#[64, 0, 228]⟩ := rfl
  rw [hstr]
  clear hstr
  have HN := Lib.hid (rnew_any ⟨#[64, 0, 228]⟩ w4 (by decide))
  rw [show (⟨#[64, 0, 228]⟩ : ByteArray).data.toList = [64, 0, 228] from rfl] at HN
  go_wp2_with fail
  refine HN.out.mono ?_
  rintro e w5 ⟨r, rfl, hr, hrd, hb5⟩
  have HRL := Lib.hid (show w.heap.size ≤ r by have := HB4.out.size; omega)
  have HB5 := Lib.hid (HB4.out.trans (below_of hb5 HB4.out.size))
  have HRD := Lib.hid (pread_any r [64, 0, 228] 0 0 w5 hrd)
  rw [HE4.out] at HRD
  clear HN hr hrd hb5 HB4
  go_wp2_with fail
  refine HRD.out.mono ?_
  rintro e w6 ⟨v6, rfl, hv6, -, hd6⟩
  obtain ⟨a6, c6, rfl, -, -⟩ := hv6.shape
  have HB6 := Lib.hid (HB5.out.trans (hd6.2.below (B := w.heap.size) HB5.out.size (fun j hj e => by have h : j = r := e; have := HRL.out; omega)))
  have hal6 := below_alloc w6 (.cells #[.int .i64 1, .int .i64 1, .int .i64 0] 3 (0, 0))
  have HIN := Lib.hid (ints_same _ _ [1, 1, 0] _ (hv6.below hal6) (rints_new w6 [1, 1, 0] 3 3 w6.heap.size _ rfl rfl rfl (by decide) (by decide)))
  have HB7 := Lib.hid (HB6.out.trans (below_of hal6 HB6.out.size))
  clear HRD hv6 hd6 HB5 HB6 hal6
  go_wp2_with fail
  refine HIN.out.mono ?_
  rintro e w7 ⟨rfl, hd⟩
  have HB8 := Lib.hid (HB7.out.trans (below_of (below_drawn hd) HB7.out.size))
  clear HIN hd
  go_wp2
  go_ret
  exact ⟨rfl, HB8.out⟩

set_option maxHeartbeats 1000000 in
theorem lawPicksNil {v : Value} {l : List Int} {n : Int} {w : World} (hv : RInts w v l) (_h1 : -9223372036854775808 ≤ n) (_h2 : n ≤ 9223372036854775807) :
    Calls Try.prog 11 #[v, .int .i64 n] w fun e w' => e = .returned (.bool true) ∧ Below w.heap.size w w' := by
  clear _h1 _h2
  obtain ⟨a, cap, rfl, -, -⟩ := hv.shape
  clear hv
  go_enter Try.func11, Try.ntmps11
  go_wp2_with fail
  refine (pread_nil w).mono ?_
  rintro e w2 ⟨rfl, rfl⟩
  go_wp2_with fail
  refine (pwrite_nil _ n w).mono ?_
  rintro e w2 ⟨rfl, rfl⟩
  go_wp2_with fail
  refine (rnew_any ⟨#[97]⟩ w (by decide)).mono ?_
  rintro e w3 ⟨r, rfl, -, -, hq⟩
  have HB3 := Lib.hid hq
  clear hq
  go_wp2_with fail
  refine (pStep_nil1 _ w3).mono ?_
  rintro e w4 ⟨rfl, rfl⟩
  go_wp2_with fail
  refine (pnew_any w3).mono ?_
  rintro e w4 ⟨p, rfl, -, -, hq⟩
  have HB4 := Lib.hid (below_two HB3.out hq)
  clear hq HB3
  go_wp2_with fail
  refine (pStep_nil2 _ w4).mono ?_
  rintro e w5 ⟨rfl, rfl⟩
  go_wp2_with fail
  refine (pdone_nil w4).mono ?_
  rintro e w5 ⟨rfl, hq⟩
  have HB5 := Lib.hid (below_two HB4.out hq)
  clear hq HB4
  go_wp2_with fail
  refine (ptables_nil w5).mono ?_
  rintro e w6 ⟨rfl, rfl⟩
  go_wp2_with fail
  refine (ppicks_nil w5).mono ?_
  rintro e w6 ⟨rfl, rfl⟩
  go_wp2_with fail
  refine (three13_any w5).mono ?_
  rintro e w6 ⟨rfl, hq⟩
  have HB6 := Lib.hid (below_two HB5.out hq)
  clear hq HB5
  go_wp2
  go_ret
  exact ⟨rfl, HB6.out⟩

set_option maxHeartbeats 2000000 in
theorem lawPicksBack {v : Value} {l : List Int} {n : Int} {t : ByteArray} {w : World} (hv : RInts w v l) (_hn1 : -9223372036854775808 ≤ n) (_hn2 : n ≤ 9223372036854775807) (_ht : t.size ≤ maxLen) :
    Calls Try.prog 10 #[v, .int .i64 n, .string t] w fun e w' => e = .returned (.bool true) ∧ Below w.heap.size w w' := by
  have HM := Lib.hid (fun w h => refmay_any v l n w h)
  have HLT := Lib.hid three13_any
  have HV := Lib.hid hv
  obtain ⟨a, cap, rfl, hc1, hc2⟩ := hv.shape
  clear hv
  by_cases hz0 : 300 < l.length
  · have t1 : decide ((300 : Int) < (l.length : Int)) = true := decide_eq_true (by omega)
    have t1' : decide (300 < l.length) = true := decide_eq_true hz0
    clear hz0
    go_enter Try.func10, Try.ntmps10
    go_wp2_with fail
    refine (HLT.out _).mono ?_
    rintro e w1 ⟨rfl, hb⟩
    go_wp2
    go_ret
    exact ⟨rfl, hb⟩
  have t1 : decide ((300 : Int) < (l.length : Int)) = false := decide_eq_false (by omega)
  have t1' : decide (300 < l.length) = false := decide_eq_false hz0
  by_cases hz2 : 100 < t.size
  · have ht3 : decide (100 < t.size) = true := decide_eq_true (by omega)
    have ht3' : decide ((100 : Int) < (t.size : Int)) = true := decide_eq_true (by omega)
    clear hz2 hz0
    go_enter Try.func10, Try.ntmps10
    go_wp2_with fail
    refine (HLT.out _).mono ?_
    rintro e w1 ⟨rfl, hb⟩
    go_wp2
    go_ret
    exact ⟨rfl, hb⟩
  have ht3 : decide (100 < t.size) = false := decide_eq_false (by omega)
  have ht3' : decide ((100 : Int) < (t.size : Int)) = false := decide_eq_false (by omega)
  cases hm : mayP l n with
  | false =>
    rw [hm] at HM
    clear hm hz2 hz0
    go_enter Try.func10, Try.ntmps10
    go_wp2_with fail
    refine (HM.out _ HV.out).mono ?_
    rintro e w1 ⟨rfl, rfl⟩
    go_wp2_with fail
    refine (HLT.out _).mono ?_
    rintro e w1 ⟨rfl, hb⟩
    go_wp2
    go_ret
    exact ⟨rfl, hb⟩
  | true =>
    obtain ⟨⟨hn2, hn6⟩, hl0, hlm, -⟩ := mayP_iff.1 hm
    obtain ⟨q, rfl⟩ : ∃ q : Nat, n = q := ⟨n.toNat, by omega⟩
    have hbl := bitsP_len hm
    have HVL := Lib.hid (rints_lt HV.out (by omega))
    obtain ⟨M, hM⟩ : ∃ S, t = str S := ⟨_, str_of t⟩
    have HRF := Lib.hid (refP_pad hm M)
    rw [Int.toNat_natCast] at HRF hbl
    have HW := Lib.hid (fun b w1 h hr hz => pwrite_any (fun _ => False) w.heap.size b [] 0 (.slice a l.length cap) l q w1 h (by decide) hr hz hm)
    have HLE := Lib.hid (fun G B b k w h => lwlen_any G B b (bitsP l q) k w h)
    have HPA := Lib.hid (fun G B b k w h => lwpad_any G B b (bitsP l q) k w h (by omega))
    have HT := Lib.hid (fun G B b w h => lwtake_any G B b (padL (bitsP l q)) 0 w h)
    rw [List.drop_zero] at HT
    have hpl := padL_len (bitsP l q)
    have hcat : str (bytesL (padL (bitsP l q))) ++ t = str (bytesL (padL (bitsP l q)) ++ M) := by rw [hM, str_append]
    have hml : M.length ≤ 100 := by have := str_size M; rw [← hM] at this; omega
    have hbz : (bytesL (padL (bitsP l q))).length ≤ 2000 := by rw [bytesL_len]; omega
    obtain ⟨N, hN⟩ : ∃ z, (bitsP l q).length = z := ⟨_, rfl⟩
    rw [hN] at HRF HLE hbl
    obtain ⟨A, hA⟩ : ∃ z, bitsP l q = z := ⟨_, rfl⟩
    rw [hA] at HRF HW HLE HPA HT hcat hbz
    rw [List.nil_append] at HW
    obtain ⟨PA, hPA⟩ : ∃ z, padL A = z := ⟨_, rfl⟩
    rw [hPA] at HRF HPA HT hcat hbz
    obtain ⟨S, hS⟩ : ∃ z, bytesL PA ++ M = z := ⟨_, rfl⟩
    have hSl : S.length ≤ 2500 := by rw [← hS, List.length_append]; omega
    rw [hS] at HRF hcat
    have hdat : (str S).data.toList = S := rfl
    have hssz : (str S).size ≤ 1000000 := by rw [str_size]; omega
    have HN := Lib.hid (fun w => rnew_any (str S) w hssz)
    rw [hdat] at HN
    obtain ⟨p, hp⟩ : ∃ z, str (bytesL PA) = z := ⟨_, rfl⟩
    have hpz : p.size ≤ 2000 := by rw [← hp, str_size]; exact hbz
    rw [hp] at HT hcat
    obtain ⟨ps, hps⟩ : ∃ z, str S = z := ⟨_, rfl⟩
    rw [hps] at hcat HN
    have HRD := Lib.hid (fun r w h => pread_any r S 0 0 w h)
    rw [HRF.out] at HRD
    have htz : t.size ≤ 100 := by omega
    rw [hm] at HM
    clear hm hM hn2 hn6 hl0 hlm hbl hpl hml hbz hN hA hPA hS hSl hdat hssz hp hps hz2 hz0 HRF
    go_enter Try.func10, Try.ntmps10
    go_wp2_with fail
    refine (HM.out _ HV.out).mono ?_
    rintro e w1 ⟨rfl, rfl⟩
    clear HM
    go_wp2_with fail
    refine (lwnew_any w (fun _ => False) w.heap.size (Nat.le_refl _) (nog w)).mono ?_
    rintro e w1 ⟨b, rfl, -, hw1, hb1⟩
    have HW1 := Lib.hid hw1
    have HB1 := Lib.hid hb1
    clear hw1 hb1
    go_wp2_with fail
    refine (HW.out _ _ HW1.out (HV.out.below HB1.out) (fun g hg hz => by have := HVL.out g hg; have := hz.1; omega)).mono ?_
    rintro e w2 ⟨rfl, hw2, hk2⟩
    have HW2 := Lib.hid hw2
    have HB2 := Lib.hid (HB1.out.trans (zone_below hk2 HB1.out.size))
    clear HW hw2 hk2 HW1 HB1
    go_wp2_with fail
    refine (HLE.out _ _ _ _ _ HW2.out).mono ?_
    rintro e w3 ⟨rfl, rfl⟩
    clear HLE
    go_wp2_with fail
    refine (HPA.out _ _ _ _ _ HW2.out).mono ?_
    rintro e w3 ⟨rfl, hw3, hk3⟩
    have HW3 := Lib.hid hw3
    have HB3 := Lib.hid (HB2.out.trans (zone_below hk3 HB2.out.size))
    clear HPA hw3 hk3 HW2 HB2
    go_wp2_with fail
    refine (HT.out _ _ _ _ HW3.out).mono ?_
    rintro e w4 ⟨rfl, hw4, hk4⟩
    have HB4 := Lib.hid (HB3.out.trans (zone_below hk4 HB3.out.size))
    clear HT hw4 hk4 HW3 HB3
    go_wp2_with fail
    refine (HN.out _).mono ?_
    rintro e w5 ⟨r, rfl, hr, hrd, hb5⟩
    have HRL := Lib.hid (show w.heap.size ≤ r by have := HB4.out.size; omega)
    have HB5 := Lib.hid (HB4.out.trans (below_of hb5 HB4.out.size))
    have HR5 := Lib.hid hrd
    clear HN hr hrd hb5 HB4 hcat
    go_wp2_with fail
    refine (HRD.out _ _ HR5.out).mono ?_
    rintro e w6 ⟨v6, rfl, hv6, -, hd6⟩
    obtain ⟨a6, c6, rfl, -, -⟩ := hv6.shape
    have HB6 := Lib.hid (HB5.out.trans (hd6.2.below (B := w.heap.size) HB5.out.size (fun j hj e => by have h : j = r := e; have := HRL.out; omega)))
    have HIN := Lib.hid (ints_same _ _ l w6 (HV.out.below HB6.out) hv6)
    have HRR := Lib.hid hd6.1
    rw [Nat.zero_add] at HRR
    clear HRD hv6 hd6 HB5 HR5
    go_wp2_with fail
    refine HIN.out.mono ?_
    rintro e w7 ⟨rfl, hd⟩
    have hq := below_drawn hd
    have HB7 := Lib.hid (HB6.out.trans (below_of hq HB6.out.size))
    have HAT := Lib.hid (rat_any r S 0 N w7 (HRR.out.below hq))
    clear HIN hd hq HB6 HRR
    go_wp2_with fail
    refine HAT.out.mono ?_
    rintro e w8 ⟨rfl, rfl⟩
    clear HAT
    go_wp2_with fail
    refine (HLT.out _).mono ?_
    rintro e w9 ⟨rfl, hb⟩
    have HB9 := Lib.hid (HB7.out.trans (below_of hb HB7.out.size))
    clear hb
    go_wp2
    go_ret
    exact ⟨rfl, HB9.out⟩
end Go.Proofs.Ytoebnibhkdidhaa

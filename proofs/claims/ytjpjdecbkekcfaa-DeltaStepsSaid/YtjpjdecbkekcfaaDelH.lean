/- Package delta: three; the laws DeltaNil, DeltaWrites, DeltaBack, DeltaReads. -/
import Derived.Test.YtjpjdecbkekcfaaDelG
namespace Go.Proofs.Ytjpjdecbkekcfaa
open Go.RowKit

theorem below_drew1 (w : World) : Below w.heap.size w w.drew := below_drawn ⟨1, rfl⟩
theorem size11_any (n : Int) (w : World) : Calls Try.prog 38 #[.int .i64 n] w fun e w' => e = .returned (.bool (sizD n)) ∧ w = w' := by
  unfold sizD
  by_cases h1 : 3 ≤ n
  · have d1 : decide (3 ≤ n) = true := decide_eq_true h1
    rw [d1, Bool.true_and]
    cases d2 : decide (n ≤ 258) with
    | true =>
      clear h1
      go_enter Try.func38, Try.ntmps38
      go_wp2
      go_ret
      exact ⟨rfl, rfl⟩
    | false =>
      clear h1
      go_enter Try.func38, Try.ntmps38
      go_wp2
      go_ret
      exact ⟨rfl, rfl⟩
  · have d1 : decide (3 ≤ n) = false := decide_eq_false h1
    rw [d1, Bool.false_and]
    clear h1
    go_enter Try.func38, Try.ntmps38
    go_wp2
    go_ret
    exact ⟨rfl, rfl⟩

theorem rints_lt {w : World} {v : Value} {l : List Int} (h : RInts w v l) (hl : 0 < l.length) : ∀ g, v.ownBlock = some g → g < w.heap.size := by
  obtain ⟨a, cap, rfl, -, -⟩ := h.shape
  obtain ⟨b, off, x, rfl, hb, -⟩ := h.at hl
  intro g hg
  simp [Value.ownBlock] at hg
  omega

set_option maxHeartbeats 1000000 in
theorem three11_any (w : World) : Calls Try.prog 36 #[] w fun e w' => e = .returned (.bool true) ∧ Below w.heap.size w w' := by
  have e1 : padL (bitsD [2, 1, 2]) = [false, false, false, true, false, false, true, true, false, true, false, false, false, false, false, false] := by decide +kernel
  have HE1 := Lib.hid e1
  have HE2 := Lib.hid (show (bytesL [false, false, false, true, false, false, true, true, false, true, false, false, false, false, false, false]).drop 0 = [19, 64] by decide +kernel)
  have HE3 := Lib.hid (show (bitsD [2, 1, 2]).length = 12 by decide +kernel)
  have HE4 := Lib.hid (show refD 3 ((bitsL [19, 64]).drop 0) = ([2, 1, 2], 12, 0) by decide +kernel)
  clear e1
  go_enter Try.func36, Try.ntmps36
  go_wp2_with fail
  refine (lwnew_any w (fun _ => False) w.heap.size (Nat.le_refl _) (nog w)).mono ?_
  rintro e w1 ⟨b, rfl, -, hw1, hb1⟩
  have hal := below_alloc w1 (.cells #[.int .i64 2, .int .i64 1, .int .i64 2] 3 (0, 0))
  have HV := Lib.hid (rints_new w1 [2, 1, 2] 3 3 w1.heap.size _ rfl rfl rfl (by decide) (by decide))
  have HW := Lib.hid (hw1.more (G' := fun j => j = w1.heap.size) hal (fun j hj => .inr (by have h : j = w1.heap.size := hj; simp; omega)))
  have HB := Lib.hid (hb1.trans (below_of hal hb1.size))
  clear hw1 hb1 hal
  have HWR := Lib.hid (dwrite_any _ w.heap.size b [] 0 _ [2, 1, 2] _ HW.out (by decide) HV.out (fun g hg hz => hz.2 (by simp [Value.ownBlock] at hg; exact hg.symm)) (by decide))
  go_wp2_with fail
  refine HWR.out.mono ?_
  rintro e w2 ⟨rfl, hw2, hk2⟩
  rw [List.nil_append] at hw2
  have HW2 := Lib.hid hw2
  have HB2 := Lib.hid (HB.out.trans (zone_below hk2 HB.out.size))
  have HLE := Lib.hid (lwlen_any _ _ b _ 0 w2 hw2)
  rw [HE3.out] at HLE
  clear hw2 hk2 HW HWR HV HB
  go_wp2_with fail
  refine HLE.out.mono ?_
  rintro e w3 ⟨rfl, rfl⟩
  clear HLE
  go_wp2_with fail
  refine (lwpad_any _ _ b _ 0 w2 HW2.out (by rw [HE3.out]; decide)).mono ?_
  rintro e w3 ⟨rfl, hw3, hk3⟩
  rw [HE1.out] at hw3
  have HW3 := Lib.hid hw3
  have HB3 := Lib.hid (HB2.out.trans (zone_below hk3 HB2.out.size))
  have HTK := Lib.hid (lwtake_any _ _ b _ 0 w3 hw3)
  rw [HE2.out] at HTK
  clear hw3 hk3 HW2 HB2
  go_wp2_with fail
  refine HTK.out.mono ?_
  rintro e w4 ⟨rfl, hw4, hk4⟩
  have HB4 := Lib.hid (HB3.out.trans (zone_below hk4 HB3.out.size))
  clear hw4 hk4 HW3 HB3 HTK
  have hstr : str [19, 64] = ⟨#[19, 64]⟩ := rfl
  rw [hstr]
  clear hstr
  have HN := Lib.hid (rnew_any ⟨#[19, 64]⟩ w4 (by decide))
  rw [show (⟨#[19, 64]⟩ : ByteArray).data.toList = [19, 64] from rfl] at HN
  go_wp2_with fail
  refine HN.out.mono ?_
  rintro e w5 ⟨r, rfl, hr, hrd, hb5⟩
  have HRL := Lib.hid (show w.heap.size ≤ r by have := HB4.out.size; omega)
  have HB5 := Lib.hid (HB4.out.trans (below_of hb5 HB4.out.size))
  have HRD := Lib.hid (dread_any r [19, 64] 0 0 3 w5 hrd (by decide))
  rw [HE4.out] at HRD
  clear HN hr hrd hb5 HB4
  go_wp2_with fail
  refine HRD.out.mono ?_
  rintro e w6 ⟨v6, rfl, hv6, -, hd6⟩
  obtain ⟨a6, c6, rfl, -, -⟩ := hv6.shape
  have HB6 := Lib.hid (HB5.out.trans (hd6.2.below (B := w.heap.size) HB5.out.size (fun j hj e => by have h : j = r := e; have := HRL.out; omega)))
  have hal6 := below_alloc w6 (.cells #[.int .i64 2, .int .i64 1, .int .i64 2] 3 (0, 0))
  have HIN := Lib.hid (ints_same _ _ [2, 1, 2] _ (hv6.below hal6) (rints_new w6 [2, 1, 2] 3 3 w6.heap.size _ rfl rfl rfl (by decide) (by decide)))
  have HB7 := Lib.hid (HB6.out.trans (below_of hal6 HB6.out.size))
  clear HRD hv6 hd6 HB5 HB6 hal6
  go_wp2_with fail
  refine HIN.out.mono ?_
  rintro e w7 ⟨rfl, hd⟩
  have HB8 := Lib.hid (HB7.out.trans (below_of (below_drawn hd) HB7.out.size))
  clear HIN hd
  go_wp2
  go_ret
  exact ⟨rfl, HB8.out⟩

set_option maxHeartbeats 1000000 in
theorem lawDeltaNil {v : Value} {l : List Int} {n : Int} {w : World} (hv : RInts w v l) (_h1 : -9223372036854775808 ≤ n) (_h2 : n ≤ 9223372036854775807) :
    Calls Try.prog 11 #[v, .int .i64 n] w fun e w' => e = .returned (.bool true) ∧ Below w.heap.size w w' := by
  clear _h1 _h2
  obtain ⟨a, cap, rfl, -, -⟩ := hv.shape
  clear hv
  go_enter Try.func11, Try.ntmps11
  go_wp2_with fail
  refine (dnew_ok 3 w (by decide)).mono ?_
  rintro e w1 ⟨rfl, h1, hb1⟩
  have HB1 := Lib.hid hb1
  clear h1 hb1
  go_wp2_with fail
  refine (dread_nil n w1).mono ?_
  rintro e w2 ⟨rfl, rfl⟩
  go_wp2_with fail
  refine (dwrite_nil _ w1).mono ?_
  rintro e w2 ⟨rfl, hq⟩
  have HB2 := Lib.hid (below_two HB1.out hq)
  clear hq HB1
  go_wp2_with fail
  refine (rnew_any ⟨#[97]⟩ w2 (by decide)).mono ?_
  rintro e w3 ⟨r, rfl, -, -, hq⟩
  have HB3 := Lib.hid (below_two HB2.out hq)
  clear hq HB2
  go_wp2_with fail
  refine (dStep_nil1 _ w3).mono ?_
  rintro e w4 ⟨rfl, rfl⟩
  go_wp2_with fail
  refine (dStep_nil2 _ w3).mono ?_
  rintro e w4 ⟨rfl, rfl⟩
  go_wp2_with fail
  refine (ddone_nil w3).mono ?_
  rintro e w4 ⟨rfl, hq⟩
  have HB4 := Lib.hid (below_two HB3.out hq)
  clear hq HB3
  go_wp2_with fail
  refine (dlens_nil w4).mono ?_
  rintro e w5 ⟨rfl, rfl⟩
  go_wp2_with fail
  refine (three11_any w4).mono ?_
  rintro e w5 ⟨rfl, hq⟩
  have HB5 := Lib.hid (below_two HB4.out hq)
  clear hq HB4
  go_wp2
  go_ret
  exact ⟨rfl, HB5.out⟩

theorem refD_pad {l : List Int} (h : mayD l = true) (M : List UInt8) : refD l.length ((bitsL (bytesL (padL (bitsD l)) ++ M)).drop 0) = (l, (bitsD l).length, 0) := by
  obtain ⟨m, hm, -⟩ := padL_pre (bitsD l)
  rw [List.drop_zero, bitsL_append, bitsL_pack, hm, List.append_assoc]
  exact refD_bits h _

set_option maxHeartbeats 2000000 in
theorem lawDeltaBack {v : Value} {l : List Int} {t : ByteArray} {w : World} (hv : RInts w v l) (_ht : t.size ≤ maxLen) :
    Calls Try.prog 10 #[v, .string t] w fun e w' => e = .returned (.bool true) ∧ Below w.heap.size w w' := by
  have HM := Lib.hid (fun w h => refmay_any v l w h)
  have HLT := Lib.hid three11_any
  have HV := Lib.hid hv
  obtain ⟨a, cap, rfl, hc1, hc2⟩ := hv.shape
  clear hv
  by_cases hz2 : 100 < t.size
  · have ht3 : decide (100 < t.size) = true := decide_eq_true (by omega)
    have ht3' : decide ((100 : Int) < (t.size : Int)) = true := decide_eq_true (by omega)
    clear hz2
    go_enter Try.func10, Try.ntmps10
    go_wp2_with fail
    refine (HLT.out _).mono ?_
    rintro e w1 ⟨rfl, hb⟩
    go_wp2
    go_ret
    exact ⟨rfl, hb⟩
  have ht3 : decide (100 < t.size) = false := decide_eq_false (by omega)
  have ht3' : decide ((100 : Int) < (t.size : Int)) = false := decide_eq_false (by omega)
  cases hm : mayD l with
  | false =>
    rw [hm] at HM
    clear hm hz2
    go_enter Try.func10, Try.ntmps10
    go_wp2_with fail
    refine (HM.out _ HV.out).mono ?_
    rintro e w1 ⟨rfl, rfl⟩
    go_wp2_with fail
    refine (HLT.out _).mono ?_
    rintro e w1 ⟨rfl, hb⟩
    go_wp2
    go_ret
    exact ⟨rfl, hb⟩
  | true =>
    obtain ⟨⟨hl3, hl4⟩, hal⟩ := mayD_iff.1 hm
    have hbl := bitsD_len hm
    have HVL := Lib.hid (rints_lt HV.out (by omega))
    obtain ⟨M, hM⟩ : ∃ S, t = str S := ⟨_, str_of t⟩
    have HRF := Lib.hid (refD_pad hm M)
    have HW := Lib.hid (fun b w1 h hr hz => dwrite_any (fun _ => False) w.heap.size b [] 0 (.slice a l.length cap) l w1 h (by decide) hr hz hm)
    have HLE := Lib.hid (fun G B b k w h => lwlen_any G B b (bitsD l) k w h)
    have HPA := Lib.hid (fun G B b k w h => lwpad_any G B b (bitsD l) k w h (by omega))
    have HT := Lib.hid (fun G B b w h => lwtake_any G B b (padL (bitsD l)) 0 w h)
    rw [List.drop_zero] at HT
    have hpl := padL_len (bitsD l)
    have hcat : str (bytesL (padL (bitsD l))) ++ t = str (bytesL (padL (bitsD l)) ++ M) := by rw [hM, str_append]
    have hml : M.length ≤ 100 := by have := str_size M; rw [← hM] at this; omega
    have hbz : (bytesL (padL (bitsD l))).length ≤ 1400 := by rw [bytesL_len]; omega
    obtain ⟨N, hN⟩ : ∃ z, (bitsD l).length = z := ⟨_, rfl⟩
    rw [hN] at HRF HLE hbl
    obtain ⟨A, hA⟩ : ∃ z, bitsD l = z := ⟨_, rfl⟩
    rw [hA] at HRF HW HLE HPA HT hcat hbz
    rw [List.nil_append] at HW
    obtain ⟨PA, hPA⟩ : ∃ z, padL A = z := ⟨_, rfl⟩
    rw [hPA] at HRF HPA HT hcat hbz
    obtain ⟨S, hS⟩ : ∃ z, bytesL PA ++ M = z := ⟨_, rfl⟩
    have hSl : S.length ≤ 1500 := by rw [← hS, List.length_append]; omega
    rw [hS] at HRF hcat
    have hdat : (str S).data.toList = S := rfl
    have hssz : (str S).size ≤ 1000000 := by rw [str_size]; omega
    have HN := Lib.hid (fun w => rnew_any (str S) w hssz)
    rw [hdat] at HN
    obtain ⟨p, hp⟩ : ∃ z, str (bytesL PA) = z := ⟨_, rfl⟩
    have hpz : p.size ≤ 1400 := by rw [← hp, str_size]; exact hbz
    rw [hp] at HT hcat
    obtain ⟨ps, hps⟩ : ∃ z, str S = z := ⟨_, rfl⟩
    rw [hps] at hcat HN
    have HRD := Lib.hid (fun r w h => dread_any r S 0 0 l.length w h ⟨hl3, hl4⟩)
    rw [HRF.out] at HRD
    have htz : t.size ≤ 100 := by omega
    have hge : (l.length : Int) + 5 ≤ (N : Int) := by omega
    have hdg : decide ((l.length : Int) + 5 ≤ (N : Int)) = true := decide_eq_true hge
    rw [hm] at HM
    clear hm hal hM hpl hml hbz hN hA hPA hS hSl hdat hssz hp hps hz2 HRF
    go_enter Try.func10, Try.ntmps10
    go_wp2_with fail
    refine (HM.out _ HV.out).mono ?_
    rintro e w1 ⟨rfl, rfl⟩
    clear HM
    go_wp2_with fail
    refine (lwnew_any w (fun _ => False) w.heap.size (Nat.le_refl _) (nog w)).mono ?_
    rintro e w1 ⟨b, rfl, -, hw1, hb1⟩
    have HW1 := Lib.hid hw1
    have HB1 := Lib.hid hb1
    clear hw1 hb1
    go_wp2_with fail
    refine (HW.out _ _ HW1.out (HV.out.below HB1.out) (fun g hg hz => by have := HVL.out g hg; have := hz.1; omega)).mono ?_
    rintro e w2 ⟨rfl, hw2, hk2⟩
    have HW2 := Lib.hid hw2
    have HB2 := Lib.hid (HB1.out.trans (zone_below hk2 HB1.out.size))
    clear HW hw2 hk2 HW1 HB1
    go_wp2_with fail
    refine (HLE.out _ _ _ _ _ HW2.out).mono ?_
    rintro e w3 ⟨rfl, rfl⟩
    clear HLE
    go_wp2_with fail
    refine (HPA.out _ _ _ _ _ HW2.out).mono ?_
    rintro e w3 ⟨rfl, hw3, hk3⟩
    have HW3 := Lib.hid hw3
    have HB3 := Lib.hid (HB2.out.trans (zone_below hk3 HB2.out.size))
    clear HPA hw3 hk3 HW2 HB2
    go_wp2_with fail
    refine (HT.out _ _ _ _ HW3.out).mono ?_
    rintro e w4 ⟨rfl, hw4, hk4⟩
    have HB4 := Lib.hid (HB3.out.trans (zone_below hk4 HB3.out.size))
    clear HT hw4 hk4 HW3 HB3
    go_wp2_with fail
    refine (HN.out _).mono ?_
    rintro e w5 ⟨r, rfl, hr, hrd, hb5⟩
    have HRL := Lib.hid (show w.heap.size ≤ r by have := HB4.out.size; omega)
    have HB5 := Lib.hid (HB4.out.trans (below_of hb5 HB4.out.size))
    have HR5 := Lib.hid hrd
    clear HN hr hrd hb5 HB4 hcat
    go_wp2_with fail
    refine (HRD.out _ _ HR5.out).mono ?_
    rintro e w6 ⟨v6, rfl, hv6, -, hd6⟩
    obtain ⟨a6, c6, rfl, -, -⟩ := hv6.shape
    have HB6 := Lib.hid (HB5.out.trans (hd6.2.below (B := w.heap.size) HB5.out.size (fun j hj e => by have h : j = r := e; have := HRL.out; omega)))
    have HIN := Lib.hid (ints_same _ _ l w6 (HV.out.below HB6.out) hv6)
    have HRR := Lib.hid hd6.1
    rw [Nat.zero_add] at HRR
    clear HRD hv6 hd6 HB5 HR5
    go_wp2_with fail
    refine HIN.out.mono ?_
    rintro e w7 ⟨rfl, hd⟩
    have hq := below_drawn hd
    have HB7 := Lib.hid (HB6.out.trans (below_of hq HB6.out.size))
    have HAT := Lib.hid (rat_any r S 0 N w7 (HRR.out.below hq))
    clear HIN hd hq HB6 HRR
    go_wp2_with fail
    refine HAT.out.mono ?_
    rintro e w8 ⟨rfl, rfl⟩
    clear HAT
    go_wp2_with fail
    refine (HLT.out _).mono ?_
    rintro e w9 ⟨rfl, hb⟩
    have HB9 := Lib.hid (HB7.out.trans (below_of hb HB7.out.size))
    clear hb
    go_wp2
    go_ret
    exact ⟨rfl, HB9.out⟩
end Go.Proofs.Ytjpjdecbkekcfaa

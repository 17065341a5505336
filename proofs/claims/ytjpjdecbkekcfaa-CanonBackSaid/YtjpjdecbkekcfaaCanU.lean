/- Package canon: three; the law CanonNil. -/
import Derived.Test.YtjpjdecbkekcfaaCanP
import Derived.Test.YtjpjdecbkekcfaaCanS
namespace Go.Proofs.Ytjpjdecbkekcfaa
open Go.RowKit

set_option maxHeartbeats 1000000 in
theorem three_any (w : World) : Calls Try.prog 14 #[] w fun e w' => e = .returned (.bool true) ∧ Below w.heap.size w w' := by
  have HV := Lib.hid (rints_new w [2, 1, 2] 3 3 w.heap.size _ rfl rfl rfl (by decide) (by decide))
  have hal := below_alloc w (.cells #[.int .i64 2, .int .i64 1, .int .i64 2] 3 (0, 0))
  have HN := Lib.hid (cnew_any _ [2, 1, 2] _ HV.out (by decide) (by decide +kernel))
  have HC3 := Lib.hid (show codeC [2, 1, 2] 2 = 3 by decide +kernel)
  have HWH := Lib.hid (show wholeC [2, 1, 2] = true by decide +kernel)
  have HB0 := Lib.hid hal
  clear hal
  go_enter Try.func14, Try.ntmps14
  go_wp2_with fail
  refine HN.out.mono ?_
  rintro e w1 ⟨p, rfl, -, hc1, hb1⟩
  have HB1 := Lib.hid (below_two HB0.out hb1)
  have HO := Lib.hid (cof_any p [2, 1, 2] 2 2 w1 hc1 rfl)
  rw [HC3.out] at HO
  have HC1 := Lib.hid hc1
  clear hb1 hc1 HN HV HB0
  go_wp2_with fail
  refine HO.out.mono ?_
  rintro e w2 ⟨rfl, hb2⟩
  have HB2 := Lib.hid (below_two HB1.out hb2)
  have hal := below_alloc w2 (.cells #[.int .i64 2, .int .i64 2, .int .i64 2] 3 (0, 0))
  have HC2 := Lib.hid ((HC1.out.below hb2).below hal)
  have HN := Lib.hid (cnew_no _ [2, 2, 2] _ (rints_new w2 [2, 2, 2] 3 3 w2.heap.size _ rfl rfl rfl (by decide) (by decide)) (by decide) (by decide +kernel))
  have HB3 := Lib.hid (below_two HB2.out hal)
  clear hb2 hal HB1 HC1 HO HB2
  go_wp2_with fail
  refine HN.out.mono ?_
  rintro e w3 ⟨rfl, hb3⟩
  have hal := below_alloc w3 (.cells #[.int .i64 1, .int .i64 1, .int .i64 1] 3 (0, 0))
  have HC4 := Lib.hid ((HC2.out.below hb3).below hal)
  have HN2 := Lib.hid (cnew_no _ [1, 1, 1] _ (rints_new w3 [1, 1, 1] 3 3 w3.heap.size _ rfl rfl rfl (by decide) (by decide)) (by decide) (by decide +kernel))
  have HB4 := Lib.hid (below_two (below_two HB3.out hb3) hal)
  clear hb3 hal HC2 HN HB3
  go_wp2_with fail
  refine HN2.out.mono ?_
  rintro e w4 ⟨rfl, hb4⟩
  have HB5 := Lib.hid (below_two HB4.out hb4)
  have HC5 := Lib.hid (HC4.out.below hb4)
  have HR := Lib.hid (rnew_any ⟨#[176]⟩ w4 (by decide))
  rw [show (⟨#[176]⟩ : ByteArray).data.toList = [176] from rfl] at HR
  clear hb4 HC4 HN2 HB4
  go_wp2_with fail
  refine HR.out.mono ?_
  rintro e w5 ⟨r, rfl, hr, hrd, hb5⟩
  have HB6 := Lib.hid (below_two HB5.out hb5)
  have HG := Lib.hid (cget_any w4 p r [2, 1, 2] [176] 0 0 w5 HWH.out (by decide) HC5.out hb5 (by rw [hr]; exact Nat.le_refl _) hrd)
  have HC6 := Lib.hid (HC5.out.below hb5)
  have HRL := Lib.hid hr
  have HB45 := Lib.hid hb5
  clear hr hrd hb5 HR
  go_wp2_with fail
  refine HG.out.mono ?_
  rintro e w6 (⟨s, hs, hbg, rfl, hd⟩ | ⟨hno, rfl, -⟩)
  · have h0 : s = 0 := begins_one HWH.out hs (by decide) hbg (show begB ((bitsL [176]).drop 0) (cwC [2, 1, 2] 0) = true by decide +kernel)
    subst h0
    have hb := HB6.out.trans (hd.2.below (B := w.heap.size) HB6.out.size (fun j hj e => by have h : j = r := e; have := HRL.out; have := HB5.out.size; omega))
    have HB7 := Lib.hid hb
    have HC7 := Lib.hid (HC5.out.below (RDid.bel HB45.out hd (by rw [HRL.out]; exact Nat.le_refl _) HB45.out.size))
    have HSZ := Lib.hid (csize_any p [2, 1, 2] w6 HC7.out)
    clear hd hb hbg
    go_wp2_with fail
    refine HSZ.out.mono ?_
    rintro e w7 ⟨rfl, rfl⟩
    go_wp2
    go_ret
    exact ⟨rfl, HB7.out⟩
  · exact absurd (hno 0 (by decide)) (by decide +kernel)

set_option maxHeartbeats 1000000 in
theorem lawCanonNil {n : Int} {w : World} (_h1 : -9223372036854775808 ≤ n) (_h2 : n ≤ 9223372036854775807) :
    Calls Try.prog 6 #[.int .i64 n] w fun e w' => e = .returned (.bool true) ∧ Below w.heap.size w w' := by
  clear _h1 _h2
  have HV := Lib.hid (rints_new w [2, 1, 2] 3 3 w.heap.size _ rfl rfl rfl (by decide) (by decide))
  have hal := below_alloc w (.cells #[.int .i64 2, .int .i64 1, .int .i64 2] 3 (0, 0))
  have HN := Lib.hid (cnew_any _ [2, 1, 2] _ HV.out (by decide) (by decide +kernel))
  have HB0 := Lib.hid hal
  have HRN := Lib.hid (fun w => rnew_any ⟨#[97]⟩ w (by decide))
  have HWN := Lib.hid (fun w => lwnew_any w (fun _ => False) w.heap.size (Nat.le_refl _) (fun _ h => h.elim))
  clear hal
  go_enter Try.func6, Try.ntmps6
  go_wp2_with fail
  refine HN.out.mono ?_
  rintro e w1 ⟨p, rfl, -, hc1, hb1⟩
  have HB1 := Lib.hid (below_two HB0.out hb1)
  clear hb1 hc1 HN HV HB0
  go_wp2_with fail
  refine (cof_nil n w1).mono ?_
  rintro e w2 ⟨rfl, rfl⟩
  go_wp2_with fail
  refine (HRN.out w1).mono ?_
  rintro e w2 ⟨r, rfl, -, -, hb⟩
  have HB2 := Lib.hid (below_two HB1.out hb)
  clear hb HB1
  go_wp2_with fail
  refine (cget_nil1 _ w2).mono ?_
  rintro e w3 ⟨rfl, rfl⟩
  go_wp2_with fail
  refine (cget_nil2 _ w2).mono ?_
  rintro e w3 ⟨rfl, rfl⟩
  go_wp2_with fail
  refine (csize_nil w2).mono ?_
  rintro e w3 ⟨rfl, rfl⟩
  go_wp2_with fail
  refine (HWN.out w2).mono ?_
  rintro e w3 ⟨b, rfl, -, -, hb⟩
  have HB3 := Lib.hid (below_two HB2.out hb)
  clear hb HB2
  go_wp2_with fail
  refine (cput_nil1 _ n w3).mono ?_
  rintro e w4 ⟨rfl, rfl⟩
  go_wp2_with fail
  refine (cput_nil _ 0 w3).mono ?_
  rintro e w4 ⟨rfl, rfl⟩
  go_wp2_with fail
  refine (three_any w3).mono ?_
  rintro e w4 ⟨rfl, hb⟩
  have HB4 := Lib.hid (below_two HB3.out hb)
  clear hb HB3
  go_wp2
  go_ret
  exact ⟨rfl, HB4.out⟩
end Go.Proofs.Ytjpjdecbkekcfaa

/- Package canon: the law CanonCodes. -/
import Derived.Test.YtjpjdecbkekcfaaCanU
import Derived.Test.YtjpjdecbkekcfaaCanT
namespace Go.Proofs.Ytjpjdecbkekcfaa
open Go.RowKit

set_option maxHeartbeats 2000000 in
set_option maxRecDepth 100000 in
theorem lawCanonCodes {v : Value} {l : List Int} {n : Int} {w : World} (hv : RInts w v l) (_h1 : -9223372036854775808 ≤ n) (_h2 : n ≤ 9223372036854775807) :
    Calls Try.prog 3 #[v, .int .i64 n] w fun e w' => e = .returned (.bool true) ∧ Below w.heap.size w w' := by
  clear _h1 _h2
  have HLT := Lib.hid three_any
  have HSZ := Lib.hid (fun w h => size10_any v l w h)
  have HV := Lib.hid hv
  obtain ⟨a, cap, rfl, hc1, hc2⟩ := hv.shape
  by_cases c0 : 40 < l.length ∧ l.length ≤ 258
  · have t1 : decide ((40 : Int) < (l.length : Int)) = true := decide_eq_true (by omega)
    have t1' : decide (40 < l.length) = true := decide_eq_true c0.1
    have t2 : decide ((l.length : Int) ≤ (258 : Int)) = true := decide_eq_true (by omega)
    have t2' : decide (l.length ≤ 258) = true := decide_eq_true c0.2
    clear c0 hv
    go_enter Try.func3, Try.ntmps3
    go_wp2_with fail
    refine (HLT.out _).mono ?_
    rintro e w1 ⟨rfl, hb⟩
    go_wp2
    go_ret
    exact ⟨rfl, hb⟩
  cases hs : sizC l with
  | false =>
    have HN := Lib.hid (cnew_size _ l w hv hs)
    rw [hs] at HSZ
    by_cases h40 : 40 < l.length
    · have t1 : decide ((40 : Int) < (l.length : Int)) = true := decide_eq_true (by omega)
      have t1' : decide (40 < l.length) = true := decide_eq_true h40
      have t2 : decide ((l.length : Int) ≤ (258 : Int)) = false := decide_eq_false (by omega)
      have t2' : decide (l.length ≤ 258) = false := decide_eq_false (by omega)
      clear c0 hv hs h40
      go_enter Try.func3, Try.ntmps3
      go_wp2_with fail
      refine HN.out.mono ?_
      rintro e w1 ⟨rfl, rfl⟩
      go_wp2_with fail
      refine (HSZ.out w HV.out).mono ?_
      rintro e w1 ⟨rfl, rfl⟩
      go_wp2_with fail
      refine (HLT.out _).mono ?_
      rintro e w1 ⟨rfl, hb⟩
      go_wp2
      go_ret
      exact ⟨rfl, hb⟩
    · have t1 : decide ((40 : Int) < (l.length : Int)) = false := decide_eq_false (by omega)
      have t1' : decide (40 < l.length) = false := decide_eq_false h40
      clear c0 hv hs h40
      go_enter Try.func3, Try.ntmps3
      go_wp2_with fail
      refine HN.out.mono ?_
      rintro e w1 ⟨rfl, rfl⟩
      go_wp2_with fail
      refine (HSZ.out w HV.out).mono ?_
      rintro e w1 ⟨rfl, rfl⟩
      go_wp2_with fail
      refine (HLT.out _).mono ?_
      rintro e w1 ⟨rfl, hb⟩
      go_wp2
      go_ret
      exact ⟨rfl, hb⟩
  | true =>
    obtain ⟨h3, h258⟩ := sizC_iff.1 hs
    have h40 : l.length ≤ 40 := by omega
    have t1 : decide ((40 : Int) < (l.length : Int)) = false := decide_eq_false (by omega)
    have t1' : decide (40 < l.length) = false := decide_eq_false (by omega)
    rw [hs] at HSZ
    have HWH := Lib.hid (fun w h => refwhole_any (.slice a l.length cap) l w h (by omega))
    cases hwh : wholeC l with
    | false =>
      rw [hwh] at HWH
      have HN := Lib.hid (cnew_no _ l w hv hs hwh)
      clear c0 hv hs hwh h3 h258 h40
      go_enter Try.func3, Try.ntmps3
      go_wp2_with fail
      refine HN.out.mono ?_
      rintro e w1 ⟨rfl, hb⟩
      have HB := Lib.hid hb
      have HV1 := Lib.hid (HV.out.below hb)
      clear hb
      go_wp2_with fail
      refine (HSZ.out w1 HV1.out).mono ?_
      rintro e w2 ⟨rfl, rfl⟩
      go_wp2_with fail
      refine (HWH.out w1 HV1.out).mono ?_
      rintro e w2 ⟨rfl, rfl⟩
      go_wp2_with fail
      refine (HLT.out _).mono ?_
      rintro e w2 ⟨rfl, hb⟩
      have HB2 := Lib.hid (below_two HB.out hb)
      clear hb
      go_wp2
      go_ret
      exact ⟨rfl, HB2.out⟩
    | true =>
      rw [hwh] at HWH
      have HN := Lib.hid (cnew_any _ l w hv hs hwh)
      have HRC := Lib.hid (fun w h => refcodes_any (.slice a l.length cap) l w h hwh (by omega))
      have HCS := Lib.hid (fun p w h => csize_any p l w h)
      by_cases hout : n < 0 ∨ (l.length : Int) ≤ n
      · have HO := Lib.hid (fun p w h => cof_out p l n w h hout)
        by_cases h0 : n < 0
        · have d0 : decide (n < 0) = true := decide_eq_true h0
          clear c0 hv hs hwh h3 h258 h40 hout h0
          go_enter Try.func3, Try.ntmps3
          go_wp2_with fail
          refine HN.out.mono ?_
          rintro e w1 ⟨p, rfl, -, hc, hb⟩
          have HB := Lib.hid hb
          have HC := Lib.hid hc
          have HV1 := Lib.hid (HV.out.below hb)
          clear hb hc
          go_wp2_with fail
          refine (HSZ.out w1 HV1.out).mono ?_
          rintro e w2 ⟨rfl, rfl⟩
          go_wp2_with fail
          refine (HWH.out w1 HV1.out).mono ?_
          rintro e w2 ⟨rfl, rfl⟩
          go_wp2_with fail
          refine (HO.out p w1 HC.out).mono ?_
          rintro e w2 ⟨rfl, rfl⟩
          go_wp2_with fail
          refine (HCS.out p w1 HC.out).mono ?_
          rintro e w2 ⟨rfl, rfl⟩
          go_wp2_with fail
          refine (HLT.out _).mono ?_
          rintro e w2 ⟨rfl, hb⟩
          have HB2 := Lib.hid (below_two HB.out hb)
          clear hb
          go_wp2
          go_ret
          exact ⟨rfl, HB2.out⟩
        · have d0 : decide (n < 0) = false := decide_eq_false h0
          have d1 : decide ((l.length : Int) ≤ n) = true := decide_eq_true (hout.elim (fun h => absurd h h0) id)
          clear c0 hv hs hwh h3 h258 h40 hout h0
          go_enter Try.func3, Try.ntmps3
          go_wp2_with fail
          refine HN.out.mono ?_
          rintro e w1 ⟨p, rfl, -, hc, hb⟩
          have HB := Lib.hid hb
          have HC := Lib.hid hc
          have HV1 := Lib.hid (HV.out.below hb)
          clear hb hc
          go_wp2_with fail
          refine (HSZ.out w1 HV1.out).mono ?_
          rintro e w2 ⟨rfl, rfl⟩
          go_wp2_with fail
          refine (HWH.out w1 HV1.out).mono ?_
          rintro e w2 ⟨rfl, rfl⟩
          go_wp2_with fail
          refine (HO.out p w1 HC.out).mono ?_
          rintro e w2 ⟨rfl, rfl⟩
          go_wp2_with fail
          refine (HCS.out p w1 HC.out).mono ?_
          rintro e w2 ⟨rfl, rfl⟩
          go_wp2_with fail
          refine (HLT.out _).mono ?_
          rintro e w2 ⟨rfl, hb⟩
          have HB2 := Lib.hid (below_two HB.out hb)
          clear hb
          go_wp2
          go_ret
          exact ⟨rfl, HB2.out⟩
      · obtain ⟨s, rfl⟩ : ∃ s : Nat, n = s := ⟨n.toNat, by omega⟩
        have hlt : s < l.length := by omega
        have hlti : (s : Int) < (l.length : Int) := by omega
        have hs0 : (0 : Int) ≤ (s : Int) := by omega
        have d0 : decide ((s : Int) < 0) = false := decide_eq_false (by omega)
        have d1 : decide ((l.length : Int) ≤ (s : Int)) = false := decide_eq_false (by omega)
        have d1' : decide (l.length ≤ s) = false := decide_eq_false (by omega)
        have hx : l[s]? = some l[s] := List.getElem?_eq_getElem hlt
        obtain ⟨m, hm, hm20⟩ := whole_at hwh hx
        rw [hm] at hx
        have HO := Lib.hid (fun p w h => cof_any p l s _ w h hx)
        have HX := Lib.hid hx
        have hcb : codeC l s < 4294967296 := by
          have h1 := nowC_lt hwh hm20 hx
          rw [codeC_of hx]
          have h2 : (2 : Nat) ^ (m + 1) ≤ 2 ^ 20 := Nat.pow_le_pow_right (by decide) hm20
          have h3 : (2 : Nat) ^ 20 = 1048576 := rfl
          omega
        have HF := Lib.hid (fun w => field_any (codeC l s) ((m + 1 : Nat) : Int) w hcb (by omega))
        have hcw : stx (cwC l s) = stx (fieldL (codeC l s) ((m + 1 : Nat) : Int).toNat) := by rw [cwC_of hx, codeC_of hx, Int.toNat_natCast]
        rw [← hcw] at HF
        obtain ⟨C, hC⟩ : ∃ z, stx (cwC l s) = z := ⟨_, rfl⟩
        have HCC := Lib.hid hC
        rw [hC] at HF
        obtain ⟨x, hxx⟩ : ∃ z, ((m + 1 : Nat) : Int) = z := ⟨_, rfl⟩
        rw [hxx] at HO HF HX
        obtain ⟨q, hq⟩ : ∃ z, codeC l s = z := ⟨_, rfl⟩
        rw [hq] at HO HF
        clear c0 hv hs hwh h3 h258 h40 hout hm hm20 hx hcb hcw hC hxx hq
        go_enter Try.func3, Try.ntmps3
        go_wp2_with fail
        refine HN.out.mono ?_
        rintro e w1 ⟨p, rfl, -, hc, hb⟩
        have HB := Lib.hid hb
        have HC := Lib.hid hc
        have HV1 := Lib.hid (HV.out.below hb)
        clear hb hc
        go_wp2_with fail
        refine (HSZ.out w1 HV1.out).mono ?_
        rintro e w2 ⟨rfl, rfl⟩
        go_wp2_with fail
        refine (HWH.out w1 HV1.out).mono ?_
        rintro e w2 ⟨rfl, rfl⟩
        go_wp2_with fail
        refine (HO.out p w1 HC.out).mono ?_
        rintro e w2 ⟨rfl, hb⟩
        have HB2 := Lib.hid (below_two HB.out hb)
        have HC2 := Lib.hid (HC.out.below hb)
        have HV2 := Lib.hid (HV1.out.below hb)
        clear hb HB HC HV1
        go_wp2_with fail
        refine (HCS.out p w2 HC2.out).mono ?_
        rintro e w3 ⟨rfl, rfl⟩
        go_wp2_with fail
        refine (HF.out w2).mono ?_
        rintro e w3 ⟨rfl, rfl⟩
        go_wp2_with fail
        refine (HRC.out w2 HV2.out).mono ?_
        rintro e w3 ⟨g, rfl, -, hg, hb⟩
        have HB3 := Lib.hid (below_two HB2.out hb)
        have c1 := hg.cell (i := s) (x := .string C) (by rw [List.getElem?_map, List.getElem?_range hlt, ← HCC.out]; rfl)
        obtain ⟨bp, offp, x', rfl, -, hx', hcx, -, -⟩ := (HV2.out.below hb).at hlt
        obtain rfl : x = x' := by have h := HX.out; rw [h] at hx'; exact Option.some.inj hx'
        clear hb HB2 HC2 HV2 hg hx'
        go_wp2_with fail
        refine (HLT.out _).mono ?_
        rintro e w4 ⟨rfl, hb⟩
        have HB4 := Lib.hid (below_two HB3.out hb)
        clear hb HB3
        go_wp2
        go_ret
        exact ⟨rfl, HB4.out⟩
end Go.Proofs.Ytjpjdecbkekcfaa

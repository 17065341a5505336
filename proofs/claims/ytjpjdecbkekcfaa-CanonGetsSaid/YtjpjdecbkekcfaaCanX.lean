/- Package canon: the law CanonGets. -/
import Derived.Test.YtjpjdecbkekcfaaCanU
import Derived.Test.YtjpjdecbkekcfaaCanT
namespace Go.Proofs.Ytjpjdecbkekcfaa
open Go.RowKit

theorem cwC_le2 {l : List Int} (hw : wholeC l = true) {s : Nat} (hs : s < l.length) : 1 ≤ (cwC l s).length ∧ (cwC l s).length ≤ 20 := by
  have h1 : l[s]? = some l[s] := List.getElem?_eq_getElem hs
  obtain ⟨n, h2, h3⟩ := whole_at hw h1
  rw [cwC_len, getD_of h1, h2, Int.toNat_natCast]
  omega

set_option maxHeartbeats 4000000 in
set_option maxRecDepth 100000 in
theorem lawCanonGets {v : Value} {l : List Int} {s : ByteArray} {a : Int} {w : World} (hv : RInts w v l) (_hs : s.size ≤ maxLen) (_ha1 : -9223372036854775808 ≤ a) (_ha2 : a ≤ 9223372036854775807) :
    Calls Try.prog 4 #[v, .string s, .int .i64 a] w fun e w' => e = .returned (.bool true) ∧ Below w.heap.size w w' := by
  have HLT := Lib.hid three_any
  have HSZ := Lib.hid (size10_any v l w hv)
  have HV := Lib.hid hv
  obtain ⟨av, cap, rfl, hc1, hc2⟩ := hv.shape
  by_cases h40 : 40 < l.length
  · have t1 : decide ((40 : Int) < (l.length : Int)) = true := decide_eq_true (by omega)
    have t1' : decide (40 < l.length) = true := decide_eq_true h40
    clear h40 hv _hs _ha1 _ha2
    go_enter Try.func4, Try.ntmps4
    go_wp2_with fail
    refine (HLT.out _).mono ?_
    rintro e w1 ⟨rfl, hb⟩
    go_wp2
    go_ret
    exact ⟨rfl, hb⟩
  have t1 : decide ((40 : Int) < (l.length : Int)) = false := decide_eq_false (by omega)
  have t1' : decide (40 < l.length) = false := decide_eq_false h40
  by_cases h60 : 30 < s.size
  · have t2 : decide ((30 : Int) < (s.size : Int)) = true := decide_eq_true (by omega)
    have t2' : decide (30 < s.size) = true := decide_eq_true h60
    clear h40 h60 hv _hs _ha1 _ha2
    go_enter Try.func4, Try.ntmps4
    go_wp2_with fail
    refine (HLT.out _).mono ?_
    rintro e w1 ⟨rfl, hb⟩
    go_wp2
    go_ret
    exact ⟨rfl, hb⟩
  have t2 : decide ((30 : Int) < (s.size : Int)) = false := decide_eq_false (by omega)
  have t2' : decide (30 < s.size) = false := decide_eq_false h60
  cases hs : sizC l with
  | false =>
    rw [hs] at HSZ
    clear h40 h60 hv hs _hs _ha1 _ha2
    go_enter Try.func4, Try.ntmps4
    go_wp2_with fail
    refine HSZ.out.mono ?_
    rintro e w1 ⟨rfl, rfl⟩
    go_wp2_with fail
    refine (HLT.out _).mono ?_
    rintro e w1 ⟨rfl, hb⟩
    go_wp2
    go_ret
    exact ⟨rfl, hb⟩
  | true =>
    rw [hs] at HSZ
    have HWH := Lib.hid (refwhole_any (.slice av l.length cap) l w hv (by omega))
    cases hwh : wholeC l with
    | false =>
      rw [hwh] at HWH
      clear h40 h60 hv hs hwh _hs _ha1 _ha2
      go_enter Try.func4, Try.ntmps4
      go_wp2_with fail
      refine HSZ.out.mono ?_
      rintro e w1 ⟨rfl, rfl⟩
      go_wp2_with fail
      refine HWH.out.mono ?_
      rintro e w1 ⟨rfl, rfl⟩
      go_wp2_with fail
      refine (HLT.out _).mono ?_
      rintro e w1 ⟨rfl, hb⟩
      go_wp2
      go_ret
      exact ⟨rfl, hb⟩
    | true =>
      rw [hwh] at HWH
      have e8 : IntKind.i64.wrap (8 * (s.size : Int)) = 8 * (s.size : Int) := IntWalk.i64_in _ (by omega)
      by_cases ha : a < 0
      · have t3 : decide (a < 0) = true := decide_eq_true ha
        clear h40 h60 hv hs hwh _hs _ha1 _ha2 ha
        go_enter Try.func4, Try.ntmps4
        go_wp2_with fail
        refine HSZ.out.mono ?_
        rintro e w1 ⟨rfl, rfl⟩
        go_wp2_with fail
        refine HWH.out.mono ?_
        rintro e w1 ⟨rfl, rfl⟩
        go_wp2_with fail
        refine (HLT.out _).mono ?_
        rintro e w1 ⟨rfl, hb⟩
        go_wp2
        go_ret
        exact ⟨rfl, hb⟩
      have t3 : decide (a < 0) = false := decide_eq_false ha
      by_cases hb8 : 8 * (s.size : Int) < a
      · have t4 : decide (8 * (s.size : Int) < a) = true := decide_eq_true hb8
        clear h40 h60 hv hs hwh _hs _ha1 _ha2 ha hb8
        go_enter Try.func4, Try.ntmps4
        go_wp2_with fail
        refine HSZ.out.mono ?_
        rintro e w1 ⟨rfl, rfl⟩
        go_wp2_with fail
        refine HWH.out.mono ?_
        rintro e w1 ⟨rfl, rfl⟩
        go_wp2_with fail
        refine (HLT.out _).mono ?_
        rintro e w1 ⟨rfl, hb⟩
        go_wp2
        go_ret
        exact ⟨rfl, hb⟩
      have t4 : decide (8 * (s.size : Int) < a) = false := decide_eq_false hb8
      have HW := Lib.hid hwh
      have HN := Lib.hid (cnew_any _ l w hv hs hwh)
      have HRC := Lib.hid (fun w h => refcodes_any (.slice av l.length cap) l w h hwh (by omega))
      obtain ⟨c, rfl⟩ : ∃ c : Nat, a = c := ⟨a.toNat, by omega⟩
      obtain ⟨S, hS⟩ : ∃ S, s = str S := ⟨_, str_of s⟩
      have hsz : s.size = S.length := by rw [hS, str_size]
      have hdat : s.data.toList = S := by rw [hS]; rfl
      have HNR := Lib.hid (fun w => rnew_any s w (by omega))
      rw [hdat] at HNR
      have hcl : c ≤ 8 * S.length := by omega
      have hSl : S.length ≤ 30 := by omega
      have HSK := Lib.hid (fun r w h => rseek_ok r S 0 0 c w h (by omega) hcl)
      have HRB := Lib.hid (fun w => refbits_any s S w hS (by omega))
      have hbl : (bitsL S).length = 8 * S.length := bitsL_len S
      have HBL := Lib.hid hbl
      have hX : (stx (bitsL S)).extract c (stx (bitsL S)).size = stx ((bitsL S).drop c) := by
        rw [stx_extract, stx_size, List.take_of_length_le (by rw [List.length_drop]; omega)]
      have hzz : (stx (bitsL S)).size = 8 * S.length := by rw [stx_size, hbl]
      obtain ⟨sx, hsx⟩ : ∃ z, stx (bitsL S) = z := ⟨_, rfl⟩
      obtain ⟨sy, hsy⟩ : ∃ z, stx ((bitsL S).drop c) = z := ⟨_, rfl⟩
      have HSY := Lib.hid hsy
      rw [hsx, hsy] at hX
      rw [hsx] at HRB hzz
      have hcs : (c : Int) ≤ (sx.size : Int) := by omega
      have hcs' : c ≤ sx.size := by omega
      have hc0 : (0 : Int) ≤ (c : Int) := by omega
      have hl40 : l.length ≤ 40 := by omega
      have HGET := Lib.hid (fun (w0 : World) (p r m : Nat) (w1 : World) (h1 : CodeAt w0 p l) (h2 : Below w0.heap.size w0 w1) (h3 : w0.heap.size ≤ r) (h4 : ReaderAt w1 r S 0 m) => cget_any w0 p r l S 0 m w1 hwh (by omega) h1 h2 h3 h4)
      clear h40 h60 hv hs hwh _hs _ha1 _ha2 ha hb8 hS hsz hdat hbl hsx hsy hzz
      go_enter Try.func4, Try.ntmps4
      go_wp2_with fail
      refine HSZ.out.mono ?_
      rintro e w1 ⟨rfl, rfl⟩
      go_wp2_with fail
      refine HWH.out.mono ?_
      rintro e w1 ⟨rfl, rfl⟩
      go_wp2_with fail
      refine HN.out.mono ?_
      rintro e w1 ⟨p, rfl, -, hc, hb⟩
      have HB1 := Lib.hid hb
      have HC1 := Lib.hid hc
      have HRC1 := Lib.hid (HRC.out w1 (HV.out.below hb))
      clear hb hc HN HWH HSZ HRC
      go_wp2_with fail
      refine HRC1.out.mono ?_
      rintro e w2 ⟨g, rfl, hg1, hg2, hb⟩
      have HB2 := Lib.hid (below_two HB1.out hb)
      have HC2 := Lib.hid (HC1.out.below hb)
      have HG2 := Lib.hid hg2
      clear hb hg1 hg2 HB1 HC1 HRC1
      go_wp2_with fail
      refine (HNR.out w2).mono ?_
      rintro e w3 ⟨r, rfl, hr, hrd, hb⟩
      have HB3 := Lib.hid hb
      have HR := Lib.hid (show w2.heap.size ≤ r by rw [hr]; exact Nat.le_refl _)
      have HSK3 := Lib.hid (HSK.out r w3 hrd)
      clear hr hrd hb HNR HSK
      go_wp2_with fail
      refine HSK3.out.mono ?_
      rintro e w4 ⟨rfl, hd⟩
      have HB4 := Lib.hid (RDid.bel HB3.out hd HR.out HB3.out.size)
      have HRD4 := Lib.hid hd.1
      clear hd HB3 HSK3
      go_wp2_with fail
      refine (HRB.out w4).mono ?_
      rintro e w5 ⟨rfl, rfl⟩
      clear HRB
      go_wp2
      go_loopw [12] (fun cv w5 => ∃ (m : Nat) (sz : ByteArray), m ≤ 8 * S.length ∧ cv = .string sz ∧ Hid (sz = stx ((bitsL S).drop m)) ∧ Hid (ReaderAt w5 r S 0 m) ∧ Hid (Below w2.heap.size w2 w5)) (fun cv _ => match cv with | .string t => t.size | _ => 0)
      case atStart => exact ⟨c, _, hcl, rfl, HSY.out.symm, HRD4.out, HB4.out⟩
      case round =>
        obtain ⟨m, sz, hm, rfl, HSZ5, HRD5, HB5⟩ := hrel
        clear HRD4 HB4 hX hcs hcs'
        have hzl : sz.size = 8 * S.length - m := by rw [HSZ5.out, stx_size, List.length_drop, HBL.out]
        have HGR := Lib.hid (fun w hb => refget_any g l sz ((bitsL S).drop m) w HW.out (by omega) hb HSZ5.out (by rw [List.length_drop, HBL.out]; omega))
        have HZL := Lib.hid hzl
        have HG5 := Lib.hid (HGET.out w2 p r m wr HC2.out HB5.out HR.out HRD5.out)
        clear hzl
        go_wp2_with fail
        refine HG5.out.mono ?_
        rintro e w6 (⟨i, hi, hbg, rfl, hd⟩ | ⟨hno, rfl, hd⟩)
        · have HBG := Lib.hid hbg
          have HD := Lib.hid hd
          have HB6 := Lib.hid (RDid.bel HB5.out hd HR.out HB5.out.size)
          have HG6 := Lib.hid (HG2.out.below HB6.out)
          have HGR6 := Lib.hid (HGR.out w6 HG6.out)
          clear hbg hd HG5 HGR HB5 HRD5
          go_wp2_with fail
          refine HGR6.out.mono ?_
          rintro e w7 ⟨⟨j, hj, hbj, rfl⟩ | ⟨hnj, rfl⟩, rfl⟩
          · obtain rfl : j = i := begins_one HW.out hj hi hbj HBG.out
            have hli : (j : Int) < (l.length : Int) := by omega
            have hj0 : (0 : Int) ≤ (j : Int) := by omega
            have dj : decide ((j : Int) < 0) = false := decide_eq_false (by omega)
            have hcl2 := cwC_le2 HW.out hj
            obtain ⟨t, ht⟩ := begB_iff.1 HBG.out
            have htl := congrArg List.length ht
            rw [List.length_append, List.length_drop, HBL.out] at htl
            obtain ⟨C, hC⟩ : ∃ z, stx (cwC l j) = z := ⟨_, rfl⟩
            have c1 := HG6.out.cell (i := j) (x := .string C) (by rw [List.getElem?_map, List.getElem?_range hj, ← hC]; rfl)
            have hCs : C.size = (cwC l j).length := by rw [← hC, stx_size]
            obtain ⟨k, hk⟩ : ∃ z, (cwC l j).length = z := ⟨_, rfl⟩
            rw [hk] at hCs hcl2 htl
            have HD2 := Lib.hid HD.out.1
            rw [hk] at HD2
            have hksz : (k : Int) ≤ (sz.size : Int) := by rw [HZL.out]; omega
            have hksz' : k ≤ sz.size := by rw [HZL.out]; omega
            have hk0 : (0 : Int) ≤ (k : Int) := by omega
            have hX2 : sz.extract k sz.size = stx ((bitsL S).drop (m + k)) := by
              rw [HSZ5.out, stx_extract, List.drop_drop, stx_size, List.take_of_length_le (by rw [List.length_drop, List.length_drop]; omega)]
            obtain ⟨sn, hsn⟩ : ∃ z, stx ((bitsL S).drop (m + k)) = z := ⟨_, rfl⟩
            have HSN := Lib.hid hsn
            rw [hsn] at hX2
            have HKB := Lib.hid (show 1 ≤ k ∧ m + k ≤ 8 * S.length by omega)
            clear hbj ht htl hC hsn hcl2 hk HBG HD HGR6
            go_wp2
            go_roundw
            case rel => exact ⟨m + k, _, HKB.out.2, rfl, HSN.out.symm, HD2.out, HB6.out⟩
            case measure =>
              show sn.size < sz.size
              rw [HZL.out, ← HSN.out, stx_size, List.length_drop, HBL.out]
              have := HKB.out
              omega
          · exact absurd HBG.out (by rw [hnj i hi]; decide)
        · have HNO := Lib.hid hno
          have HD := Lib.hid hd.1
          have HB6 := Lib.hid (RDid.bel HB5.out hd HR.out HB5.out.size)
          have HG6 := Lib.hid (HG2.out.below HB6.out)
          have HGR6 := Lib.hid (HGR.out w6 HG6.out)
          have HLF := Lib.hid (rleft_any r S 0 m w6 hd.1)
          clear hno hd HG5 HGR HB5 HRD5
          go_wp2_with fail
          refine HGR6.out.mono ?_
          rintro e w7 ⟨⟨j, hj, hbj, rfl⟩ | ⟨hnj, rfl⟩, rfl⟩
          · exact absurd hbj (by rw [HNO.out j hj]; decide)
          · have hzl : sz.size = 8 * S.length - m := HZL.out
            obtain ⟨N, hN⟩ : ∃ z, 8 * S.length - m = z := ⟨_, rfl⟩
            rw [hN] at hzl HLF
            clear hN hnj HGR6
            go_wp2_with fail
            refine HLF.out.mono ?_
            rintro e w7 ⟨rfl, hdn⟩
            have HB7 := Lib.hid (HB6.out.trans (below_of (below_drawn hdn) HB6.out.size))
            clear hdn HLF
            go_wp2_with fail
            refine (HLT.out w7).mono ?_
            rintro e w8 ⟨rfl, hb⟩
            have HB8 := Lib.hid (below_two HB2.out (HB7.out.trans (below_of hb HB7.out.size)))
            clear hb HB7
            go_wp2
            go_ret
            exact ⟨rfl, HB8.out⟩
end Go.Proofs.Ytjpjdecbkekcfaa

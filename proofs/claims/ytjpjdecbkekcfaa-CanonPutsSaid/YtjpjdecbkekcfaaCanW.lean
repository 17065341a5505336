/- Package canon: the law CanonPuts. -/
import Derived.Test.YtjpjdecbkekcfaaCanU
import Derived.Test.YtjpjdecbkekcfaaCanT
namespace Go.Proofs.Ytjpjdecbkekcfaa
open Go.RowKit

theorem cwC_le {l : List Int} (hw : wholeC l = true) {s : Nat} (hs : s < l.length) : 1 ≤ (cwC l s).length ∧ (cwC l s).length ≤ 20 := by
  have h1 : l[s]? = some l[s] := List.getElem?_eq_getElem hs
  obtain ⟨n, h2, h3⟩ := whole_at hw h1
  rw [cwC_len, getD_of h1, h2, Int.toNat_natCast]
  omega

set_option maxHeartbeats 4000000 in
set_option maxRecDepth 100000 in
theorem lawCanonPuts {v vs : Value} {l ss : List Int} {w : World} (hv : RInts w v l) (hvs : RInts w vs ss) :
    Calls Try.prog 8 #[v, vs] w fun e w' => e = .returned (.bool true) ∧ Below w.heap.size w w' := by
  have HLT := Lib.hid three_any
  have HSZ := Lib.hid (size10_any v l w hv)
  have HV := Lib.hid hv
  have HVS := Lib.hid hvs
  obtain ⟨a, cap, rfl, hc1, hc2⟩ := hv.shape
  obtain ⟨ac, caps, rfl, hcs1, hcs2⟩ := hvs.shape
  by_cases h40 : 40 < l.length
  · have t1 : decide ((40 : Int) < (l.length : Int)) = true := decide_eq_true (by omega)
    have t1' : decide (40 < l.length) = true := decide_eq_true h40
    clear h40 hv hvs
    go_enter Try.func8, Try.ntmps8
    go_wp2_with fail
    refine (HLT.out _).mono ?_
    rintro e w1 ⟨rfl, hb⟩
    go_wp2
    go_ret
    exact ⟨rfl, hb⟩
  have t1 : decide ((40 : Int) < (l.length : Int)) = false := decide_eq_false (by omega)
  have t1' : decide (40 < l.length) = false := decide_eq_false h40
  by_cases h60 : 60 < ss.length
  · have t2 : decide ((60 : Int) < (ss.length : Int)) = true := decide_eq_true (by omega)
    have t2' : decide (60 < ss.length) = true := decide_eq_true h60
    clear h40 h60 hv hvs
    go_enter Try.func8, Try.ntmps8
    go_wp2_with fail
    refine (HLT.out _).mono ?_
    rintro e w1 ⟨rfl, hb⟩
    go_wp2
    go_ret
    exact ⟨rfl, hb⟩
  have t2 : decide ((60 : Int) < (ss.length : Int)) = false := decide_eq_false (by omega)
  have t2' : decide (60 < ss.length) = false := decide_eq_false h60
  cases hs : sizC l with
  | false =>
    rw [hs] at HSZ
    clear h40 h60 hv hvs hs
    go_enter Try.func8, Try.ntmps8
    go_wp2_with fail
    refine HSZ.out.mono ?_
    rintro e w1 ⟨rfl, rfl⟩
    go_wp2_with fail
    refine (HLT.out _).mono ?_
    rintro e w1 ⟨rfl, hb⟩
    go_wp2
    go_ret
    exact ⟨rfl, hb⟩
  | true =>
    rw [hs] at HSZ
    have HWH := Lib.hid (refwhole_any (.slice a l.length cap) l w hv (by omega))
    cases hwh : wholeC l with
    | false =>
      rw [hwh] at HWH
      clear h40 h60 hv hvs hs hwh
      go_enter Try.func8, Try.ntmps8
      go_wp2_with fail
      refine HSZ.out.mono ?_
      rintro e w1 ⟨rfl, rfl⟩
      go_wp2_with fail
      refine HWH.out.mono ?_
      rintro e w1 ⟨rfl, rfl⟩
      go_wp2_with fail
      refine (HLT.out _).mono ?_
      rintro e w1 ⟨rfl, hb⟩
      go_wp2
      go_ret
      exact ⟨rfl, hb⟩
    | true =>
      rw [hwh] at HWH
      have HW := Lib.hid hwh
      have HN := Lib.hid (cnew_any _ l w hv hs hwh)
      have HRC := Lib.hid (fun w h => refcodes_any (.slice a l.length cap) l w h hwh (by omega))
      have hl40 : l.length ≤ 40 := by omega
      have hs60 : ss.length ≤ 60 := by omega
      clear h40 h60 hv hvs hs hwh
      go_enter Try.func8, Try.ntmps8
      go_wp2_with fail
      refine HSZ.out.mono ?_
      rintro e w1 ⟨rfl, rfl⟩
      go_wp2_with fail
      refine HWH.out.mono ?_
      rintro e w1 ⟨rfl, rfl⟩
      go_wp2_with fail
      refine HN.out.mono ?_
      rintro e w1 ⟨p, rfl, -, hc, hb⟩
      have HB1 := Lib.hid hb
      have HC1 := Lib.hid hc
      have HWN := Lib.hid (lwnew_any w1 (fun _ => False) w1.heap.size (Nat.le_refl _) (fun _ h => h.elim))
      clear hb hc HN HWH HSZ
      go_wp2_with fail
      refine HWN.out.mono ?_
      rintro e w2 ⟨b, rfl, -, hwl, hb⟩
      have HB2 := Lib.hid hb
      have HWL := Lib.hid hwl
      have HRC2 := Lib.hid (HRC.out w2 ((HV.out.below HB1.out).below (below_of hb (Nat.le_refl _))))
      clear hb hwl HWN HRC
      go_wp2_with fail
      refine HRC2.out.mono ?_
      rintro e w3 ⟨g, rfl, hg1, hg2, hb⟩
      have HB3 := Lib.hid (HB2.out.trans (below_of hb HB2.out.size))
      have HWL3 := Lib.hid (HWL.out.more (G' := fun j => j = g) hb (fun j hj => .inr (by have e : j = g := hj; subst e; exact ⟨hg1, hg2.lt⟩)))
      have HBK := Lib.hid hg2
      clear hb hg1 hg2 HB2 HWL HRC2
      go_wp2
      go_loopw [9, 43] (fun cv iv w4 => ∃ (k : Nat) (A : List Bool) (sa : ByteArray), k ≤ ss.length ∧ iv = .int .i64 (k : Int) ∧ cv = .string sa ∧ Hid (sa = stx A) ∧ A.length ≤ 20 * k ∧ Hid (WLive (fun j => j = g) w1.heap.size b A 0 w4) ∧ Hid (Blk w4 g ((List.range l.length).map (strV l)) 9) ∧ Hid (Below w1.heap.size w1 w4)) (fun _ iv _ => ss.length - (intOf iv).toNat)
      case atStart => exact ⟨0, [], ⟨#[]⟩, Nat.zero_le _, rfl, rfl, rfl, Nat.zero_le _, HWL3.out, HBK.out, HB3.out⟩
      case round =>
        obtain ⟨k, A, sa, hk, rfl, rfl, HSA, hA, HWL4, HBK4, HB4⟩ := hrel
        clear HWL3 HBK HB3
        rcases Nat.lt_or_ge k ss.length with hlt | hge
        · have HV4 := Lib.hid (below_two HB1.out HB4.out)
          obtain ⟨bp, offp, x, rfl, -, hx, hcx, -, -⟩ := (HVS.out.below HV4.out).at hlt
          have hki : (k : Int) < (ss.length : Int) := by omega
          have hk0 : (0 : Int) ≤ (k : Int) := by omega
          have HC4 := Lib.hid (HC1.out.below HB4.out)
          clear hx
          by_cases hout : x < 0 ∨ (l.length : Int) ≤ x
          · have HP := Lib.hid (cput_out p b l x wr HC4.out hout)
            by_cases h0 : x < 0
            · have d0 : decide (x < 0) = true := decide_eq_true h0
              clear h0 hout
              go_wp2_with fail
              refine HP.out.mono ?_
              rintro e w5 ⟨rfl, rfl⟩
              go_wp2
              go_roundw
              case rel => exact ⟨k + 1, A, sa, hlt, by go_num, rfl, HSA.out, by omega, HWL4.out, HBK4.out, HB4.out⟩
              case measure => simp [intOf]; omega
            · have d0 : decide (x < 0) = false := decide_eq_false h0
              have d1 : decide ((l.length : Int) ≤ x) = true := decide_eq_true (hout.elim (fun h => absurd h h0) id)
              clear h0 hout
              go_wp2_with fail
              refine HP.out.mono ?_
              rintro e w5 ⟨rfl, rfl⟩
              go_wp2
              go_roundw
              case rel => exact ⟨k + 1, A, sa, hlt, by go_num, rfl, HSA.out, by omega, HWL4.out, HBK4.out, HB4.out⟩
              case measure => simp [intOf]; omega
          · obtain ⟨s, rfl⟩ : ∃ s : Nat, x = s := ⟨x.toNat, by omega⟩
            have hsl : s < l.length := by omega
            have hsli : (s : Int) < (l.length : Int) := by omega
            have hs0 : (0 : Int) ≤ (s : Int) := by omega
            have d0 : decide ((s : Int) < 0) = false := decide_eq_false (by omega)
            have d1 : decide ((l.length : Int) ≤ (s : Int)) = false := decide_eq_false (by omega)
            have d1' : decide (l.length ≤ s) = false := decide_eq_false (by omega)
            have HP := Lib.hid (cput_any (fun j => j = g) w1.heap.size b A 0 p l s wr HW.out HC4.out hsl HWL4.out (by omega))
            clear hout HC4
            go_wp2_with fail
            refine HP.out.mono ?_
            rintro e w5 ⟨rfl, hwl, hkp⟩
            have HWL5 := Lib.hid hwl
            have HBK5 := Lib.hid (HBK4.out.keep hkp (fun h => h.2 rfl))
            have HB5 := Lib.hid (HB4.out.trans (zone_below hkp HB4.out.size))
            have hcl := (cwC_le HW.out hsl).2
            obtain ⟨C, hC⟩ : ∃ z, stx (cwC l s) = z := ⟨_, rfl⟩
            have c1 := HBK5.out.cell (i := s) (x := .string C) (by rw [List.getElem?_map, List.getElem?_range hsl, ← hC]; rfl)
            have HSA2 := Lib.hid (show sa ++ C = stx (A ++ cwC l s) by rw [HSA.out, ← hC, stx_append])
            have hbz : ¬ (9223372036854775807 < sa.size + C.size) := by
              rw [HSA.out, ← hC, stx_size, stx_size]
              omega
            have hA2 : (A ++ cwC l s).length ≤ 20 * (k + 1) := by rw [List.length_append]; omega
            clear hwl hkp hC hcl HP HWL4 HBK4 HB4 HV4 HSA
            go_wp2
            go_roundw
            case rel => exact ⟨k + 1, _, _, hlt, by go_num, rfl, HSA2.out, hA2, HWL5.out, HBK5.out, HB5.out⟩
            case measure => simp [intOf]; omega
        · obtain rfl : k = ss.length := by omega
          have HLE := Lib.hid (lwlen_any _ _ b A 0 wr HWL4.out)
          have HPA := Lib.hid (lwpad_any _ _ b A 0 wr HWL4.out (by omega))
          have HPK := Lib.hid (fun w => refpack_any sa A w HSA.out (by omega))
          have hsz : sa.size = A.length := by rw [HSA.out, stx_size]
          have HTK := Lib.hid (fun w h => lwtake_any (fun j => j = g) w1.heap.size b (padL A) 0 w h)
          rw [List.drop_zero] at HTK
          obtain ⟨M, hM⟩ : ∃ z, str (bytesL (padL A)) = z := ⟨_, rfl⟩
          rw [hM] at HTK HPK
          obtain ⟨N, hN⟩ : ∃ z, A.length = z := ⟨_, rfl⟩
          rw [hN] at HLE hsz
          clear hM hN hA HWL4
          go_wp2_with fail
          refine HLE.out.mono ?_
          rintro e w5 ⟨rfl, rfl⟩
          go_wp2_with fail
          refine HPA.out.mono ?_
          rintro e w5 ⟨rfl, hwl, hkp⟩
          have HTK5 := Lib.hid (HTK.out w5 hwl)
          have HB5 := Lib.hid (HB4.out.trans (zone_below hkp HB4.out.size))
          clear hwl hkp HTK HPA HLE HB4
          go_wp2_with fail
          refine HTK5.out.mono ?_
          rintro e w6 ⟨rfl, hwl, hkp⟩
          have HB6 := Lib.hid (HB5.out.trans (zone_below hkp HB5.out.size))
          clear hwl hkp HTK5 HB5
          go_wp2_with fail
          refine (HPK.out w6).mono ?_
          rintro e w7 ⟨rfl, hb⟩
          have HB7 := Lib.hid (HB6.out.trans (below_of hb HB6.out.size))
          clear hb HB6
          go_wp2_with fail
          refine (HLT.out w7).mono ?_
          rintro e w8 ⟨rfl, hb⟩
          have HB8 := Lib.hid (below_two HB1.out (HB7.out.trans (below_of hb HB7.out.size)))
          clear hb HB7
          go_wp2
          go_ret
          exact ⟨rfl, HB8.out⟩
end Go.Proofs.Ytjpjdecbkekcfaa

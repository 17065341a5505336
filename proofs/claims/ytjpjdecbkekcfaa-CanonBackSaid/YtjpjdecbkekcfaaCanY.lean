/- Package canon: the law CanonBack. -/
import Derived.Test.YtjpjdecbkekcfaaCanU
namespace Go.Proofs.Ytjpjdecbkekcfaa
open Go.RowKit

def allOf (l : List Int) (size : Int) : Bool := l.all fun x => decide (0 ≤ x) && decide (x < size)
theorem allOf_at {l : List Int} {size : Int} {k : Nat} {x : Int} (h : allOf l size = true) (hx : l[k]? = some x) : 0 ≤ x ∧ x < size := by
  unfold allOf at h
  rw [List.all_eq_true] at h
  have := h x (List.mem_of_getElem? hx)
  simpa using this
theorem allOf_take_succ {l : List Int} {size : Int} {k : Nat} {x : Int} (hx : l[k]? = some x) :
    allOf (l.take (k + 1)) size = (allOf (l.take k) size && (decide (0 ≤ x) && decide (x < size))) := by
  rw [take_snoc hx]
  simp [allOf]
theorem allOf_no {l : List Int} {size : Int} {k : Nat} {x : Int} (hx : l[k]? = some x) (h : ¬ (0 ≤ x ∧ x < size)) : allOf l size = false := by
  rw [Bool.eq_false_iff]
  intro h'
  exact h (allOf_at h' hx)

set_option maxHeartbeats 400000 in
theorem of_any (v : Value) (l : List Int) (size : Int) (w : World) (hv : RInts w v l) :
    Calls Try.prog 30 #[v, .int .i64 size] w fun e w' => e = .returned (.bool (allOf l size)) ∧ w = w' := by
  obtain ⟨a, cap, rfl, hc1, hc2⟩ := hv.shape
  go_enter Try.func30, Try.ntmps30
  go_wp2
  go_loop [6, 9] (fun x i => ∃ k : Nat, k ≤ l.length ∧ i = .int .i64 k ∧ allOf (l.take k) size = true) (fun _ i => l.length - (intOf i).toNat)
  case atStart => exact ⟨0, Nat.zero_le _, rfl, rfl⟩
  case round =>
    obtain ⟨k, hk, rfl, hall⟩ := hrel
    have HALL := Lib.hid hall
    clear hall
    by_cases hlt : k < l.length
    · obtain ⟨b, off, x, rfl, hbb, hx, hcx, hx1, hx2⟩ := hv.at hlt
      have HX := Lib.hid hx
      clear hx hv
      by_cases h0 : 0 ≤ x
      · by_cases h1 : x < size
        · go_wp2
          go_round
          case rel => exact ⟨k + 1, by omega, by go_num, by rw [allOf_take_succ HX.out, HALL.out]; simp [h0, h1]⟩
          case measure => simp [intOf]; omega
        · go_wp2
          go_ret
          exact ⟨ret_bool (allOf_no HX.out (by omega)).symm, rfl⟩
      · go_wp2
        go_ret
        exact ⟨ret_bool (allOf_no HX.out (by omega)).symm, rfl⟩
    · obtain rfl : k = l.length := by omega
      go_wp2
      go_ret
      exact ⟨ret_bool (by have := HALL.out; rw [List.take_length] at this; exact this.symm), rfl⟩

/-- the bits of symbols -/
def flatC (l ss : List Int) : List Bool := ss.flatMap fun x => cwC l x.toNat
theorem flatC_take {l ss : List Int} {k : Nat} {x : Int} (hx : ss[k]? = some x) : flatC l (ss.take (k + 1)) = flatC l (ss.take k) ++ cwC l x.toNat := by
  rw [take_snoc hx]
  simp [flatC]
theorem flatC_drop {l ss : List Int} {k : Nat} {x : Int} (hx : ss[k]? = some x) : ∃ t, flatC l ss = flatC l (ss.take k) ++ (cwC l x.toNat ++ t) := by
  have h1 : flatC l ss = flatC l (ss.take (k + 1)) ++ flatC l (ss.drop (k + 1)) := by
    unfold flatC
    rw [← List.flatMap_append, List.take_append_drop]
  exact ⟨_, by rw [h1, flatC_take hx, List.append_assoc]⟩
theorem flatC_len {l ss : List Int} (hw : wholeC l = true) (h : ∀ x ∈ ss, 0 ≤ x ∧ x < (l.length : Int)) : (flatC l ss).length ≤ 20 * ss.length := by
  induction ss with
  | nil => simp [flatC]
  | cons x t ih =>
    have h1 := h x (by simp)
    have h2 := ih (fun y hy => h y (by simp [hy]))
    have e : flatC l (x :: t) = cwC l x.toNat ++ flatC l t := by simp [flatC]
    have hs : x.toNat < l.length := by omega
    have h3 : l[x.toNat]? = some l[x.toNat] := List.getElem?_eq_getElem hs
    obtain ⟨n, q1, q2⟩ := whole_at hw h3
    rw [e, List.length_append, List.length_cons, cwC_len, getD_of h3, q1, Int.toNat_natCast]
    omega
theorem pad_begins {l ss : List Int} {k : Nat} {x : Int} (hx : ss[k]? = some x) : begB ((padL (flatC l ss)).drop (flatC l (ss.take k)).length) (cwC l x.toNat) = true := by
  obtain ⟨t, ht⟩ := flatC_drop (l := l) hx
  obtain ⟨m, hm, -⟩ := padL_pre (flatC l ss)
  rw [hm, ht]
  refine begB_iff.2 ⟨t ++ m, ?_⟩
  rw [List.append_assoc, List.drop_left, List.append_assoc]

set_option maxHeartbeats 4000000 in
set_option maxRecDepth 100000 in
theorem lawCanonBack {v vs : Value} {l ss : List Int} {w : World} (hv : RInts w v l) (hvs : RInts w vs ss) :
    Calls Try.prog 7 #[v, vs] w fun e w' => e = .returned (.bool true) ∧ Below w.heap.size w w' := by
  have HLT := Lib.hid three_any
  have HSZ := Lib.hid (size10_any v l w hv)
  have HV := Lib.hid hv
  have HVS := Lib.hid hvs
  have HOF := Lib.hid (of_any vs ss (l.length : Int) w hvs)
  obtain ⟨a, cap, rfl, hc1, hc2⟩ := hv.shape
  obtain ⟨ac, caps, rfl, hcs1, hcs2⟩ := hvs.shape
  by_cases h60 : 200 < ss.length
  · have t2 : decide ((200 : Int) < (ss.length : Int)) = true := decide_eq_true (by omega)
    have t2' : decide (200 < ss.length) = true := decide_eq_true h60
    clear h60 hv hvs
    go_enter Try.func7, Try.ntmps7
    go_wp2_with fail
    refine (HLT.out _).mono ?_
    rintro e w1 ⟨rfl, hb⟩
    go_wp2
    go_ret
    exact ⟨rfl, hb⟩
  have t2 : decide ((200 : Int) < (ss.length : Int)) = false := decide_eq_false (by omega)
  have t2' : decide (200 < ss.length) = false := decide_eq_false h60
  cases hs : sizC l with
  | false =>
    rw [hs] at HSZ
    clear h60 hv hvs hs
    go_enter Try.func7, Try.ntmps7
    go_wp2_with fail
    refine HSZ.out.mono ?_
    rintro e w1 ⟨rfl, rfl⟩
    go_wp2_with fail
    refine (HLT.out _).mono ?_
    rintro e w1 ⟨rfl, hb⟩
    go_wp2
    go_ret
    exact ⟨rfl, hb⟩
  | true =>
    rw [hs] at HSZ
    obtain ⟨h3, h258⟩ := sizC_iff.1 hs
    have HWH := Lib.hid (refwhole_any (.slice a l.length cap) l w hv (by omega))
    cases hwh : wholeC l with
    | false =>
      rw [hwh] at HWH
      clear h60 hv hvs hs hwh h3 h258
      go_enter Try.func7, Try.ntmps7
      go_wp2_with fail
      refine HSZ.out.mono ?_
      rintro e w1 ⟨rfl, rfl⟩
      go_wp2_with fail
      refine HWH.out.mono ?_
      rintro e w1 ⟨rfl, rfl⟩
      go_wp2_with fail
      refine (HLT.out _).mono ?_
      rintro e w1 ⟨rfl, hb⟩
      go_wp2
      go_ret
      exact ⟨rfl, hb⟩
    | true =>
      rw [hwh] at HWH
      cases hof : allOf ss (l.length : Int) with
      | false =>
        rw [hof] at HOF
        clear h60 hv hvs hs hwh h3 h258 hof
        go_enter Try.func7, Try.ntmps7
        go_wp2_with fail
        refine HSZ.out.mono ?_
        rintro e w1 ⟨rfl, rfl⟩
        go_wp2_with fail
        refine HWH.out.mono ?_
        rintro e w1 ⟨rfl, rfl⟩
        go_wp2_with fail
        refine HOF.out.mono ?_
        rintro e w1 ⟨rfl, rfl⟩
        go_wp2_with fail
        refine (HLT.out _).mono ?_
        rintro e w1 ⟨rfl, hb⟩
        go_wp2
        go_ret
        exact ⟨rfl, hb⟩
      | true =>
        rw [hof] at HOF
        have HW := Lib.hid hwh
        have HN := Lib.hid (cnew_any _ l w hv hs hwh)
        have hall : ∀ x ∈ ss, 0 ≤ x ∧ x < (l.length : Int) := fun x hx => by
          obtain ⟨i, hi⟩ := List.mem_iff_getElem?.1 hx
          exact allOf_at hof hi
        have HALL := Lib.hid hall
        have HLEN := Lib.hid (fun k => show (flatC l (ss.take k)).length ≤ 4000 from by
          have h := flatC_len hwh (ss := ss.take k) (fun x hx => hall x (List.mem_of_mem_take hx))
          rw [List.length_take] at h
          omega)
        have hs200 : ss.length ≤ 200 := by omega
        have HGET := Lib.hid (fun (w0 : World) (p r m : Nat) (S : List UInt8) (w1 : World) (h1 : CodeAt w0 p l) (h2 : Below w0.heap.size w0 w1) (h3 : w0.heap.size ≤ r) (h4 : ReaderAt w1 r S 0 m) => cget_any w0 p r l S 0 m w1 hwh h258 h1 h2 h3 h4)
        clear h60 hv hvs hs hwh h3 h258 hof hall
        go_enter Try.func7, Try.ntmps7
        go_wp2_with fail
        refine HSZ.out.mono ?_
        rintro e w1 ⟨rfl, rfl⟩
        go_wp2_with fail
        refine HWH.out.mono ?_
        rintro e w1 ⟨rfl, rfl⟩
        go_wp2_with fail
        refine HOF.out.mono ?_
        rintro e w1 ⟨rfl, rfl⟩
        go_wp2_with fail
        refine HN.out.mono ?_
        rintro e w1 ⟨p, rfl, -, hc, hb⟩
        have HB1 := Lib.hid hb
        have HC1 := Lib.hid hc
        have HWN := Lib.hid (lwnew_any w1 (fun _ => False) w1.heap.size (Nat.le_refl _) (fun _ h => h.elim))
        clear hb hc HN HWH HSZ HOF
        go_wp2_with fail
        refine HWN.out.mono ?_
        rintro e w2 ⟨b, rfl, -, hwl, hb⟩
        have HB2 := Lib.hid hb
        have HWL := Lib.hid hwl
        clear hb hwl HWN
        go_wp2
        go_loopw [43] (fun iv w4 => ∃ (k : Nat), k ≤ ss.length ∧ iv = .int .i64 (k : Int) ∧ Hid (WLive (fun _ => False) w1.heap.size b (flatC l (ss.take k)) 0 w4) ∧ Hid (Below w1.heap.size w1 w4)) (fun iv _ => ss.length - (intOf iv).toNat)
        case atStart => exact ⟨0, Nat.zero_le _, rfl, HWL.out, HB2.out⟩
        case round =>
          obtain ⟨k, hk, rfl, HWL4, HB4⟩ := hrel
          clear HWL HB2
          rcases Nat.lt_or_ge k ss.length with hlt | hge
          · obtain ⟨bp, offp, x, rfl, -, hx, hcx, -, -⟩ := (HVS.out.below (below_two HB1.out HB4.out)).at hlt
            have hki : (k : Int) < (ss.length : Int) := by omega
            have hk0 : (0 : Int) ≤ (k : Int) := by omega
            have hxr := HALL.out x (List.mem_of_getElem? hx)
            obtain ⟨s, rfl⟩ : ∃ s : Nat, x = s := ⟨x.toNat, by omega⟩
            have hsl : s < l.length := by omega
            have HP := Lib.hid (cput_any (fun _ => False) w1.heap.size b (flatC l (ss.take k)) 0 p l s wr HW.out (HC1.out.below HB4.out) hsl HWL4.out (by have := HLEN.out k; omega))
            have HE := Lib.hid (flatC_take (l := l) hx)
            clear hx hxr
            go_wp2_with fail
            refine HP.out.mono ?_
            rintro e w5 ⟨rfl, hwl, hkp⟩
            have HWL5 := Lib.hid (show WLive (fun _ => False) w1.heap.size b (flatC l (ss.take (k + 1))) 0 w5 by rw [HE.out]; exact hwl)
            have HB5 := Lib.hid (HB4.out.trans (zone_below hkp HB4.out.size))
            clear hwl hkp HP HWL4 HB4 HE
            go_wp2
            go_roundw
            case rel => exact ⟨k + 1, hlt, by go_num, HWL5.out, HB5.out⟩
            case measure => simp [intOf]; omega
          · obtain rfl : k = ss.length := by omega
            have hfl : flatC l (ss.take ss.length) = flatC l ss := by rw [List.take_length]
            rw [hfl] at HWL4
            have hlen := HLEN.out ss.length
            rw [hfl] at hlen
            have HPA := Lib.hid (lwpad_any _ _ b (flatC l ss) 0 wr HWL4.out (by omega))
            have HTK := Lib.hid (fun w h => lwtake_any (fun _ => False) w1.heap.size b (padL (flatC l ss)) 0 w h)
            rw [List.drop_zero] at HTK
            have hpl := padL_len (flatC l ss)
            obtain ⟨S, hS⟩ : ∃ S, bytesL (padL (flatC l ss)) = S := ⟨_, rfl⟩
            have hSb : bitsL S = padL (flatC l ss) := by rw [← hS]; exact bitsL_pack _
            have hSl : S.length = ((flatC l ss).length + 7) / 8 := by
              have := bitsL_len S
              rw [hSb, hpl] at this
              omega
            rw [hS] at HTK
            have HNR := Lib.hid (fun w => rnew_any (str S) w (by rw [str_size]; omega))
            rw [show (str S).data.toList = S from rfl] at HNR
            have HSB := Lib.hid hSb
            have HSL := Lib.hid hSl
            have HLN := Lib.hid hlen
            obtain ⟨st, hst⟩ : ∃ z, str S = z := ⟨_, rfl⟩
            rw [hst] at HTK HNR
            clear hfl hlen hpl hS hSb hSl hst HWL4
            go_wp2_with fail
            refine HPA.out.mono ?_
            rintro e w5 ⟨rfl, hwl, hkp⟩
            have HTK5 := Lib.hid (HTK.out w5 hwl)
            have HB5 := Lib.hid (HB4.out.trans (zone_below hkp HB4.out.size))
            clear hwl hkp HTK HPA HB4
            go_wp2_with fail
            refine HTK5.out.mono ?_
            rintro e w6 ⟨rfl, hwl, hkp⟩
            have HB6 := Lib.hid (HB5.out.trans (zone_below hkp HB5.out.size))
            clear hwl hkp HTK5 HB5
            go_wp2_with fail
            refine (HNR.out w6).mono ?_
            rintro e w7 ⟨r, rfl, hr, hrd, hb⟩
            have HB7 := Lib.hid (HB6.out.trans (below_of hb HB6.out.size))
            have HR := Lib.hid (show w1.heap.size ≤ r ∧ r < w7.heap.size from ⟨by rw [hr]; exact HB6.out.size, hrd.box.lt⟩)
            have HRD := Lib.hid hrd
            clear hb hr hrd HNR HB6
            go_wp2
            go_loopw [11, 60] (fun gv iv w8 => ∃ (k : Nat), k ≤ ss.length ∧ iv = .int .i64 (k : Int) ∧ Hid (OwnI w8 3 gv (ss.take k)) ∧ Hid (FreshV w7.heap.size gv) ∧ Hid (ReaderAt w8 r S 0 (flatC l (ss.take k)).length) ∧ Hid (Below w1.heap.size w1 w8) ∧ Hid (w7.heap.size ≤ w8.heap.size)) (fun _ iv _ => ss.length - (intOf iv).toNat)
            case atStart => exact ⟨0, Nat.zero_le _, rfl, OwnI.nil _ _, FreshV.nil _, HRD.out, HB7.out, Nat.le_refl _⟩
            case round =>
              obtain ⟨k, hk, rfl, HOW, HFR, HRD8, HB8, HSZ8⟩ := hrel
              clear HRD HB7
              rcases Nat.lt_or_ge k ss.length with hlt | hge
              · have hki : (k : Int) < (ss.length : Int) := by omega
                have hk0 : (0 : Int) ≤ (k : Int) := by omega
                have hx : ss[k]? = some ss[k] := List.getElem?_eq_getElem hlt
                have hxr := HALL.out _ (List.mem_of_getElem? hx)
                obtain ⟨x, hxx⟩ : ∃ x, ss[k] = x := ⟨_, rfl⟩
                rw [hxx] at hx hxr
                obtain ⟨s, rfl⟩ : ∃ s : Nat, x = s := ⟨x.toNat, by omega⟩
                have hsl : s < l.length := by omega
                have HX := Lib.hid hx
                have HBG := Lib.hid (pad_begins (l := l) hx)
                rw [Int.toNat_natCast, ← HSB.out] at HBG
                have HG := Lib.hid (HGET.out w1 p r _ S wr HC1.out HB8.out HR.out.1 HRD8.out)
                clear hx hxr hxx
                go_wp2_with fail
                refine HG.out.mono ?_
                rintro e w9 (⟨i, hi, hbg, rfl, hd⟩ | ⟨hno, rfl, -⟩)
                · obtain rfl : i = s := begins_one HW.out hi hsl hbg HBG.out
                  have hown : OwnI w9 3 _ (ss.take k) := Own.keep HOW.out hd.2 (fun g hg e => by have e' : g = r := e; have := HFR.out g hg; have := HR.out.2; omega)
                  have HRD9 := Lib.hid (show ReaderAt w9 r S 0 (flatC l (ss.take (k + 1))).length by rw [flatC_take HX.out, List.length_append, Int.toNat_natCast]; exact hd.1)
                  have HB9 := Lib.hid (RDid.bel HB8.out hd HR.out.1 HB8.out.size)
                  have HSZ9 := Lib.hid (Nat.le_trans HSZ8.out hd.2.size)
                  have HOW9 := Lib.hid hown
                  obtain ⟨L, hL⟩ : ∃ L, ss.take k = L := ⟨_, rfl⟩
                  have HL := Lib.hid hL
                  rw [hL] at hown HOW9
                  have HLN2 := Lib.hid (show L.length < 1000000000 by rw [← hL, List.length_take]; omega)
                  obtain ⟨a3, c3, rfl, -, -, -⟩ := Own.reads hown
                  clear hd hbg hL HG HOW HRD8 HB8 HSZ8 HBG
                  go_wp2_with (at_builtin; refine wpList_append_int _ _ rfl _ _ 22 rfl 3 Try.underlying22 intinfo _ L _ _ rfl rfl rfl hown HLN2.out ?_)
                  intro v10 w10 hown10 hkeep10 hf10
                  have HFR10 := Lib.hid (HFR.out.step HSZ9.out hf10)
                  have HRD10 := Lib.hid (HRD9.out.keep hkeep10 (fun e => by have := HFR.out r e; have := HR.out.2; omega))
                  have HB10 := Lib.hid (HB9.out.trans (hkeep10.below (B := w1.heap.size) HB9.out.size (fun j hj e => by have := HFR.out j e; have := HR.out; omega)))
                  have HSZ10 := Lib.hid (Nat.le_trans HSZ9.out hkeep10.size)
                  have HOW10 := Lib.hid (show OwnI w10 3 v10 (ss.take (k + 1)) by rw [take_snoc HX.out, HL.out]; exact hown10)
                  clear hown hown10 hkeep10 hf10 HOW9 HRD9 HB9 HSZ9 HFR
                  go_wp2
                  go_roundw
                  case rel => exact ⟨k + 1, hlt, by go_num, HOW10.out, HFR10.out, HRD10.out, HB10.out, HSZ10.out⟩
                  case measure => simp [intOf]; omega
                · exact absurd HBG.out (by rw [hno s hsl]; decide)
              · obtain rfl : k = ss.length := by omega
                have hown := HOW.out
                rw [List.take_length] at hown
                have hgr := OwnI.reads hown (fun x hx => by have := HALL.out x hx; omega)
                obtain ⟨a3, c3, rfl, hc3a, hc3b⟩ := hgr.shape
                have HIN := Lib.hid (ints_same _ _ ss wr hgr (HVS.out.below (below_two HB1.out HB8.out)))
                have hrd := HRD8.out
                rw [List.take_length] at hrd
                have HRD9 := Lib.hid hrd
                have hN : 8 * S.length - (flatC l ss).length < 8 := by have := HSL.out; omega
                have HLF := Lib.hid (fun w h => rleft_any r S 0 (flatC l ss).length w h)
                obtain ⟨N, hNN⟩ : ∃ z, 8 * S.length - (flatC l ss).length = z := ⟨_, rfl⟩
                rw [hNN] at HLF hN
                have hNd : decide ((N : Int) < 8) = true := decide_eq_true (by omega)
                have hNd' : decide (N < 8) = true := decide_eq_true hN
                clear hown hgr hrd hN hNN HOW HRD8
                go_wp2_with fail
                refine HIN.out.mono ?_
                rintro e w9 ⟨rfl, hdn⟩
                have HRD10 := Lib.hid (HRD9.out.below (below_drawn hdn))
                have HB9 := Lib.hid (HB8.out.trans (below_of (below_drawn hdn) HB8.out.size))
                clear hdn HIN HB8 HRD9
                go_wp2_with fail
                refine (HLF.out w9 HRD10.out).mono ?_
                rintro e w10 ⟨rfl, hdn⟩
                have HB10 := Lib.hid (HB9.out.trans (below_of (below_drawn hdn) HB9.out.size))
                clear hdn HB9
                go_wp2_with fail
                refine (HLT.out w10).mono ?_
                rintro e w11 ⟨rfl, hb⟩
                have HB11 := Lib.hid (below_two HB1.out (HB10.out.trans (below_of hb HB10.out.size)))
                clear hb HB10
                go_wp2
                go_ret
                exact ⟨rfl, HB11.out⟩
end Go.Proofs.Ytjpjdecbkekcfaa

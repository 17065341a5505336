/- Package bits: BitsPieces. -/
import Derived.Test.YtbbiohcmfhdmnaaBitG
import Derived.Test.YtbbiohcmfhdmnaaBitD
namespace Go.Proofs.Ytbbiohcmfhdmnaa
open Go.RowKit

theorem getBits_pre {S : List UInt8} {c at_ n : Nat} (h : at_ + n ≤ 8 * c) : getBits (S.take c) at_ n = getBits S at_ n := by
  unfold getBits
  rw [← bitsL_take, List.drop_take, List.take_take, show min n (8 * c - at_) = n by omega]
theorem getE_two {S : List UInt8} {at_ : Nat} {n : Int} (h1 : 1 ≤ n) (h2 : n ≤ 32) : getE S at_ n = 0 ∨ getE S at_ n = 3 := by
  unfold getE
  rw [if_neg (by omega)]
  split
  · exact .inr rfl
  · exact .inl rfl
theorem getE_zero {S : List UInt8} {at_ : Nat} {n : Int} (h1 : 1 ≤ n) (h2 : n ≤ 32) (h : (at_ : Int) + n ≤ 8 * (S.length : Int)) : getE S at_ n = 0 := by
  unfold getE
  rw [if_neg (by omega), if_neg (by omega)]
theorem getE_three {S : List UInt8} {at_ : Nat} {n : Int} (h1 : 1 ≤ n) (h2 : n ≤ 32) (h : 8 * (S.length : Int) < (at_ : Int) + n) : getE S at_ n = 3 := by
  unfold getE
  rw [if_neg (by omega), if_pos h]
theorem getV_pre {S : List UInt8} {c at_ : Nat} {n : Int} (h1 : 1 ≤ n) (h2 : n ≤ 32) (hc : c ≤ S.length) (h : (at_ : Int) + n ≤ 8 * (c : Int)) : getV (S.take c) at_ n = getV S at_ n ∧ getAt (S.take c) at_ n = getAt S at_ n := by
  have e1 : getE S at_ n = 0 := getE_zero h1 h2 (by omega)
  have e2 : getE (S.take c) at_ n = 0 := getE_zero h1 h2 (by rw [List.length_take]; omega)
  unfold getV getAt
  rw [e1, e2, if_pos rfl, if_pos rfl, if_pos rfl, getBits_pre (by omega)]
  exact ⟨rfl, rfl⟩

set_option maxRecDepth 100000 in
set_option maxHeartbeats 4000000 in
theorem lawBitsPieces {s : ByteArray} {cut0 n : Int} {w : World} (_hs : s.size ≤ maxLen) (hcut1 : -9223372036854775808 ≤ cut0) (hcut2 : cut0 ≤ 9223372036854775807) (hn1 : -9223372036854775808 ≤ n) (hn2 : n ≤ 9223372036854775807) :
    Calls Try.prog 5 #[.string s, .int .i64 cut0, .int .i64 n] w fun e w' => e = .returned (.bool true) ∧ Below w.heap.size w w' := by
  by_cases hg : s.size ≤ 100 ∧ 0 ≤ cut0 ∧ cut0 ≤ (s.size : Int) ∧ 1 ≤ n ∧ n ≤ 32
  · obtain ⟨g1, g2, g3, g4, g5⟩ := hg
    obtain ⟨cut, rfl⟩ : ∃ c : Nat, cut0 = c := ⟨cut0.toNat, by omega⟩
    obtain ⟨S, hS⟩ : ∃ z, s.data.toList = z := ⟨_, rfl⟩
    have hSl : s.size = S.length := by rw [← hS]; rfl
    have HCUT := Lib.hid (show cut ≤ S.length by omega)
    have HSL := Lib.hid hSl
    have HS := Lib.hid hS
    have hd1 : decide ((100 : Int) < (s.size : Int)) = false := decide_eq_false (by omega)
    have hd2 : decide ((cut : Int) < 0) = false := decide_eq_false (by omega)
    have hd3 : decide (s.size < cut) = false := decide_eq_false (by omega)
    have hd4 : decide (n < 1) = false := decide_eq_false (by omega)
    have hd5 : decide ((32 : Int) < n) = false := decide_eq_false (by omega)
    have g3b : cut ≤ s.size := by omega
    clear hS hSl
    go_enter Try.func5, Try.ntmps5
    go_wp2_with fail
    refine (rnew_any s _ (by omega)).mono ?_
    rintro e w1 ⟨ba, rfl, hba, hra, hb1⟩
    rw [HS.out] at hra
    have HBA := Lib.hid (show w.heap.size ≤ ba by omega)
    have HRA1 := Lib.hid hra
    have HBAL := Lib.hid hra.box.lt
    clear hba hra
    have hxz : (s.extract 0 cut).size ≤ 1000000 := by rw [str_of s, HS.out, str_extract, str_size, List.length_take]; have := HSL.out; omega
    have HXL := Lib.hid (show (s.extract 0 cut).data.toList = S.take cut by
      have e : s.extract 0 cut = str (S.take cut) := by rw [str_of s, HS.out, str_extract, List.drop_zero, Nat.sub_zero]
      rw [e]
      rfl)
    obtain ⟨sx, hsx⟩ : ∃ z, s.extract 0 cut = z := ⟨_, rfl⟩
    rw [hsx] at hxz HXL
    have HSX := Lib.hid hsx
    clear hsx
    go_wp2_with fail
    rw [HSX.out]
    refine (rnew_any sx _ hxz).mono ?_
    rintro e w2 ⟨bb, rfl, hbb, hrb, hb2⟩
    rw [HXL.out] at hrb
    have HBB := Lib.hid (show w.heap.size ≤ bb by have := hb1.size; omega)
    have HNE := Lib.hid (show ba ≠ bb by have := HBAL.out; omega)
    have HRB1 := Lib.hid hrb
    have HRA2 := Lib.hid (HRA1.out.below hb2)
    have hbel2 := below_two hb1 hb2
    have HX2 := Lib.hid (show s.extract cut s.size = str (S.drop cut) by
      rw [str_of s, HS.out, str_extract, str_size, List.take_of_length_le (by rw [List.length_drop]; omega)])
    have hwr : IntKind.i64.wrap (8 * (s.size : Int)) = ((8 * s.size : Nat) : Int) := by rw [IntWalk.i64_in _ (by omega)]; omega
    clear hbb hrb hb2 hb1 HRA1 hd1 hd2 hd3 hd4 hd5
    go_wp2
    go_loopw [9, 10, 11, 12, 13, 45] (fun sc x y z u i wr => ∃ (k at_ : Nat) (SB : List UInt8) (d : Nat) (come : Bool), k ≤ 8 * s.size ∧ i = .int .i64 k ∧ sc = .bool come ∧ Hid (ReaderAt wr ba S 0 at_) ∧ Hid (ReaderAt wr bb SB d at_) ∧ Hid ((come = false → SB = S.take cut) ∧ (come = true → SB = S)) ∧ Below w.heap.size w wr) (fun _ _ _ _ _ i _ => 8 * s.size - (intOf i).toNat)
    case atStart => exact ⟨0, 0, S.take cut, 0, false, Nat.zero_le _, rfl, rfl, HRA2.out, HRB1.out, ⟨fun _ => rfl, fun h => (by cases h)⟩, hbel2⟩
    case round =>
      obtain ⟨k, at_, SB, d, come, hk, rfl, rfl, HRA0, HRB0, HC, hbel⟩ := hrel
      have hsz := hbel.size
      by_cases hlt : k < 8 * s.size
      · have hlt2 : (k : Int) < 8 * (s.size : Int) := by omega
        have h2 := getE_two (S := S) (at_ := at_) g4 g5
        cases come with
        | true =>
          obtain rfl : S = SB := (HC.out.2 rfl).symm
          rcases h2 with hE | hE
          · have HE := Lib.hid hE
            clear hE
            have HGA := Lib.hid (rget_any ba S 0 at_ n wr HRA0.out)
            rw [HE.out] at HGA
            obtain ⟨V, hV⟩ : ∃ z, getV S at_ n = z := ⟨_, rfl⟩
            obtain ⟨A2, hA⟩ : ∃ z, getAt S at_ n = z := ⟨_, rfl⟩
            have HV := Lib.hid hV
            have HA2 := Lib.hid hA
            rw [hV, hA] at HGA
            clear hV hA
            go_wp2_with fail
            refine HGA.out.mono ?_
            rintro e wa ⟨rfl, hda⟩
            have HRA := Lib.hid hda.1
            have HRB1 := Lib.hid (HRB0.out.keep hda.2 (fun h => HNE.out h.symm))
            have hbela := hbel.trans (hda.2.below (B := w.heap.size) hsz (fun j hj h => by have h2 : j = ba := h; have := HBA.out; omega))
            clear HGA hda

            have HGB := Lib.hid (rget_any bb S d at_ n wa HRB1.out)
            rw [HE.out, HV.out, HA2.out] at HGB
            go_wp2_with fail
            refine HGB.out.mono ?_
            rintro e wb ⟨rfl, hdb⟩
            have HRB := Lib.hid hdb
            have HRA := Lib.hid (HRA.out.keep hdb.2 (fun h => HNE.out h))
            have hbelb := hbela.trans (hdb.2.below (B := w.heap.size) hbela.size (fun j hj h => by have h2 : j = bb := h; have := HBB.out; omega))
            clear HGB hdb
            have hvv : ((V : Int) != (V : Int)) = false := by simp
            have haa : ((A2 : Int) != (A2 : Int)) = false := by simp

            have HDR := Lib.hid (rdrop_any bb S d A2 wb HRB.out.1)
            go_wp2_with fail
            refine HDR.out.mono ?_
            rintro e w9 ⟨rfl, hd9⟩
            have HRB9 := Lib.hid hd9.1
            have HRA9 := Lib.hid (HRA.out.keep hd9.2 (fun h => HNE.out h))
            have hbel9 := hbelb.trans (hd9.2.below (B := w.heap.size) hbelb.size (fun j hj h => by have h2 : j = bb := h; have := HBB.out; omega))
            obtain ⟨dr, hdr⟩ : ∃ z, A2 / 8 - d = z := ⟨_, rfl⟩
            rw [hdr]
            have HAA := Lib.hid (rat_any ba S 0 A2 w9 HRA9.out)
            have HAB := Lib.hid (rat_any bb S (A2 / 8) A2 w9 HRB9.out)
            clear HDR hd9 hdr HRB HRA
            go_wp2_with fail
            refine HAA.out.mono ?_
            rintro e w8 ⟨rfl, rfl⟩
            go_wp2_with fail
            refine HAB.out.mono ?_
            rintro e w8 ⟨rfl, rfl⟩
            clear HAA HAB
            go_wp2
            go_roundw
            case rel => exact ⟨k + 1, A2, S, A2 / 8, true, by omega, by go_num, rfl, HRA9.out, HRB9.out, ⟨fun h => (by cases h), fun _ => rfl⟩, hbel9⟩
            case measure => simp [intOf]; omega
          · have HE := Lib.hid hE
            clear hE
            have HGA := Lib.hid (rget_any ba S 0 at_ n wr HRA0.out)
            rw [HE.out] at HGA
            obtain ⟨V, hV⟩ : ∃ z, getV S at_ n = z := ⟨_, rfl⟩
            obtain ⟨A2, hA⟩ : ∃ z, getAt S at_ n = z := ⟨_, rfl⟩
            have HV := Lib.hid hV
            have HA2 := Lib.hid hA
            rw [hV, hA] at HGA
            clear hV hA
            go_wp2_with fail
            refine HGA.out.mono ?_
            rintro e wa ⟨rfl, hda⟩
            have HRA := Lib.hid hda.1
            have HRB1 := Lib.hid (HRB0.out.keep hda.2 (fun h => HNE.out h.symm))
            have hbela := hbel.trans (hda.2.below (B := w.heap.size) hsz (fun j hj h => by have h2 : j = ba := h; have := HBA.out; omega))
            clear HGA hda

            have HGB := Lib.hid (rget_any bb S d at_ n wa HRB1.out)
            rw [HE.out, HV.out, HA2.out] at HGB
            go_wp2_with fail
            refine HGB.out.mono ?_
            rintro e wb ⟨rfl, hdb⟩
            have HRB := Lib.hid hdb
            have HRA := Lib.hid (HRA.out.keep hdb.2 (fun h => HNE.out h))
            have hbelb := hbela.trans (hdb.2.below (B := w.heap.size) hbela.size (fun j hj h => by have h2 : j = bb := h; have := HBB.out; omega))
            clear HGB hdb
            have hvv : ((V : Int) != (V : Int)) = false := by simp
            have haa : ((A2 : Int) != (A2 : Int)) = false := by simp

            have HDR := Lib.hid (rdrop_any bb S d A2 wb HRB.out.1)
            go_wp2_with fail
            refine HDR.out.mono ?_
            rintro e w9 ⟨rfl, hd9⟩
            have HRB9 := Lib.hid hd9.1
            have HRA9 := Lib.hid (HRA.out.keep hd9.2 (fun h => HNE.out h))
            have hbel9 := hbelb.trans (hd9.2.below (B := w.heap.size) hbelb.size (fun j hj h => by have h2 : j = bb := h; have := HBB.out; omega))
            obtain ⟨dr, hdr⟩ : ∃ z, A2 / 8 - d = z := ⟨_, rfl⟩
            rw [hdr]
            have HAA := Lib.hid (rat_any ba S 0 A2 w9 HRA9.out)
            have HAB := Lib.hid (rat_any bb S (A2 / 8) A2 w9 HRB9.out)
            clear HDR hd9 hdr HRB HRA
            go_wp2_with fail
            refine HAA.out.mono ?_
            rintro e w8 ⟨rfl, rfl⟩
            go_wp2_with fail
            refine HAB.out.mono ?_
            rintro e w8 ⟨rfl, rfl⟩
            clear HAA HAB
            go_wp2
            go_roundw
            case rel => exact ⟨k + 1, A2, S, A2 / 8, true, by omega, by go_num, rfl, HRA9.out, HRB9.out, ⟨fun h => (by cases h), fun _ => rfl⟩, hbel9⟩
            case measure => simp [intOf]; omega
        | false =>
          obtain rfl : SB = S.take cut := HC.out.1 rfl
          by_cases hin : (at_ : Int) + n ≤ 8 * (cut : Int)
          · have HE := Lib.hid (getE_zero (S := S) (at_ := at_) g4 g5 (by have := HCUT.out; omega))
            have HE2 := Lib.hid (getE_zero (S := S.take cut) (at_ := at_) g4 g5 (by rw [List.length_take]; have := HCUT.out; omega))
            have HVP := Lib.hid (getV_pre g4 g5 HCUT.out hin)
            clear h2
            have HGA := Lib.hid (rget_any ba S 0 at_ n wr HRA0.out)
            rw [HE.out] at HGA
            obtain ⟨V, hV⟩ : ∃ z, getV S at_ n = z := ⟨_, rfl⟩
            obtain ⟨A2, hA⟩ : ∃ z, getAt S at_ n = z := ⟨_, rfl⟩
            have HV := Lib.hid hV
            have HA2 := Lib.hid hA
            rw [hV, hA] at HGA
            clear hV hA
            go_wp2_with fail
            refine HGA.out.mono ?_
            rintro e wa ⟨rfl, hda⟩
            have HRA := Lib.hid hda.1
            have HRB1 := Lib.hid (HRB0.out.keep hda.2 (fun h => HNE.out h.symm))
            have hbela := hbel.trans (hda.2.below (B := w.heap.size) hsz (fun j hj h => by have h2 : j = ba := h; have := HBA.out; omega))
            clear HGA hda

            have HGB := Lib.hid (rget_any bb (S.take cut) d at_ n wa HRB1.out)
            rw [HE2.out, HVP.out.1, HVP.out.2, HV.out, HA2.out] at HGB
            go_wp2_with fail
            refine HGB.out.mono ?_
            rintro e wb ⟨rfl, hdb⟩
            have HRB := Lib.hid hdb
            have HRA := Lib.hid (HRA.out.keep hdb.2 (fun h => HNE.out h))
            have hbelb := hbela.trans (hdb.2.below (B := w.heap.size) hbela.size (fun j hj h => by have h2 : j = bb := h; have := HBB.out; omega))
            clear HGB hdb
            have hvv : ((V : Int) != (V : Int)) = false := by simp
            have haa : ((A2 : Int) != (A2 : Int)) = false := by simp

            have HDR := Lib.hid (rdrop_any bb (S.take cut) d A2 wb HRB.out.1)
            go_wp2_with fail
            refine HDR.out.mono ?_
            rintro e w9 ⟨rfl, hd9⟩
            have HRB9 := Lib.hid hd9.1
            have HRA9 := Lib.hid (HRA.out.keep hd9.2 (fun h => HNE.out h))
            have hbel9 := hbelb.trans (hd9.2.below (B := w.heap.size) hbelb.size (fun j hj h => by have h2 : j = bb := h; have := HBB.out; omega))
            obtain ⟨dr, hdr⟩ : ∃ z, A2 / 8 - d = z := ⟨_, rfl⟩
            rw [hdr]
            have HAA := Lib.hid (rat_any ba S 0 A2 w9 HRA9.out)
            have HAB := Lib.hid (rat_any bb (S.take cut) (A2 / 8) A2 w9 HRB9.out)
            clear HDR hd9 hdr HRB HRA
            go_wp2_with fail
            refine HAA.out.mono ?_
            rintro e w8 ⟨rfl, rfl⟩
            go_wp2_with fail
            refine HAB.out.mono ?_
            rintro e w8 ⟨rfl, rfl⟩
            clear HAA HAB
            go_wp2
            go_roundw
            case rel => exact ⟨k + 1, A2, (S.take cut), A2 / 8, false, by omega, by go_num, rfl, HRA9.out, HRB9.out, ⟨fun _ => rfl, fun h => (by cases h)⟩, hbel9⟩
            case measure => simp [intOf]; omega
          · have HE2 := Lib.hid (getE_three (S := S.take cut) (at_ := at_) g4 g5 (by rw [List.length_take]; have := HCUT.out; omega))
            rcases h2 with hE | hE
            · have HE := Lib.hid hE
              clear hE hin
              have HGA := Lib.hid (rget_any ba S 0 at_ n wr HRA0.out)
              rw [HE.out] at HGA
              obtain ⟨V, hV⟩ : ∃ z, getV S at_ n = z := ⟨_, rfl⟩
              obtain ⟨A2, hA⟩ : ∃ z, getAt S at_ n = z := ⟨_, rfl⟩
              have HV := Lib.hid hV
              have HA2 := Lib.hid hA
              rw [hV, hA] at HGA
              clear hV hA
              go_wp2_with fail
              refine HGA.out.mono ?_
              rintro e wa ⟨rfl, hda⟩
              have HRA := Lib.hid hda.1
              have HRB1 := Lib.hid (HRB0.out.keep hda.2 (fun h => HNE.out h.symm))
              have hbela := hbel.trans (hda.2.below (B := w.heap.size) hsz (fun j hj h => by have h2 : j = ba := h; have := HBA.out; omega))
              clear HGA hda

              have HGB := Lib.hid (rget_any bb (S.take cut) d at_ n wa HRB1.out)
              rw [show getV (S.take cut) at_ n = 0 by unfold getV; rw [HE2.out]; rfl, show getAt (S.take cut) at_ n = at_ by unfold getAt; rw [HE2.out]; rfl, HE2.out] at HGB
              go_wp2_with fail
              refine HGB.out.mono ?_
              rintro e wm ⟨rfl, hdm⟩
              have HRBM := Lib.hid hdm.1
              have HRAM := Lib.hid (HRA.out.keep hdm.2 (fun h => HNE.out h))
              have hbelm := hbela.trans (hdm.2.below (B := w.heap.size) hbela.size (fun j hj h => by have h2 : j = bb := h; have := HBB.out; omega))
              have HMO := Lib.hid (rmore_any bb (S.take cut) (S.drop cut) d at_ _ wm HRBM.out HX2.out (by rw [List.length_take, List.length_drop]; have := HSL.out; omega))
              rw [List.take_append_drop] at HMO
              clear HGB hdm HRA HRB1
              go_wp2_with fail
              refine HMO.out.mono ?_
              rintro e wo ⟨rfl, hdo⟩
              have HRB1 := Lib.hid hdo.1
              have HRA := Lib.hid (HRAM.out.keep hdo.2 (fun h => HNE.out h))
              have hbelo := hbelm.trans (hdo.2.below (B := w.heap.size) hbelm.size (fun j hj h => by have h2 : j = bb := h; have := HBB.out; omega))
              clear HMO hdo HRAM HRBM

              have HGB := Lib.hid (rget_any bb S d at_ n wo HRB1.out)
              rw [HE.out, HV.out, HA2.out] at HGB
              go_wp2_with fail
              refine HGB.out.mono ?_
              rintro e wb ⟨rfl, hdb⟩
              have HRB := Lib.hid hdb
              have HRA := Lib.hid (HRA.out.keep hdb.2 (fun h => HNE.out h))
              have hbelb := hbelo.trans (hdb.2.below (B := w.heap.size) hbelo.size (fun j hj h => by have h2 : j = bb := h; have := HBB.out; omega))
              clear HGB hdb
              have hvv : ((V : Int) != (V : Int)) = false := by simp
              have haa : ((A2 : Int) != (A2 : Int)) = false := by simp

              have HDR := Lib.hid (rdrop_any bb S d A2 wb HRB.out.1)
              go_wp2_with fail
              refine HDR.out.mono ?_
              rintro e w9 ⟨rfl, hd9⟩
              have HRB9 := Lib.hid hd9.1
              have HRA9 := Lib.hid (HRA.out.keep hd9.2 (fun h => HNE.out h))
              have hbel9 := hbelb.trans (hd9.2.below (B := w.heap.size) hbelb.size (fun j hj h => by have h2 : j = bb := h; have := HBB.out; omega))
              obtain ⟨dr, hdr⟩ : ∃ z, A2 / 8 - d = z := ⟨_, rfl⟩
              rw [hdr]
              have HAA := Lib.hid (rat_any ba S 0 A2 w9 HRA9.out)
              have HAB := Lib.hid (rat_any bb S (A2 / 8) A2 w9 HRB9.out)
              clear HDR hd9 hdr HRB HRA
              go_wp2_with fail
              refine HAA.out.mono ?_
              rintro e w8 ⟨rfl, rfl⟩
              go_wp2_with fail
              refine HAB.out.mono ?_
              rintro e w8 ⟨rfl, rfl⟩
              clear HAA HAB
              go_wp2
              go_roundw
              case rel => exact ⟨k + 1, A2, S, A2 / 8, true, by omega, by go_num, rfl, HRA9.out, HRB9.out, ⟨fun h => (by cases h), fun _ => rfl⟩, hbel9⟩
              case measure => simp [intOf]; omega
            · have HE := Lib.hid hE
              clear hE hin
              have HGA := Lib.hid (rget_any ba S 0 at_ n wr HRA0.out)
              rw [HE.out] at HGA
              obtain ⟨V, hV⟩ : ∃ z, getV S at_ n = z := ⟨_, rfl⟩
              obtain ⟨A2, hA⟩ : ∃ z, getAt S at_ n = z := ⟨_, rfl⟩
              have HV := Lib.hid hV
              have HA2 := Lib.hid hA
              rw [hV, hA] at HGA
              clear hV hA
              go_wp2_with fail
              refine HGA.out.mono ?_
              rintro e wa ⟨rfl, hda⟩
              have HRA := Lib.hid hda.1
              have HRB1 := Lib.hid (HRB0.out.keep hda.2 (fun h => HNE.out h.symm))
              have hbela := hbel.trans (hda.2.below (B := w.heap.size) hsz (fun j hj h => by have h2 : j = ba := h; have := HBA.out; omega))
              clear HGA hda

              have HGB := Lib.hid (rget_any bb (S.take cut) d at_ n wa HRB1.out)
              rw [show getV (S.take cut) at_ n = 0 by unfold getV; rw [HE2.out]; rfl, show getAt (S.take cut) at_ n = at_ by unfold getAt; rw [HE2.out]; rfl, HE2.out] at HGB
              go_wp2_with fail
              refine HGB.out.mono ?_
              rintro e wm ⟨rfl, hdm⟩
              have HRBM := Lib.hid hdm.1
              have HRAM := Lib.hid (HRA.out.keep hdm.2 (fun h => HNE.out h))
              have hbelm := hbela.trans (hdm.2.below (B := w.heap.size) hbela.size (fun j hj h => by have h2 : j = bb := h; have := HBB.out; omega))
              have HMO := Lib.hid (rmore_any bb (S.take cut) (S.drop cut) d at_ _ wm HRBM.out HX2.out (by rw [List.length_take, List.length_drop]; have := HSL.out; omega))
              rw [List.take_append_drop] at HMO
              clear HGB hdm HRA HRB1
              go_wp2_with fail
              refine HMO.out.mono ?_
              rintro e wo ⟨rfl, hdo⟩
              have HRB1 := Lib.hid hdo.1
              have HRA := Lib.hid (HRAM.out.keep hdo.2 (fun h => HNE.out h))
              have hbelo := hbelm.trans (hdo.2.below (B := w.heap.size) hbelm.size (fun j hj h => by have h2 : j = bb := h; have := HBB.out; omega))
              clear HMO hdo HRAM HRBM

              have HGB := Lib.hid (rget_any bb S d at_ n wo HRB1.out)
              rw [HE.out, HV.out, HA2.out] at HGB
              go_wp2_with fail
              refine HGB.out.mono ?_
              rintro e wb ⟨rfl, hdb⟩
              have HRB := Lib.hid hdb
              have HRA := Lib.hid (HRA.out.keep hdb.2 (fun h => HNE.out h))
              have hbelb := hbelo.trans (hdb.2.below (B := w.heap.size) hbelo.size (fun j hj h => by have h2 : j = bb := h; have := HBB.out; omega))
              clear HGB hdb
              have hvv : ((V : Int) != (V : Int)) = false := by simp
              have haa : ((A2 : Int) != (A2 : Int)) = false := by simp

              have HDR := Lib.hid (rdrop_any bb S d A2 wb HRB.out.1)
              go_wp2_with fail
              refine HDR.out.mono ?_
              rintro e w9 ⟨rfl, hd9⟩
              have HRB9 := Lib.hid hd9.1
              have HRA9 := Lib.hid (HRA.out.keep hd9.2 (fun h => HNE.out h))
              have hbel9 := hbelb.trans (hd9.2.below (B := w.heap.size) hbelb.size (fun j hj h => by have h2 : j = bb := h; have := HBB.out; omega))
              obtain ⟨dr, hdr⟩ : ∃ z, A2 / 8 - d = z := ⟨_, rfl⟩
              rw [hdr]
              have HAA := Lib.hid (rat_any ba S 0 A2 w9 HRA9.out)
              have HAB := Lib.hid (rat_any bb S (A2 / 8) A2 w9 HRB9.out)
              clear HDR hd9 hdr HRB HRA
              go_wp2_with fail
              refine HAA.out.mono ?_
              rintro e w8 ⟨rfl, rfl⟩
              go_wp2_with fail
              refine HAB.out.mono ?_
              rintro e w8 ⟨rfl, rfl⟩
              clear HAA HAB
              go_wp2
              go_roundw
              case rel => exact ⟨k + 1, A2, S, A2 / 8, true, by omega, by go_num, rfl, HRA9.out, HRB9.out, ⟨fun h => (by cases h), fun _ => rfl⟩, hbel9⟩
              case measure => simp [intOf]; omega
      · obtain rfl : k = 8 * s.size := by omega
        go_wp2_with fail
        refine (five_any _).mono ?_
        rintro e w7 ⟨rfl, hb7⟩
        have hbel7 := hbel.trans (below_of hb7 hbel.size)
        clear hb7
        go_wp2
        go_ret
        exact ⟨rfl, hbel7⟩
  · by_cases c1 : s.size ≤ 100
    · have d1 : decide ((100 : Int) < (s.size : Int)) = false := decide_eq_false (by omega)
      by_cases c2 : 0 ≤ cut0
      · have d2 : decide (cut0 < 0) = false := decide_eq_false (by omega)
        by_cases c3 : cut0 ≤ (s.size : Int)
        · have d3 : decide ((s.size : Int) < cut0) = false := decide_eq_false (by omega)
          by_cases c4 : 1 ≤ n
          · have d4 : decide (n < 1) = false := decide_eq_false (by omega)
            have d5 : decide ((32 : Int) < n) = true := decide_eq_true (by omega)
            clear hg
            go_enter Try.func5, Try.ntmps5
            go_wp2_with fail
            refine (five_any _).mono ?_
            rintro e w7 ⟨rfl, hb7⟩
            go_wp2
            go_ret
            exact ⟨rfl, hb7⟩
          · have d4 : decide (n < 1) = true := decide_eq_true (by omega)
            clear hg
            go_enter Try.func5, Try.ntmps5
            go_wp2_with fail
            refine (five_any _).mono ?_
            rintro e w7 ⟨rfl, hb7⟩
            go_wp2
            go_ret
            exact ⟨rfl, hb7⟩
        · have d3 : decide ((s.size : Int) < cut0) = true := decide_eq_true (by omega)
          clear hg
          go_enter Try.func5, Try.ntmps5
          go_wp2_with fail
          refine (five_any _).mono ?_
          rintro e w7 ⟨rfl, hb7⟩
          go_wp2
          go_ret
          exact ⟨rfl, hb7⟩
      · have d2 : decide (cut0 < 0) = true := decide_eq_true (by omega)
        clear hg
        go_enter Try.func5, Try.ntmps5
        go_wp2_with fail
        refine (five_any _).mono ?_
        rintro e w7 ⟨rfl, hb7⟩
        go_wp2
        go_ret
        exact ⟨rfl, hb7⟩
    · have d1 : decide ((100 : Int) < (s.size : Int)) = true := decide_eq_true (by omega)
      clear hg
      go_enter Try.func5, Try.ntmps5
      go_wp2_with fail
      refine (five_any _).mono ?_
      rintro e w7 ⟨rfl, hb7⟩
      go_wp2
      go_ret
      exact ⟨rfl, hb7⟩
end Go.Proofs.Ytbbiohcmfhdmnaa

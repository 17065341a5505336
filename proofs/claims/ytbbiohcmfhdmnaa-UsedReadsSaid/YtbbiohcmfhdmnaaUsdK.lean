/- Package used: letter; UsedSymbols, UsedLeast, UsedNil. -/
import Derived.Test.YtbbiohcmfhdmnaaUsdJ
import Derived.Test.YtbbiohcmfhdmnaaBitE
namespace Go.Proofs.Ytbbiohcmfhdmnaa
open Go.RowKit

theorem letter_bytes : str ((bytesL ([] ++ usedBits (thereL [97]))).drop 0) = ⟨#[2, 0, 64, 0]⟩ := by kernel_rfl
theorem letter_read : refRead (restB [2, 0, 64, 0] 0) = ([97], 32, 0) := by kernel_rfl
theorem letter_is : isL [97] = true := by kernel_rfl
theorem letter_sym : str (symL (thereL [99, 97, 98, 97, 99])) = ⟨#[97, 98, 99]⟩ := by kernel_rfl

set_option maxHeartbeats 1000000 in
set_option maxRecDepth 100000 in
theorem letter05_any (w : World) : Calls Try.prog 38 #[] w fun e w' => e = .returned (.bool true) ∧ Below w.heap.size w w' := by
  have HW := Lib.hid (fun G B b k w h => write_any G B b [] k ⟨#[97]⟩ [97] w h (by decide) rfl (by decide) letter_is)
  have HT := Lib.hid (fun G B b k w h => lwtake_any G B b ([] ++ usedBits (thereL [97])) k w h)
  have HN := Lib.hid (fun w => rnew_any ⟨#[2, 0, 64, 0]⟩ w (by decide))
  have HR := Lib.hid (fun br w h => Read_any br [2, 0, 64, 0] 0 0 w h)
  have HS := Lib.hid (fun w => symbols_any ⟨#[99, 97, 98, 97, 99]⟩ [99, 97, 98, 97, 99] w rfl (by decide))
  rw [letter_sym] at HS
  go_enter Try.func38, Try.ntmps38
  go_wp2_with fail
  refine (lwnew_any w (fun _ => False) w.heap.size (Nat.le_refl _) (nog w)).mono ?_
  rintro e w1 ⟨b, rfl, -, hw1, hb1⟩
  have HW1 := Lib.hid hw1
  clear hw1
  go_wp2_with fail
  refine (HW.out _ _ _ _ _ HW1.out).mono ?_
  rintro e w2 ⟨rfl, hw2, hk2⟩
  have HW2 := Lib.hid hw2
  have hb2 := hb1.trans (zone_below hk2 hb1.size)
  clear HW hw2 hk2 HW1 hb1
  go_wp2_with fail
  refine (HT.out _ _ _ _ _ HW2.out).mono ?_
  rw [letter_bytes]
  rintro e w3 ⟨rfl, hw3, hk3⟩
  have hb3 := hb2.trans (zone_below hk3 hb2.size)
  clear HT hw3 hk3 HW2 hb2
  go_wp2_with fail
  refine (HN.out _).mono ?_
  rintro e w4 ⟨br, rfl, hbr, hr, hb⟩
  have HR4 := Lib.hid hr
  have HBR := Lib.hid (show w.heap.size ≤ br by rw [hbr]; exact hb3.size)
  have hb4 := hb3.trans (below_of hb hb3.size)
  clear HN hbr hr hb hb3
  go_wp2_with fail
  refine (HR.out _ _ HR4.out).mono ?_
  rintro e w5 ⟨he, hd⟩
  rw [letter_read] at he
  subst he
  have hb5 := hb4.trans (hd.2.below (B := w.heap.size) hb4.size (fun j hj h => by have h2 : j = br := h; have := HBR.out; omega))
  clear HR HR4 hd hb4
  have hs1 : str [97] = ⟨#[97]⟩ := rfl
  rw [hs1]
  go_wp2_with fail
  refine (HS.out _).mono ?_
  rintro e w6 ⟨rfl, hb6⟩
  have hb7 := hb5.trans (below_of hb6 hb5.size)
  clear HS hb5 hb6
  go_wp2
  go_ret
  exact ⟨rfl, hb7⟩


set_option maxHeartbeats 1000000 in
set_option maxRecDepth 100000 in
theorem lawUsedSymbols {s : ByteArray} {w : World} (_hs : s.size ≤ maxLen) :
    Calls Try.prog 13 #[.string s] w fun e w' => e = .returned (.bool true) ∧ Below w.heap.size w w' := by
  have HLT := Lib.hid letter05_any
  by_cases hz : 300 < s.size
  · have ht : decide ((300 : Int) < (s.size : Int)) = true := decide_eq_true (by omega)
    have ht2 : decide (300 < s.size) = true := decide_eq_true (by omega)
    clear hz
    go_enter Try.func13, Try.ntmps13
    go_wp2_with fail
    refine (HLT.out _).mono ?_
    rintro e w1 ⟨rfl, hb⟩
    go_wp2
    go_ret
    exact ⟨rfl, hb⟩
  · have ht : decide ((300 : Int) < (s.size : Int)) = false := decide_eq_false (by omega)
    have ht2 : decide (300 < s.size) = false := decide_eq_false (by omega)
    obtain ⟨S, hS⟩ : ∃ S, s = str S := ⟨_, str_of s⟩
    have hl : S.length ≤ 300 := by have := str_size S; rw [← hS] at this; omega
    have HSY := Lib.hid (fun w => symbols_any s S w hS (by omega))
    have HRS := Lib.hid (fun w => refsym_any s S w hS (by omega))
    have HIS := Lib.hid (fun w => is_any s S w hS (by omega))
    have HRI := Lib.hid (fun w => refis_any s S w hS (by omega))
    have HRB := Lib.hid (fun w => refbits05_any s S w hS (by omega))
    have HBN := Lib.hid (fun w h => bits_no s S w hS (by omega) h)
    have HBY := Lib.hid (fun w h => bits_yes s S w hS (by omega) h)
    obtain ⟨q, hq⟩ : ∃ z, str (symL (thereL S)) = z := ⟨_, rfl⟩
    rw [hq] at HSY HRS
    clear hz hS hq
    cases his : isL S with
    | false =>
      rw [his] at HIS HRI
      have HB := Lib.hid (fun w => HBN.out w his)
      clear HBN HBY his
      go_enter Try.func13, Try.ntmps13
      go_wp2_with fail
      refine (HB.out _).mono ?_
      rintro e w1 ⟨rfl, hb⟩
      have HB1 := Lib.hid hb
      clear hb HB
      go_wp2_with fail
      refine (HSY.out _).mono ?_
      rintro e w2 ⟨rfl, hb⟩
      have HB2 := Lib.hid (below_two HB1.out hb)
      clear hb HB1 HSY
      go_wp2_with fail
      refine (HRS.out _).mono ?_
      rintro e w3 ⟨rfl, hb⟩
      have HB3 := Lib.hid (below_two HB2.out hb)
      clear hb HB2 HRS
      go_wp2_with fail
      refine (HIS.out _).mono ?_
      rintro e w4 ⟨rfl, hb⟩
      have HB4 := Lib.hid (below_two HB3.out (below_drawn hb))
      clear hb HB3 HIS
      go_wp2_with fail
      refine (HRI.out _).mono ?_
      rintro e w5 ⟨rfl, hb⟩
      have HB5 := Lib.hid (below_two HB4.out hb)
      clear hb HB4
      go_wp2_with fail
      refine (HRI.out _).mono ?_
      rintro e w6 ⟨rfl, hb⟩
      have HB6 := Lib.hid (below_two HB5.out hb)
      clear hb HB5 HRI
      go_wp2_with fail
      refine (HLT.out _).mono ?_
      rintro e w7 ⟨rfl, hb⟩
      have HB7 := Lib.hid (below_two HB6.out hb)
      clear hb HB6 HLT
      go_wp2
      go_ret
      exact ⟨rfl, HB7.out⟩
    | true =>
      rw [his] at HIS HRI
      have HB := Lib.hid (fun w => HBY.out w his)
      have hbl : (stx (usedBits (thereL S))).size = (usedBits (thereL S)).length := stx_size _
      obtain ⟨x, hx⟩ : ∃ z, stx (usedBits (thereL S)) = z := ⟨_, rfl⟩
      rw [hx] at HRB hbl
      rw [← hbl] at HB
      clear HBN HBY his hbl hx
      go_enter Try.func13, Try.ntmps13
      go_wp2_with fail
      refine (HB.out _).mono ?_
      rintro e w1 ⟨rfl, hb⟩
      have HB1 := Lib.hid hb
      clear hb HB
      go_wp2_with fail
      refine (HSY.out _).mono ?_
      rintro e w2 ⟨rfl, hb⟩
      have HB2 := Lib.hid (below_two HB1.out hb)
      clear hb HB1 HSY
      go_wp2_with fail
      refine (HRS.out _).mono ?_
      rintro e w3 ⟨rfl, hb⟩
      have HB3 := Lib.hid (below_two HB2.out hb)
      clear hb HB2 HRS
      go_wp2_with fail
      refine (HIS.out _).mono ?_
      rintro e w4 ⟨rfl, hb⟩
      have HB4 := Lib.hid (below_two HB3.out (below_drawn hb))
      clear hb HB3 HIS
      go_wp2_with fail
      refine (HRI.out _).mono ?_
      rintro e w5 ⟨rfl, hb⟩
      have HB5 := Lib.hid (below_two HB4.out hb)
      clear hb HB4
      go_wp2_with fail
      refine (HRI.out _).mono ?_
      rintro e w6 ⟨rfl, hb⟩
      have HB6 := Lib.hid (below_two HB5.out hb)
      clear hb HB5 HRI
      go_wp2_with fail
      refine (HRB.out _).mono ?_
      rintro e w7 ⟨rfl, rfl⟩
      clear HRB
      go_wp2_with fail
      refine (HLT.out _).mono ?_
      rintro e w7 ⟨rfl, hb⟩
      have HB7 := Lib.hid (below_two HB6.out hb)
      clear hb HB6 HLT
      go_wp2
      go_ret
      exact ⟨rfl, HB7.out⟩

set_option maxHeartbeats 1000000 in
set_option maxRecDepth 100000 in
theorem lawUsedNil {s : ByteArray} {w : World} (_hs : s.size ≤ maxLen) :
    Calls Try.prog 10 #[.string s] w fun e w' => e = .returned (.bool true) ∧ Below w.heap.size w w' := by
  have HLT := Lib.hid letter05_any
  by_cases hz : 300 < s.size
  · have ht : decide ((300 : Int) < (s.size : Int)) = true := decide_eq_true (by omega)
    have ht2 : decide (300 < s.size) = true := decide_eq_true (by omega)
    clear hz
    go_enter Try.func10, Try.ntmps10
    go_wp2_with fail
    refine (HLT.out _).mono ?_
    rintro e w1 ⟨rfl, hb⟩
    go_wp2
    go_ret
    exact ⟨rfl, hb⟩
  · have ht : decide ((300 : Int) < (s.size : Int)) = false := decide_eq_false (by omega)
    have ht2 : decide (300 < s.size) = false := decide_eq_false (by omega)
    clear hz
    go_enter Try.func10, Try.ntmps10
    go_wp2_with fail
    refine (Read_nil _).mono ?_
    rintro e w1 ⟨rfl, rfl⟩
    go_wp2_with fail
    refine (write_nil _ _).mono ?_
    rintro e w1 ⟨rfl, rfl⟩
    go_wp2_with fail
    refine (HLT.out _).mono ?_
    rintro e w7 ⟨rfl, hb⟩
    go_wp2
    go_ret
    exact ⟨rfl, hb⟩
end Go.Proofs.Ytbbiohcmfhdmnaa

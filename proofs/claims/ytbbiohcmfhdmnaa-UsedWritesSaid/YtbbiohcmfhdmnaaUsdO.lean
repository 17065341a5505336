/- Package used: UsedWrites. -/
import Derived.Test.YtbbiohcmfhdmnaaUsdN
namespace Go.Proofs.Ytbbiohcmfhdmnaa
open Go.RowKit

set_option maxHeartbeats 2000000 in
set_option maxRecDepth 100000 in
theorem lawUsedWrites {s : ByteArray} {vi n : Int} {w : World} (_hs : s.size ≤ maxLen) (hv1 : 0 ≤ vi) (hv2 : vi ≤ 4294967295) (_hn1 : -9223372036854775808 ≤ n) (_hn2 : n ≤ 9223372036854775807) :
    Calls Try.prog 12 #[.string s, .int .u32 vi, .int .i64 n] w fun e w' => e = .returned (.bool true) ∧ Below w.heap.size w w' := by
  have HLT := Lib.hid letter05_any
  obtain ⟨v, rfl⟩ : ∃ v : Nat, vi = v := ⟨vi.toNat, by omega⟩
  have hv : v < 4294967296 := by omega
  by_cases hz : 300 < s.size
  · have ht2 : decide (300 < s.size) = true := decide_eq_true (by omega)
    have ht2' : decide ((300 : Int) < (s.size : Int)) = true := decide_eq_true (by omega)
    clear hz
    go_enter Try.func12, Try.ntmps12
    go_wp2_with fail
    refine (HLT.out _).mono ?_
    rintro e w1 ⟨rfl, hb⟩
    go_wp2
    go_ret
    exact ⟨rfl, hb⟩
  have ht2 : decide (300 < s.size) = false := decide_eq_false (by omega)
  have ht2' : decide ((300 : Int) < (s.size : Int)) = false := decide_eq_false (by omega)
  have HF := Lib.hid (fun w => reffits_any v n w hv)
  cases hfit : fitsB v n with
  | false =>
    rw [hfit] at HF
    clear hz hfit
    go_enter Try.func12, Try.ntmps12
    go_wp2_with fail
    refine (HF.out _).mono ?_
    rintro e w1 ⟨rfl, rfl⟩
    go_wp2_with fail
    refine (HLT.out _).mono ?_
    rintro e w1 ⟨rfl, hb⟩
    go_wp2
    go_ret
    exact ⟨rfl, hb⟩
  | true =>
    rw [hfit] at HF
    obtain ⟨m, rfl, hm, hvm⟩ := fitsB_yes hfit
    obtain ⟨S, hS⟩ : ∃ S, s = str S := ⟨_, str_of s⟩
    have hl : S.length ≤ 300 := by have := str_size S; rw [← hS] at this; omega
    have HPU := Lib.hid (fun G B b k w h => lwput_any G B b [] k v (m : Int) w h (by decide) hv)
    have e1 : putE v (m : Int) = 0 := by unfold putE; rw [hfit]; rfl
    have e2 : putA [] v (m : Int) = fieldL v m := by unfold putA; rw [hfit]; rfl
    rw [e1, e2] at HPU
    have HFI := Lib.hid (fun w => field_any v (m : Int) w hv (by omega))
    rw [Int.toNat_natCast] at HFI
    have hfl : (fieldL v m).length = m := fieldL_len v m
    have HRI := Lib.hid (fun w => refis_any s S w hS (by omega))
    obtain ⟨A, hA⟩ : ∃ z, fieldL v m = z := ⟨_, rfl⟩
    rw [hA] at HPU HFI hfl
    obtain ⟨x, hx⟩ : ∃ z, stx A = z := ⟨_, rfl⟩
    have hxs : x.size = m := by rw [← hx, stx_size, hfl]
    have hxm : x.size ≤ 32 := by omega
    cases his : isL S with
    | false =>
      rw [his] at HRI
      rw [hx] at HFI
      have HW := Lib.hid (fun b w => write_no b s S w hS (by omega) his)
      have HLE := Lib.hid (fun G B b k w h => lwlen_any G B b A k w h)
      rw [hfl] at HLE
      clear hz hS hfit hvm e1 e2 hfl hA hx his
      go_enter Try.func12, Try.ntmps12
      go_wp2_with fail
      refine (HF.out _).mono ?_
      rintro e w1 ⟨rfl, rfl⟩
      clear HF
      go_wp2_with fail
      refine (lwnew_any w (fun _ => False) w.heap.size (Nat.le_refl _) (nog w)).mono ?_
      rintro e w1 ⟨b, rfl, -, hw1, hb1⟩
      have HW1 := Lib.hid hw1
      clear hw1
      go_wp2_with fail
      refine (HPU.out _ _ _ _ _ HW1.out).mono ?_
      rintro e w2 ⟨rfl, hw2, hk2⟩
      have HW2 := Lib.hid hw2
      have hb2 := hb1.trans (zone_below hk2 hb1.size)
      clear HPU hw2 hk2 HW1 hb1
      go_wp2_with fail
      refine (HW.out _ _).mono ?_
      rintro e w3 ⟨rfl, hd⟩
      have HW3 := Lib.hid (HW2.out.below (below_drawn hd))
      have hb3 := hb2.trans (below_of (below_drawn hd) hb2.size)
      clear HW hd HW2 hb2
      go_wp2_with fail
      refine (HFI.out _).mono ?_
      rintro e w4 ⟨rfl, rfl⟩
      clear HFI
      go_wp2_with fail
      refine (HRI.out _).mono ?_
      rintro e w4 ⟨rfl, hb⟩
      have HW4 := Lib.hid (HW3.out.below hb)
      have hb4 := hb3.trans (below_of hb hb3.size)
      clear HRI hb HW3 hb3
      go_wp2_with fail
      refine (HLE.out _ _ _ _ _ HW4.out).mono ?_
      rintro e w5 ⟨rfl, rfl⟩
      clear HLE
      go_wp2_with fail
      refine (HLT.out _).mono ?_
      rintro e w5 ⟨rfl, hb⟩
      have hb5 := hb4.trans (below_of hb hb4.size)
      clear HLT hb hb4
      go_wp2
      go_ret
      exact ⟨rfl, hb5⟩
    | true =>
      rw [his] at HRI
      have HW := Lib.hid (fun G B b k w h => write_any G B b A k s S w h (by omega) hS (by omega) his)
      have HRB := Lib.hid (fun w => refbits05_any s S w hS (by omega))
      have hum := usedBits_max (thereL S)
      obtain ⟨f, hf⟩ : ∃ z, thereL S = z := ⟨_, rfl⟩
      rw [hf] at HW HRB hum
      have hcat : stx A ++ stx (usedBits f) = stx (A ++ usedBits f) := stx_append _ _
      obtain ⟨U, hU⟩ : ∃ z, usedBits f = z := ⟨_, rfl⟩
      rw [hU] at HW HRB hum hcat
      have hal : (A ++ U).length ≤ 304 := by rw [List.length_append]; omega
      obtain ⟨C, hC⟩ : ∃ z, A ++ U = z := ⟨_, rfl⟩
      rw [hC] at HW hcat hal
      have HPA := Lib.hid (fun G B b k w h => lwpad_any G B b C k w h (by omega))
      have HT := Lib.hid (fun G B b w h => lwtake_any G B b (padL C) 0 w h)
      have HPK := Lib.hid (fun w => refpack_any _ C w rfl (by omega))
      rw [List.drop_zero] at HT
      obtain ⟨y, hy⟩ : ∃ z, stx U = z := ⟨_, rfl⟩
      have hys : y.size ≤ 272 := by rw [← hy, stx_size]; exact hum
      obtain ⟨c, hc⟩ : ∃ z, stx C = z := ⟨_, rfl⟩
      obtain ⟨p, hp⟩ : ∃ z, str (bytesL (padL C)) = z := ⟨_, rfl⟩
      rw [hx, hy, hc] at hcat
      rw [hx] at HFI
      rw [hy] at HRB
      rw [hc, hp] at HPK
      rw [hp] at HT
      clear hz hS hfit hvm e1 e2 hfl hA hx his hf hU hC hy hc hp hal hum
      go_enter Try.func12, Try.ntmps12
      go_wp2_with fail
      refine (HF.out _).mono ?_
      rintro e w1 ⟨rfl, rfl⟩
      clear HF
      go_wp2_with fail
      refine (lwnew_any w (fun _ => False) w.heap.size (Nat.le_refl _) (nog w)).mono ?_
      rintro e w1 ⟨b, rfl, -, hw1, hb1⟩
      have HW1 := Lib.hid hw1
      clear hw1
      go_wp2_with fail
      refine (HPU.out _ _ _ _ _ HW1.out).mono ?_
      rintro e w2 ⟨rfl, hw2, hk2⟩
      have HW2 := Lib.hid hw2
      have hb2 := hb1.trans (zone_below hk2 hb1.size)
      clear HPU hw2 hk2 HW1 hb1
      go_wp2_with fail
      refine (HW.out _ _ _ _ _ HW2.out).mono ?_
      rintro e w3 ⟨rfl, hw3, hk3⟩
      have HW3 := Lib.hid hw3
      have hb3 := hb2.trans (zone_below hk3 hb2.size)
      clear HW hw3 hk3 HW2 hb2
      go_wp2_with fail
      refine (HFI.out _).mono ?_
      rintro e w4 ⟨rfl, rfl⟩
      clear HFI
      go_wp2_with fail
      refine (HRI.out _).mono ?_
      rintro e w4 ⟨rfl, hb⟩
      have HW4 := Lib.hid (HW3.out.below hb)
      have hb4 := hb3.trans (below_of hb hb3.size)
      clear HRI hb HW3 hb3
      go_wp2_with fail
      refine (HRB.out _).mono ?_
      rintro e w5 ⟨rfl, rfl⟩
      clear HRB
      go_wp2_with fail
      refine (HPA.out _ _ _ _ _ HW4.out).mono ?_
      rintro e w5 ⟨rfl, hw5, hk5⟩
      have HW5 := Lib.hid hw5
      have hb5 := hb4.trans (zone_below hk5 hb4.size)
      clear HPA hw5 hk5 HW4 hb4
      go_wp2_with fail
      refine (HT.out _ _ _ _ HW5.out).mono ?_
      rintro e w6 ⟨rfl, hw6, hk6⟩
      have hb6 := hb5.trans (zone_below hk6 hb5.size)
      clear HT hw6 hk6 HW5 hb5
      go_wp2_with fail
      refine (HPK.out _).mono ?_
      rintro e w7 ⟨rfl, hb⟩
      have hb7 := hb6.trans (below_of hb hb6.size)
      clear HPK hb hb6
      go_wp2_with fail
      refine (HLT.out _).mono ?_
      rintro e w8 ⟨rfl, hb⟩
      have hb8 := hb7.trans (below_of hb hb7.size)
      clear HLT hb hb7
      go_wp2
      go_ret
      exact ⟨rfl, hb8⟩
end Go.Proofs.Ytbbiohcmfhdmnaa

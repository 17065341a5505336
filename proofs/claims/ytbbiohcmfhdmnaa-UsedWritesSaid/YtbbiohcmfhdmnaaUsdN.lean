/- Package used: UsedLeast, UsedBack, UsedWrites. -/
import Derived.Test.YtbbiohcmfhdmnaaUsdK
import Derived.Test.YtbbiohcmfhdmnaaBitG
namespace Go.Proofs.Ytbbiohcmfhdmnaa
open Go.RowKit

theorem wfu8 {n : Int} (h : (Lit.int .u8 n).wf = true) : 0 ≤ n ∧ n ≤ 255 := by
  have h1 : IntKind.u8.min = 0 := rfl
  have h2 : IntKind.u8.max = 255 := rfl
  simp only [Lit.wf, Bool.and_eq_true, decide_eq_true_eq] at h
  omega

theorem isL_sym {S : List UInt8} (h : S ≠ []) : isL (symL (thereL S)) = true := by
  unfold isL
  rw [symL_up]
  have h2 : symL (thereL S) ≠ [] := fun e => h ((symL_nil_iff S).1 e)
  cases hx : symL (thereL S) with
  | nil => exact absurd hx h2
  | cons a l => rfl

set_option maxHeartbeats 1000000 in
set_option maxRecDepth 100000 in
theorem lawUsedLeast {s : ByteArray} {a : Int} {w : World} (_hs : s.size ≤ maxLen) (ha1 : 0 ≤ a) (ha2 : a ≤ 255) :
    Calls Try.prog 9 #[.string s, .int .u8 a] w fun e w' => e = .returned (.bool true) ∧ Below w.heap.size w w' := by
  have HLT := Lib.hid letter05_any
  obtain ⟨n, rfl⟩ : ∃ n : Nat, a = n := ⟨a.toNat, by omega⟩
  have hn : n < 256 := by omega
  by_cases hz : 300 < s.size
  · have ht2 : decide (300 < s.size) = true := decide_eq_true (by omega)
    have ht2' : decide ((300 : Int) < (s.size : Int)) = true := decide_eq_true (by omega)
    clear hz
    go_enter Try.func9, Try.ntmps9
    go_wp2_with fail
    refine (HLT.out _).mono ?_
    rintro e w1 ⟨rfl, hb⟩
    go_wp2
    go_ret
    exact ⟨rfl, hb⟩
  · have ht2 : decide (300 < s.size) = false := decide_eq_false (by omega)
    have ht2' : decide ((300 : Int) < (s.size : Int)) = false := decide_eq_false (by omega)
    obtain ⟨S, hS⟩ : ∃ S, s = str S := ⟨_, str_of s⟩
    have hl : S.length ≤ 300 := by have := str_size S; rw [← hS] at this; omega
    have hql : (symL (thereL S)).length ≤ 256 := by unfold symL; rw [List.length_map]; exact Nat.le_trans (List.length_filter_le _ _) (by simp)
    have HSY := Lib.hid (fun w => symbols_any s S w hS (by omega))
    have HTS := Lib.hid (fun w => there_any s S n w hS (by omega))
    have HTQ := Lib.hid (fun w => there_any _ (symL (thereL S)) n w rfl (by omega))
    have HIQ := Lib.hid (fun w => is_any _ (symL (thereL S)) w rfl (by omega))
    rw [thereL_symL hn] at HTQ
    by_cases hnil : S = []
    · have hse : s.toList.isEmpty = true := by rw [hS, str_toList, hnil]; rfl
      obtain ⟨q, hq⟩ : ∃ z, str (symL (thereL S)) = z := ⟨_, rfl⟩
      rw [hq] at HSY HTQ
      obtain ⟨t, ht⟩ : ∃ z, thereL S n = z := ⟨_, rfl⟩
      rw [ht] at HTQ HTS
      clear hz hS hq ht hnil HIQ
      go_enter Try.func9, Try.ntmps9
      go_wp2_with fail
      refine (HSY.out _).mono ?_
      rintro e w1 ⟨rfl, hb⟩
      have HB1 := Lib.hid hb
      clear hb
      go_wp2_with fail
      refine (HTQ.out _).mono ?_
      rintro e w2 ⟨rfl, rfl⟩
      go_wp2_with fail
      refine (HTS.out _).mono ?_
      rintro e w2 ⟨rfl, rfl⟩
      clear HTQ HTS HSY
      go_wp2_with fail
      refine (HLT.out _).mono ?_
      rintro e w7 ⟨rfl, hb⟩
      have HB7 := Lib.hid (below_two HB1.out hb)
      clear hb HLT
      go_wp2
      go_ret
      exact ⟨rfl, HB7.out⟩
    · have hse : s.toList.isEmpty = false := by rw [hS, str_toList]; cases S with | nil => exact absurd rfl hnil | cons a l => rfl
      rw [isL_sym hnil] at HIQ
      obtain ⟨q, hq⟩ : ∃ z, str (symL (thereL S)) = z := ⟨_, rfl⟩
      rw [hq] at HSY HTQ HIQ
      obtain ⟨t, ht⟩ : ∃ z, thereL S n = z := ⟨_, rfl⟩
      rw [ht] at HTQ HTS
      clear hz hS hq ht hnil
      go_enter Try.func9, Try.ntmps9
      go_wp2_with fail
      refine (HSY.out _).mono ?_
      rintro e w1 ⟨rfl, hb⟩
      have HB1 := Lib.hid hb
      clear hb
      go_wp2_with fail
      refine (HTQ.out _).mono ?_
      rintro e w2 ⟨rfl, rfl⟩
      go_wp2_with fail
      refine (HTS.out _).mono ?_
      rintro e w2 ⟨rfl, rfl⟩
      clear HTQ HTS
      go_wp2_with fail
      refine (HSY.out _).mono ?_
      rintro e w3 ⟨rfl, hb⟩
      have HB3 := Lib.hid (below_two HB1.out hb)
      clear hb HSY HB1
      go_wp2_with fail
      refine (HIQ.out _).mono ?_
      rintro e w4 ⟨rfl, hb⟩
      have HB4 := Lib.hid (below_two HB3.out (below_drawn hb))
      clear hb HB3 HIQ
      go_wp2_with fail
      refine (HLT.out _).mono ?_
      rintro e w7 ⟨rfl, hb⟩
      have HB7 := Lib.hid (below_two HB4.out hb)
      clear hb HLT
      go_wp2
      go_ret
      exact ⟨rfl, HB7.out⟩

theorem usedBits_mod (f : Nat → Bool) : (usedBits f).length % 8 = 0 := by rw [usedBits_len]; omega
theorem usedBits_max (f : Nat → Bool) : (usedBits f).length ≤ 272 := by rw [usedBits_len]; have := List.length_filter_le (someR f) (List.range 16); simp at this; omega

theorem back_read (f : Nat → Bool) (M : List UInt8) (hne : symL f ≠ []) : refRead (restB (bytesL (usedBits f) ++ M) 0) = (symL f, (usedBits f).length, 0) := by
  unfold restB
  rw [List.drop_zero, bitsL_append, bitsL_bytesL]
  have h : 8 * ((usedBits f).length / 8) = (usedBits f).length := by have := usedBits_mod f; omega
  rw [h, List.take_length]
  exact used_read f _ hne

set_option maxHeartbeats 2000000 in
set_option maxRecDepth 100000 in
theorem lawUsedBack {s t : ByteArray} {w : World} (_hs : s.size ≤ maxLen) (_ht : t.size ≤ maxLen) :
    Calls Try.prog 11 #[.string s, .string t] w fun e w' => e = .returned (.bool true) ∧ Below w.heap.size w w' := by
  have HLT := Lib.hid letter05_any
  by_cases hz : 300 < s.size
  · have ht2 : decide (300 < s.size) = true := decide_eq_true (by omega)
    have ht2' : decide ((300 : Int) < (s.size : Int)) = true := decide_eq_true (by omega)
    clear hz
    go_enter Try.func11, Try.ntmps11
    go_wp2_with fail
    refine (HLT.out _).mono ?_
    rintro e w1 ⟨rfl, hb⟩
    go_wp2
    go_ret
    exact ⟨rfl, hb⟩
  have ht2 : decide (300 < s.size) = false := decide_eq_false (by omega)
  have ht2' : decide ((300 : Int) < (s.size : Int)) = false := decide_eq_false (by omega)
  by_cases hz2 : 100 < t.size
  · have ht3 : decide (100 < t.size) = true := decide_eq_true (by omega)
    have ht3' : decide ((100 : Int) < (t.size : Int)) = true := decide_eq_true (by omega)
    clear hz hz2
    go_enter Try.func11, Try.ntmps11
    go_wp2_with fail
    refine (HLT.out _).mono ?_
    rintro e w1 ⟨rfl, hb⟩
    go_wp2
    go_ret
    exact ⟨rfl, hb⟩
  have ht3 : decide (100 < t.size) = false := decide_eq_false (by omega)
  have ht3' : decide ((100 : Int) < (t.size : Int)) = false := decide_eq_false (by omega)
  obtain ⟨S, hS⟩ : ∃ S, s = str S := ⟨_, str_of s⟩
  have hl : S.length ≤ 300 := by have := str_size S; rw [← hS] at this; omega
  by_cases hnil : S = []
  · have hse : s.toList.isEmpty = true := by rw [hS, str_toList, hnil]; rfl
    clear hz hz2 hS hnil
    go_enter Try.func11, Try.ntmps11
    go_wp2_with fail
    refine (HLT.out _).mono ?_
    rintro e w1 ⟨rfl, hb⟩
    go_wp2
    go_ret
    exact ⟨rfl, hb⟩
  have hse : s.toList.isEmpty = false := by rw [hS, str_toList]; cases S with | nil => exact absurd rfl hnil | cons a l => rfl
  obtain ⟨M, hM⟩ : ∃ S, t = str S := ⟨_, str_of t⟩
  have hql : (symL (thereL S)).length ≤ 256 := by unfold symL; rw [List.length_map]; exact Nat.le_trans (List.length_filter_le _ _) (by simp)
  have HSY := Lib.hid (fun w => refsym_any s S w hS (by omega))
  have HIQ := isL_sym hnil
  have HW := Lib.hid (fun G B b k w h => write_any G B b [] k _ (symL (thereL S)) w h (by decide) rfl (by omega) HIQ)
  have hq1 := symL_thereL_symL (thereL S)
  have hq2 : symL (thereL S) ≠ [] := fun e => hnil ((symL_nil_iff S).1 e)
  obtain ⟨Q, hQ⟩ : ∃ z, symL (thereL S) = z := ⟨_, rfl⟩
  rw [hQ] at HSY HW hq1 hq2
  obtain ⟨f, hf⟩ : ∃ z, thereL Q = z := ⟨_, rfl⟩
  rw [hf] at HW hq1
  rw [List.nil_append] at HW
  have hbr := back_read f M (by rw [hq1]; exact hq2)
  rw [hq1] at hbr
  have hum := usedBits_max f
  have hbb : (bytesL (usedBits f)).length ≤ 34 := by rw [bytesL_len]; omega
  have HBR := Lib.hid hbr
  have HLE := Lib.hid (fun G B b k w h => lwlen_any G B b (usedBits f) k w h)
  have HT := Lib.hid (fun G B b w h => lwtake_any G B b (usedBits f) 0 w h)
  rw [List.drop_zero] at HT
  have hcat : str (bytesL (usedBits f)) ++ t = str (bytesL (usedBits f) ++ M) := by rw [hM, str_append]
  have hdat : (str (bytesL (usedBits f) ++ M)).data.toList = bytesL (usedBits f) ++ M := rfl
  have hml : M.length ≤ 100 := by have := str_size M; rw [← hM] at this; omega
  obtain ⟨N, hN⟩ : ∃ z, (usedBits f).length = z := ⟨_, rfl⟩
  have hN272 : N ≤ 272 := by omega
  have htt : t.size ≤ 100 := by omega
  obtain ⟨A, hA⟩ : ∃ z, usedBits f = z := ⟨_, rfl⟩
  rw [hA] at HW HLE HT hcat hdat hbb hN
  rw [hA, hN] at HBR
  rw [hN] at HLE
  obtain ⟨p, hp⟩ : ∃ z, str (bytesL A) = z := ⟨_, rfl⟩
  have hps : p.size ≤ 34 := by rw [← hp, str_size]; exact hbb
  rw [hp] at HT hcat
  obtain ⟨ALL, hALL⟩ : ∃ z, bytesL A ++ M = z := ⟨_, rfl⟩
  rw [hALL] at hcat hdat HBR
  have hals : (str ALL).size ≤ 1000000 := by rw [← hALL, str_size, List.length_append]; omega
  have HN := Lib.hid (fun w => rnew_any (str ALL) w hals)
  rw [hdat] at HN
  obtain ⟨ps, hpx⟩ : ∃ z, str ALL = z := ⟨_, rfl⟩
  rw [hpx] at hcat HN
  have HR := Lib.hid (fun br w h => Read_any br ALL 0 0 w h)
  obtain ⟨q, hq⟩ : ∃ z, str Q = z := ⟨_, rfl⟩
  rw [hq] at HSY HW
  have HQ := Lib.hid hq
  clear hz hz2 hS hnil hM HIQ hq1 hq2 hQ hf hbr hum hbb hN hA hp hALL hals hdat hpx hq hml hql hl
  go_enter Try.func11, Try.ntmps11
  go_wp2_with fail
  refine (HSY.out _).mono ?_
  rintro e w0 ⟨rfl, hb0⟩
  clear HSY
  go_wp2_with fail
  refine (lwnew_any w0 (fun _ => False) w.heap.size hb0.size (nog w0)).mono ?_
  rintro e w1 ⟨b, rfl, -, hw1, hb1⟩
  have HW1 := Lib.hid hw1
  have hb1 := hb0.trans (below_of hb1 hb0.size)
  clear hw1 hb0
  go_wp2_with fail
  refine (HW.out _ _ _ _ _ HW1.out).mono ?_
  rintro e w2 ⟨rfl, hw2, hk2⟩
  have HW2 := Lib.hid hw2
  have hb2 := hb1.trans (zone_below hk2 hb1.size)
  clear HW hw2 hk2 HW1 hb1
  go_wp2_with fail
  refine (HLE.out _ _ _ _ _ HW2.out).mono ?_
  rintro e w3 ⟨rfl, rfl⟩
  clear HLE
  go_wp2_with fail
  refine (HT.out _ _ _ _ HW2.out).mono ?_
  rintro e w3 ⟨rfl, hw3, hk3⟩
  have hb3 := hb2.trans (zone_below hk3 hb2.size)
  clear HT hw3 hk3 HW2 hb2
  go_wp2_with fail
  refine (HN.out _).mono ?_
  rintro e w4 ⟨br, rfl, hbr, hr, hb⟩
  have HR4 := Lib.hid hr
  have HBRR := Lib.hid (show w.heap.size ≤ br by rw [hbr]; exact hb3.size)
  have hb4 := hb3.trans (below_of hb hb3.size)
  clear HN hbr hr hb hb3 hcat
  go_wp2_with fail
  refine (HR.out _ _ HR4.out).mono ?_
  rintro e w5 ⟨he, hd⟩
  rw [HBR.out] at he hd
  rw [HQ.out] at he
  subst he
  have HD := Lib.hid hd.1
  have hb5 := hb4.trans (hd.2.below (B := w.heap.size) hb4.size (fun j hj h => by have h2 : j = br := h; have := HBRR.out; omega))
  clear HR HR4 hd hb4
  have HAT := Lib.hid (rat_any br ALL 0 (0 + N) _ HD.out)
  rw [Nat.zero_add] at HAT
  go_wp2_with fail
  refine HAT.out.mono ?_
  rintro e w6 ⟨rfl, rfl⟩
  clear HAT
  go_wp2_with fail
  refine (HLT.out _).mono ?_
  rintro e w6 ⟨rfl, hb6⟩
  have hb7 := hb5.trans (below_of hb6 hb5.size)
  clear HLT hb5 hb6
  go_wp2
  go_ret
  exact ⟨rfl, hb7⟩
end Go.Proofs.Ytbbiohcmfhdmnaa

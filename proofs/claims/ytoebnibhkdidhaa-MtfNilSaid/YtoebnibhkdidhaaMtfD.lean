/- Package mtf: MtfEncodes, MtfDecodes, MtfForth, MtfNil. -/
import Derived.Test.YtoebnibhkdidhaaMtfC
namespace Go.Proofs.Ytoebnibhkdidhaa
open Go.RowKit

def gE (O S : List UInt8) : Int := if isL O then encE O S else 1
def gV (O S : List UInt8) : List Int := if isL O then encV O S else []
def hE (O : List UInt8) (l : List Int) : Int := if isL O then decE O l else 1
def hV (O : List UInt8) (l : List Int) : List UInt8 := if isL O then decV O l else []

theorem enc_all (s y : ByteArray) (S O : List UInt8) (w : World) (hs : s = str S) (hy : y = str O) (hl : S.length ≤ 1000000) (hol : O.length ≤ 1000000) :
    Calls Try.prog 15 #[.string s, .string y] w fun e w' => ∃ v, e = .returned (.tuple #[v, .int .i64 (gE O S)]) ∧ RInts w' v (gV O S) ∧ Below w.heap.size w w' := by
  unfold gE gV
  cases h : isL O with
  | true => exact enc_any s y S O w hs hy hl hol h
  | false => exact (enc_bad s y O w hy hol h).mono fun e w' ⟨he, hb⟩ => ⟨_, he, RInts.nil _, hb⟩
theorem refenc_all (s y : ByteArray) (S O : List UInt8) (w : World) (hs : s = str S) (hy : y = str O) (hl : S.length ≤ 1000000) (hol : O.length ≤ 1000000) :
    Calls Try.prog 16 #[.string s, .string y] w fun e w' => ∃ v, e = .returned (.tuple #[v, .int .i64 (gE O S)]) ∧ RInts w' v (gV O S) ∧ Below w.heap.size w w' := by
  unfold gE gV
  cases h : isL O with
  | true => exact refenc_any s y S O w hs hy hl hol h
  | false => exact (refenc_no s y O w hy hol h).mono fun e w' ⟨he, hb⟩ => ⟨_, he, RInts.nil _, hb⟩
theorem dec_all (v : Value) (l : List Int) (y : ByteArray) (O : List UInt8) (w : World) (hv : RInts w v l) (hy : y = str O) (hl : l.length ≤ 1000000) (hol : O.length ≤ 1000000) :
    Calls Try.prog 18 #[v, .string y] w fun e w' => e = .returned (.tuple #[.string (str (hV O l)), .int .i64 (hE O l)]) ∧ Below w.heap.size w w' := by
  unfold hE hV
  cases h : isL O with
  | true => exact dec_any v l y O w hv hy hl hol h
  | false => exact dec_bad v l y O w hv hy hol h
theorem refdec_all (v : Value) (l : List Int) (y : ByteArray) (O : List UInt8) (w : World) (hv : RInts w v l) (hy : y = str O) (hl : l.length ≤ 1000000) (hol : O.length ≤ 1000000) :
    Calls Try.prog 19 #[v, .string y] w fun e w' => e = .returned (.tuple #[.string (str (hV O l)), .int .i64 (hE O l)]) ∧ Below w.heap.size w w' := by
  unfold hE hV
  cases h : isL O with
  | true => exact refdec_any v l y O w hv hy hl hol h
  | false => exact refdec_no v l y O w hv hy hol h

theorem long2 (a b A B : Nat) : ((decide (A < a) = true ∨ decide (A < a) = false ∧ decide (B < b) = true) ∨ (decide (A < a) = false ∧ decide (B < b) = false)) := by
  by_cases h : A < a <;> by_cases k : B < b <;> simp [h, k]
theorem dec_int (a A : Nat) (X : Int) (hX : X = (A : Int)) (b : Bool) (h : decide (A < a) = b) : decide (X < (a : Int)) = b := by rw [← h, hX]; simp

set_option maxHeartbeats 1000000 in
set_option maxRecDepth 100000 in
theorem lawMtfEncodes {s y : ByteArray} {w : World} (_hs : s.size ≤ maxLen) (_hy : y.size ≤ maxLen) :
    Calls Try.prog 3 #[.string s, .string y] w fun e w' => e = .returned (.bool true) ∧ Below w.heap.size w w' := by
  have HB := Lib.hid bab_any
  rcases long2 s.size y.size 300 256 with (h1 | ⟨h1, h2⟩) | ⟨h1, h2⟩
  · have h1' := dec_int _ 300 300 rfl _ h1
    go_enter Try.func3, Try.ntmps3
    go_wp2_with fail
    refine (HB.out _).mono ?_
    rintro e w1 ⟨rfl, hb⟩
    go_wp2
    go_ret
    exact ⟨rfl, hb⟩
  · have h1' := dec_int _ 300 300 rfl _ h1
    have h2' := dec_int _ 256 256 rfl _ h2
    go_enter Try.func3, Try.ntmps3
    go_wp2_with fail
    refine (HB.out _).mono ?_
    rintro e w1 ⟨rfl, hb⟩
    go_wp2
    go_ret
    exact ⟨rfl, hb⟩
  · have hz1 : s.size ≤ 300 := by have := of_decide_eq_false h1; omega
    have hz2 : y.size ≤ 256 := by have := of_decide_eq_false h2; omega
    have h1' := dec_int _ 300 300 rfl _ h1
    have h2' := dec_int _ 256 256 rfl _ h2
    obtain ⟨S, hS⟩ : ∃ S, s = str S := ⟨_, str_of s⟩
    obtain ⟨O, hO⟩ : ∃ S, y = str S := ⟨_, str_of y⟩
    have hl : S.length ≤ 300 := by have := str_size S; rw [← hS] at this; omega
    have hol : O.length ≤ 256 := by have := str_size O; rw [← hO] at this; omega
    have HE := Lib.hid (fun w => enc_all s y S O w hS hO (by omega) (by omega))
    have HR := Lib.hid (fun w => refenc_all s y S O w hS hO (by omega) (by omega))
    obtain ⟨G, hG⟩ : ∃ z, gE O S = z := ⟨_, rfl⟩
    obtain ⟨V, hV⟩ : ∃ z, gV O S = z := ⟨_, rfl⟩
    rw [hG, hV] at HE HR
    clear hS hO hG hV
    go_enter Try.func3, Try.ntmps3
    go_wp2_with fail
    refine (HE.out _).mono ?_
    rintro e w1 ⟨v1, rfl, hv1, hb1⟩
    have HV1 := Lib.hid hv1
    have HB1 := Lib.hid hb1
    clear HE hv1 hb1
    go_wp2_with fail
    refine (HR.out _).mono ?_
    rintro e w2 ⟨v2, rfl, hv2, hb2⟩
    have HV2 := Lib.hid hv2
    have HV3 := Lib.hid (HV1.out.below hb2)
    have HB2 := Lib.hid (below_two HB1.out hb2)
    obtain ⟨a1, c1, rfl, -, -⟩ := HV1.out.shape
    obtain ⟨a2, c2, rfl, -, -⟩ := hv2.shape
    have hgg : (G == G) = true := by simp
    clear HR hv2 hb2 HV1 HB1
    go_wp2_with fail
    refine (ints_same _ _ V _ HV3.out HV2.out).mono ?_
    rintro e w3 ⟨rfl, hd⟩
    have HB3 := Lib.hid (below_two HB2.out (below_drawn hd))
    clear HV2 HV3 HB2 hd
    go_wp2_with fail
    refine (HB.out _).mono ?_
    rintro e w4 ⟨rfl, hb⟩
    have HB4 := Lib.hid (below_two HB3.out hb)
    clear hb HB3
    go_wp2
    go_ret
    exact ⟨rfl, HB4.out⟩

set_option maxHeartbeats 1000000 in
set_option maxRecDepth 100000 in
theorem lawMtfDecodes {v : Value} {l : List Int} {y : ByteArray} {w : World} (hv : RInts w v l) (_hy : y.size ≤ maxLen) :
    Calls Try.prog 4 #[v, .string y] w fun e w' => e = .returned (.bool true) ∧ Below w.heap.size w w' := by
  have HB := Lib.hid bab_any
  have HV := Lib.hid hv
  obtain ⟨a, cap, rfl, -, -⟩ := hv.shape
  clear hv
  rcases long2 l.length y.size 300 256 with (h1 | ⟨h1, h2⟩) | ⟨h1, h2⟩
  · have h1' := dec_int _ 300 300 rfl _ h1
    go_enter Try.func4, Try.ntmps4
    go_wp2_with fail
    refine (HB.out _).mono ?_
    rintro e w1 ⟨rfl, hb⟩
    go_wp2
    go_ret
    exact ⟨rfl, hb⟩
  · have h1' := dec_int _ 300 300 rfl _ h1
    have h2' := dec_int _ 256 256 rfl _ h2
    go_enter Try.func4, Try.ntmps4
    go_wp2_with fail
    refine (HB.out _).mono ?_
    rintro e w1 ⟨rfl, hb⟩
    go_wp2
    go_ret
    exact ⟨rfl, hb⟩
  · have hz1 : l.length ≤ 300 := by have := of_decide_eq_false h1; omega
    have hz2 : y.size ≤ 256 := by have := of_decide_eq_false h2; omega
    have h1' := dec_int _ 300 300 rfl _ h1
    have h2' := dec_int _ 256 256 rfl _ h2
    obtain ⟨O, hO⟩ : ∃ S, y = str S := ⟨_, str_of y⟩
    have hol : O.length ≤ 256 := by have := str_size O; rw [← hO] at this; omega
    have HE := Lib.hid (fun w hv => dec_all (.slice a l.length cap) l y O w hv hO (by omega) (by omega))
    have HR := Lib.hid (fun w hv => refdec_all (.slice a l.length cap) l y O w hv hO (by omega) (by omega))
    obtain ⟨G, hG⟩ : ∃ z, hE O l = z := ⟨_, rfl⟩
    obtain ⟨V, hV⟩ : ∃ z, str (hV O l) = z := ⟨_, rfl⟩
    rw [hG, hV] at HE HR
    have hgg : (G == G) = true := by simp
    have hvv : (V.toList == V.toList) = true := by simp
    clear hO hG hV
    go_enter Try.func4, Try.ntmps4
    go_wp2_with fail
    refine (HE.out _ HV.out).mono ?_
    rintro e w1 ⟨rfl, hb1⟩
    have HV1 := Lib.hid (HV.out.below hb1)
    have HB1 := Lib.hid hb1
    clear HE hb1
    go_wp2_with fail
    refine (HR.out _ HV1.out).mono ?_
    rintro e w2 ⟨rfl, hb2⟩
    have HB2 := Lib.hid (below_two HB1.out hb2)
    clear HR hb2 HV1 HB1
    go_wp2_with fail
    refine (HB.out _).mono ?_
    rintro e w4 ⟨rfl, hb⟩
    have HB4 := Lib.hid (below_two HB2.out hb)
    clear hb HB2
    go_wp2
    go_ret
    exact ⟨rfl, HB4.out⟩

theorem forth_plain {O : List UInt8} {l : List Int} (his : isL O = true) (h : hE O l = 0) : gE O (hV O l) = 0 ∧ gV O (hV O l) = l := by
  unfold hE at h
  unfold gE gV hV
  rw [if_pos his] at h
  rw [if_pos his, if_pos his, if_pos his]
  cases hd : decL O l with
  | none => rw [(dec_no hd).1] at h; cases h
  | some s =>
    rw [(dec_yes hd).2]
    unfold isL at his
    rw [Bool.and_eq_true] at his
    have hnd : O.Nodup := by
      have := upL_sorted.1 his.2
      rw [List.pairwise_map] at this
      exact this.imp fun {a b} hab e => by subst e; omega
    obtain ⟨m, hm1, hm2⟩ := enc_dec hnd hd
    exact ⟨(enc_yes hm1).1, by rw [(enc_yes hm1).2, hm2]⟩

set_option maxHeartbeats 1000000 in
set_option maxRecDepth 100000 in
theorem lawMtfForth {v : Value} {l : List Int} {y : ByteArray} {w : World} (hv : RInts w v l) (_hy : y.size ≤ maxLen) :
    Calls Try.prog 6 #[v, .string y] w fun e w' => e = .returned (.bool true) ∧ Below w.heap.size w w' := by
  have HB := Lib.hid bab_any
  have HV := Lib.hid hv
  obtain ⟨a, cap, rfl, -, -⟩ := hv.shape
  clear hv
  rcases long2 l.length y.size 300 256 with (h1 | ⟨h1, h2⟩) | ⟨h1, h2⟩
  · have h1' := dec_int _ 300 300 rfl _ h1
    go_enter Try.func6, Try.ntmps6
    go_wp2_with fail
    refine (HB.out _).mono ?_
    rintro e w1 ⟨rfl, hb⟩
    go_wp2
    go_ret
    exact ⟨rfl, hb⟩
  · have h1' := dec_int _ 300 300 rfl _ h1
    have h2' := dec_int _ 256 256 rfl _ h2
    go_enter Try.func6, Try.ntmps6
    go_wp2_with fail
    refine (HB.out _).mono ?_
    rintro e w1 ⟨rfl, hb⟩
    go_wp2
    go_ret
    exact ⟨rfl, hb⟩
  · have hz1 : l.length ≤ 300 := by have := of_decide_eq_false h1; omega
    have hz2 : y.size ≤ 256 := by have := of_decide_eq_false h2; omega
    have h1' := dec_int _ 300 300 rfl _ h1
    have h2' := dec_int _ 256 256 rfl _ h2
    obtain ⟨O, hO⟩ : ∃ S, y = str S := ⟨_, str_of y⟩
    have hol : O.length ≤ 256 := by have := str_size O; rw [← hO] at this; omega
    have HI := Lib.hid (fun w => refis_any y O w hO (by omega))
    cases his : isL O with
    | false =>
      rw [his] at HI
      clear hO his
      go_enter Try.func6, Try.ntmps6
      go_wp2_with fail
      refine (HI.out _).mono ?_
      rintro e w1 ⟨rfl, hb1⟩
      have HB1 := Lib.hid hb1
      clear hb1
      go_wp2_with fail
      refine (HB.out _).mono ?_
      rintro e w2 ⟨rfl, hb⟩
      have HB2 := Lib.hid (below_two HB1.out hb)
      clear hb
      go_wp2
      go_ret
      exact ⟨rfl, HB2.out⟩
    | true =>
      rw [his] at HI
      have HE := Lib.hid (fun w hv => dec_all (.slice a l.length cap) l y O w hv hO (by omega) (by omega))
      have HR := Lib.hid (fun w hv => refdec_all (.slice a l.length cap) l y O w hv hO (by omega) (by omega))
      have HF := Lib.hid (forth_plain (O := O) (l := l) his)
      have hlen : (hV O l).length ≤ 300 := by
        unfold hV
        rw [if_pos his]
        cases hd : decL O l with
        | none => rw [(dec_no hd).2]; exact Nat.zero_le _
        | some s => rw [(dec_yes hd).2, decL_len hd]; exact hz1
      have HG := Lib.hid (fun q w (hq : q = str (hV O l)) => enc_all q y (hV O l) O w hq hO (by omega) (by omega))
      obtain ⟨X, hX⟩ : ∃ z, hV O l = z := ⟨_, rfl⟩
      obtain ⟨G, hG⟩ : ∃ z, hE O l = z := ⟨_, rfl⟩
      rw [hX] at HE HR HF HG
      rw [hG] at HE HR HF
      obtain ⟨V, hV2⟩ : ∃ z, str X = z := ⟨_, rfl⟩
      rw [hV2] at HE HR HG
      clear hO his hX hG hlen hV2
      by_cases hG0 : G = 0
      · obtain ⟨hf1, hf2⟩ := HF.out hG0
        rw [hf1, hf2] at HG
        subst hG0
        clear HF hf1 hf2
        go_enter Try.func6, Try.ntmps6
        go_wp2_with fail
        refine (HI.out _).mono ?_
        rintro e w1 ⟨rfl, hb1⟩
        have HV1 := Lib.hid (HV.out.below hb1)
        have HB1 := Lib.hid hb1
        clear hb1 HI
        go_wp2_with fail
        refine (HE.out _ HV1.out).mono ?_
        rintro e w2 ⟨rfl, hb2⟩
        have HV2 := Lib.hid (HV1.out.below hb2)
        have HB2 := Lib.hid (below_two HB1.out hb2)
        clear hb2 HE HB1 HV1
        go_wp2_with fail
        refine (HG.out _ _ rfl).mono ?_
        rintro e w3 ⟨v3, rfl, hv3, hb3⟩
        have HV3 := Lib.hid hv3
        have HV4 := Lib.hid (HV2.out.below hb3)
        have HB3 := Lib.hid (below_two HB2.out hb3)
        obtain ⟨a3, c3, rfl, -, -⟩ := hv3.shape
        clear hb3 HG HB2 HV2 hv3
        go_wp2_with fail
        refine (ints_same _ _ l _ HV4.out HV3.out).mono ?_
        rintro e w4 ⟨rfl, hd⟩
        have HB4 := Lib.hid (below_two HB3.out (below_drawn hd))
        clear hd HB3 HV3 HV4
        go_wp2_with fail
        refine (HB.out _).mono ?_
        rintro e w5 ⟨rfl, hb⟩
        have HB5 := Lib.hid (below_two HB4.out hb)
        clear hb HB4
        go_wp2
        go_ret
        exact ⟨rfl, HB5.out⟩
      · have hn : (G != 0) = true := by simpa using hG0
        clear HF HG hG0
        go_enter Try.func6, Try.ntmps6
        go_wp2_with fail
        refine (HI.out _).mono ?_
        rintro e w1 ⟨rfl, hb1⟩
        have HV1 := Lib.hid (HV.out.below hb1)
        have HB1 := Lib.hid hb1
        clear hb1 HI
        go_wp2_with fail
        refine (HE.out _ HV1.out).mono ?_
        rintro e w2 ⟨rfl, hb2⟩
        have HV2 := Lib.hid (HV1.out.below hb2)
        have HB2 := Lib.hid (below_two HB1.out hb2)
        clear hb2 HE HB1 HV1
        go_wp2_with fail
        refine (HR.out _ HV2.out).mono ?_
        rintro e w3 ⟨rfl, hb3⟩
        have HB3 := Lib.hid (below_two HB2.out hb3)
        clear hb3 HR HB2 HV2
        go_wp2_with fail
        refine (HB.out _).mono ?_
        rintro e w5 ⟨rfl, hb⟩
        have HB5 := Lib.hid (below_two HB3.out hb)
        clear hb HB3
        go_wp2
        go_ret
        exact ⟨rfl, HB5.out⟩

theorem find_nil (c : Int) (w : World) : Calls Try.prog 25 #[.pointer none, .int .u8 c] w fun e w' => e = .returned (.tuple #[.int .i64 0, .int .i64 7]) ∧ w = w' := by
  go_enter Try.func25, Try.ntmps25
  go_wp2
  go_ret2
  exact ⟨rfl, rfl⟩
theorem at_nil (i : Int) (w : World) : Calls Try.prog 24 #[.pointer none, .int .i64 i] w fun e w' => e = .returned (.tuple #[.int .u8 0, .int .i64 7]) ∧ w = w' := by
  go_enter Try.func24, Try.ntmps24
  go_wp2
  go_ret2
  exact ⟨rfl, rfl⟩
theorem text_nil (w : World) : Calls Try.prog 27 #[.pointer none] w fun e w' => e = .returned (.string ⟨#[]⟩) ∧ w = w' := by
  go_enter Try.func27, Try.ntmps27
  go_wp2
  go_ret
  exact ⟨rfl, rfl⟩
theorem len_nil (w : World) : Calls Try.prog 28 #[.pointer none] w fun e w' => e = .returned (.int .i64 0) ∧ w = w' := by
  go_enter Try.func28, Try.ntmps28
  go_wp2
  go_ret
  exact ⟨rfl, rfl⟩

set_option maxHeartbeats 1000000 in
set_option maxRecDepth 100000 in
theorem lawMtfNil {b i : Int} {w : World} (_h1 : 0 ≤ b) (_h2 : b ≤ 255) (_h3 : -9223372036854775808 ≤ i) (_h4 : i ≤ 9223372036854775807) :
    Calls Try.prog 8 #[.int .u8 b, .int .i64 i] w fun e w' => e = .returned (.bool true) ∧ Below w.heap.size w w' := by
  go_enter Try.func8, Try.ntmps8
  go_wp2_with fail
  refine (find_nil _ _).mono ?_
  rintro e w1 ⟨rfl, rfl⟩
  go_wp2_with fail
  refine (at_nil _ _).mono ?_
  rintro e w1 ⟨rfl, rfl⟩
  go_wp2_with fail
  refine (text_nil _).mono ?_
  rintro e w1 ⟨rfl, rfl⟩
  go_wp2_with fail
  refine (len_nil _).mono ?_
  rintro e w1 ⟨rfl, rfl⟩
  go_wp2_with fail
  refine (bab_any _).mono ?_
  rintro e w1 ⟨rfl, hb⟩
  go_wp2
  go_ret
  exact ⟨rfl, hb⟩
end Go.Proofs.Ytoebnibhkdidhaa

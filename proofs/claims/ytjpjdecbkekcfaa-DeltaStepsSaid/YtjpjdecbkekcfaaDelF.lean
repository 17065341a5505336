/- Package delta: the references May, Bits, Read. -/
import Derived.Test.YtjpjdecbkekcfaaDelE
import Derived.Test.YtjpjdecbkekcfaaBitR
import Derived.Deep.RegionHeld3
namespace Go.Proofs.Ytjpjdecbkekcfaa
open Go.RowKit

def rngB (lo hi n : Int) : Bool := decide (lo ≤ n) && decide (n ≤ hi)
theorem all_take {p : Int → Bool} {l : List Int} {k : Nat} {x : Int} (hx : l[k]? = some x) : (l.take (k + 1)).all p = ((l.take k).all p && p x) := by rw [take_snoc hx]; simp
theorem all_false {p : Int → Bool} {l : List Int} {k : Nat} {x : Int} (hx : l[k]? = some x) (h : p x = false) : l.all p = false := by
  rw [Bool.eq_false_iff]
  intro ha
  rw [List.all_eq_true] at ha
  rw [ha x (List.mem_of_getElem? hx)] at h
  cases h

set_option maxHeartbeats 400000 in
theorem refmay09_any (v : Value) (l : List Int) (lo hi : Int) (w : World) (hv : RInts w v l) :
    Calls Try.prog 54 #[v, .int .i64 lo, .int .i64 hi] w fun e w' => e = .returned (.bool (l.all (rngB lo hi))) ∧ w = w' := by
  have HV := Lib.hid hv
  obtain ⟨a, cap, rfl, hc1, hc2⟩ := hv.shape
  clear hv
  go_enter Try.func54, Try.ntmps54
  go_wp2
  go_loop [8, 11] (fun _ i => ∃ k : Nat, k ≤ l.length ∧ i = .int .i64 k ∧ Hid ((l.take k).all (rngB lo hi) = true)) (fun _ i => l.length - (intOf i).toNat)
  case atStart => exact ⟨0, Nat.zero_le _, rfl, rfl⟩
  case round =>
    obtain ⟨k, hk, rfl, HA⟩ := hrel
    by_cases hlt : k < l.length
    · obtain ⟨b, off, x, rfl, hbb, hx, hcx, -, -⟩ := HV.out.at hlt
      have HX := Lib.hid hx
      have HT := Lib.hid (all_take (p := rngB lo hi) hx)
      clear hx
      by_cases h1 : x < lo
      · have hd1 : decide (x < lo) = true := decide_eq_true h1
        have HE := Lib.hid (all_false (p := rngB lo hi) HX.out (by unfold rngB; rw [decide_eq_false (show ¬ lo ≤ x by omega)]; rfl))
        clear h1
        go_wp2
        go_ret
        exact ⟨ret_bool HE.out.symm, rfl⟩
      · have hd1 : decide (x < lo) = false := decide_eq_false h1
        by_cases h2 : hi < x
        · have hd2 : decide (hi < x) = true := decide_eq_true h2
          have HE := Lib.hid (all_false (p := rngB lo hi) HX.out (by unfold rngB; rw [decide_eq_false (show ¬ x ≤ hi by omega), Bool.and_false]))
          clear h1 h2
          go_wp2
          go_ret
          exact ⟨ret_bool HE.out.symm, rfl⟩
        · have hd2 : decide (hi < x) = false := decide_eq_false h2
          have HE := Lib.hid (show (l.take (k + 1)).all (rngB lo hi) = true by rw [HT.out, HA.out]; unfold rngB; rw [decide_eq_true (show lo ≤ x by omega), decide_eq_true (show x ≤ hi by omega)]; rfl)
          clear h1 h2
          go_wp2
          go_round
          case rel => exact ⟨k + 1, by omega, by go_num, HE.out⟩
          case measure => simp [intOf]; omega
    · obtain rfl : k = l.length := by omega
      have HE := Lib.hid (show l.all (rngB lo hi) = true by have := HA.out; rwa [List.take_length] at this)
      go_wp2
      go_ret
      exact ⟨ret_bool HE.out.symm, rfl⟩

theorem refmay_any (v : Value) (l : List Int) (w : World) (hv : RInts w v l) : Calls Try.prog 41 #[v] w fun e w' => e = .returned (.bool (mayD l)) ∧ w = w' := by
  have HM := Lib.hid (refmay09_any v l 1 20 w hv)
  have he : mayD l = (decide ((3 : Int) ≤ (l.length : Int)) && (decide ((l.length : Int) ≤ 258) && l.all (rngB 1 20))) := by
    unfold mayD sizD
    rw [Bool.and_assoc]
    rfl
  obtain ⟨a, cap, rfl, hc1, hc2⟩ := hv.shape
  rw [he]
  obtain ⟨q, hq⟩ : ∃ z, l.all (rngB 1 20) = z := ⟨_, rfl⟩
  obtain ⟨n, hn⟩ : ∃ z, l.length = z := ⟨_, rfl⟩
  rw [hq] at HM ⊢
  rw [hn] at HM ⊢
  clear hv he hq hn hc1
  by_cases h1 : (3 : Int) ≤ (n : Int)
  · have d1 : decide ((3 : Int) ≤ (n : Int)) = true := decide_eq_true h1
    by_cases h2 : (n : Int) ≤ 258
    · have d2 : decide ((n : Int) ≤ 258) = true := decide_eq_true h2
      rw [d1, d2, Bool.true_and, Bool.true_and]
      go_enter Try.func41, Try.ntmps41
      go_wp2_with fail
      refine HM.out.mono ?_
      rintro e w1 ⟨rfl, rfl⟩
      clear HM
      go_wp2
      go_ret
      exact ⟨rfl, rfl⟩
    · have d2 : decide ((n : Int) ≤ 258) = false := decide_eq_false h2
      rw [d1, d2, Bool.true_and, Bool.false_and]
      clear HM
      go_enter Try.func41, Try.ntmps41
      go_wp2
      go_ret
      exact ⟨rfl, rfl⟩
  · have d1 : decide ((3 : Int) ≤ (n : Int)) = false := decide_eq_false h1
    rw [d1, Bool.false_and]
    clear HM
    go_enter Try.func41, Try.ntmps41
    go_wp2
    go_ret
    exact ⟨rfl, rfl⟩

theorem updn_step {u d i : Nat} (h : u = 0 ∨ d = 0) (B : List Bool) : B ++ upD (min (i + 1) u) ++ dnD (min (i + 1) d) = (B ++ upD (min i u) ++ dnD (min i d)) ++ (if i < u then [true, false] else []) ++ (if i < d then [true, true] else []) := by
  rcases h with rfl | rfl
  · rw [Nat.min_zero, Nat.min_zero, if_neg (Nat.not_lt_zero i)]
    by_cases hi : i < d
    · rw [if_pos hi, Nat.min_eq_left hi, Nat.min_eq_left (Nat.le_of_lt hi), dnD_snoc]
      simp
    · rw [if_neg hi, Nat.min_eq_right (by omega), Nat.min_eq_right (by omega)]
      simp
  · rw [Nat.min_zero, Nat.min_zero, if_neg (Nat.not_lt_zero i)]
    by_cases hi : i < u
    · rw [if_pos hi, Nat.min_eq_left hi, Nat.min_eq_left (Nat.le_of_lt hi), upD_snoc]
      simp [dnD]
    · rw [if_neg hi, Nat.min_eq_right (by omega), Nat.min_eq_right (by omega)]
      simp

set_option maxHeartbeats 2000000 in
set_option maxRecDepth 100000 in
theorem refbits11_any (v : Value) (l : List Int) (w : World) (hv : RInts w v l) (hm : mayD l = true) :
    Calls Try.prog 51 #[v] w fun e w' => e = .returned (.string (stx (bitsD l))) ∧ w = w' := by
  obtain ⟨⟨hl3, hl4⟩, hal⟩ := mayD_iff.1 hm
  have h0 := headD_ok hm
  have HAL := Lib.hid hal
  have HV := Lib.hid hv
  obtain ⟨a, cap, rfl, hc1, hc2⟩ := hv.shape
  obtain ⟨b, off, x0, rfl, -, hx0, hcx0, -, -⟩ := hv.at (k := 0) (by omega)
  have hhd : l.headD 0 = x0 := by cases l with | nil => simp at hx0 | cons y l => simp at hx0; simp [hx0]
  have HBD := Lib.hid (show bitsD l = fieldL x0.toNat 5 ++ runD x0 l by unfold bitsD; rw [hhd])
  rw [hhd] at h0
  have HH0 := Lib.hid h0
  have hcv : IntKind.u32.wrap x0 = x0 := IntWalk.u32_in _ (by omega)
  have HF := Lib.hid (fun w => field_any x0.toNat 5 w (by omega) (by decide))
  have e5 : (5 : Int).toNat = 5 := rfl
  have ex : ((x0.toNat : Nat) : Int) = x0 := by omega
  rw [ex, e5] at HF
  have hl0 : (0 : Int) < (l.length : Int) := by omega
  rw [Nat.add_zero] at hcx0
  have HLEN := Lib.hid (fun k => show (fieldL x0.toNat 5 ++ runD x0 (l.take k)).length ≤ 10067 from by
    have h1 := runD_len (l := l.take k) h0 (fun x hx => hal x (List.mem_of_mem_take hx))
    rw [List.length_append, fieldL_len]
    rw [List.length_take] at h1
    omega)
  obtain ⟨F, hF⟩ : ∃ z, fieldL x0.toNat 5 = z := ⟨_, rfl⟩
  rw [hF] at HF HBD HLEN
  clear hm hal hv hx0 hhd h0 ex e5 hF
  go_enter Try.func51, Try.ntmps51
  go_wp2_with fail
  refine (HF.out _).mono ?_
  rintro e w1 ⟨rfl, rfl⟩
  clear HF
  go_wp2
  go_loop [3, 4, 6, 7, 18] (fun o la _ _ i => ∃ (k : Nat) (m : Int) (ss : ByteArray), k ≤ l.length ∧ i = .int .i64 k ∧ la = .int .i64 m ∧ o = .string ss ∧ Hid (m = (l.take k).getLastD x0) ∧ Hid (ss = stx (F ++ runD x0 (l.take k)))) (fun _ _ _ _ i => l.length - (intOf i).toNat)
  case atStart => exact ⟨0, x0, _, Nat.zero_le _, rfl, rfl, rfl, rfl, (show _ = stx _ by simp [runD])⟩
  case round =>
    clear hcx0
    obtain ⟨k, m, ss, hk, rfl, rfl, rfl, HM, HS⟩ := hrel
    by_cases hlt : k < l.length
    · obtain ⟨b2, off2, x, he, hbb, hx, hcx, -, -⟩ := HV.out.at hlt
      simp only [Option.some.injEq, Addr.mk.injEq, and_true] at he
      obtain ⟨rfl, rfl⟩ := he
      have HT := Lib.hid (runD_take (a := x0) hx)
      have HLS := Lib.hid (lastD_snoc (a := x0) hx)
      have hxb := HAL.out x (List.mem_of_getElem? hx)
      have hmb := lastD_ok (l := l.take k) (fun x hx => HAL.out x (List.mem_of_mem_take hx)) HH0.out
      rw [← HM.out] at HT hmb
      obtain ⟨u, hu⟩ : ∃ z, (x - m).toNat = z := ⟨_, rfl⟩
      obtain ⟨d, hd⟩ : ∃ z, (m - x).toNat = z := ⟨_, rfl⟩
      have e1 : IntKind.i64.wrap (x - m) = x - m := IntWalk.i64_in _ (by omega)
      have e2 : IntKind.i64.wrap (m - x) = m - x := IntWalk.i64_in _ (by omega)
      have HUD := Lib.hid (show (u = 0 ∨ d = 0) ∧ u ≤ 19 ∧ d ≤ 19 ∧ (∀ i : Nat, ((i : Int) < x - m ↔ i < u)) ∧ (∀ i : Nat, ((i : Int) < m - x ↔ i < d)) from ⟨by omega, by omega, by omega, fun i => by omega, fun i => by omega⟩)
      obtain ⟨A, hA⟩ : ∃ z, F ++ runD x0 (l.take k) = z := ⟨_, rfl⟩
      have HA := Lib.hid (show A.length ≤ 10067 by rw [← hA]; exact HLEN.out k)
      have HT2 := Lib.hid (show F ++ runD x0 (l.take (k + 1)) = A ++ upD u ++ dnD d ++ [false] by
        rw [HT.out, ← List.append_assoc, hA]
        unfold oneD
        rw [hu, hd, List.append_assoc, List.append_assoc])
      rw [hA] at HS
      obtain ⟨du, hdu⟩ : ∃ z, x - m = z := ⟨_, rfl⟩
      obtain ⟨dd, hdd⟩ : ∃ z, m - x = z := ⟨_, rfl⟩
      rw [hdu, hdd] at HUD
      rw [hdu] at e1
      rw [hdd] at e2
      have HDU := Lib.hid hdu
      have HDD := Lib.hid hdd
      clear hx hxb hmb hu hd hA HT
      go_wp2
      go_loop [3, 7, 22] (fun o _ i => ∃ (j : Nat) (s2 : ByteArray), j ≤ 40 ∧ i = .int .i64 j ∧ o = .string s2 ∧ Hid (s2 = stx (A ++ upD (min j u) ++ dnD (min j d)))) (fun _ _ i => 40 - (intOf i).toNat)
      case atStart => exact ⟨0, ss, by omega, rfl, rfl, (show _ = _ by rw [HS.out]; simp [upD, dnD])⟩
      case round =>
        obtain ⟨j, s2, hj, rfl, rfl, HS2⟩ := hrel
        by_cases hj40 : j < 40
        · have HN := Lib.hid (updn_step (i := j) HUD.out.1 A)
          have hsz : s2.size ≤ 10200 := by
            rw [HS2.out, stx_size, List.length_append, List.length_append, upD_len, dnD_len]
            have := HA.out; have := HUD.out; omega
          by_cases h1 : j < u
          · have t1 : decide ((j : Int) < du) = true := decide_eq_true ((HUD.out.2.2.2.1 j).2 h1)
            have h2 : ¬ j < d := by have := HUD.out.1; omega
            have t2 : decide ((j : Int) < dd) = false := decide_eq_false (fun h => h2 ((HUD.out.2.2.2.2 j).1 h))
            have HS3 := Lib.hid (show s2 ++ ⟨#[49, 48]⟩ = stx (A ++ upD (min (j + 1) u) ++ dnD (min (j + 1) d)) by
              rw [HN.out, if_pos h1, if_neg h2, List.append_nil, ← stx_append, ← HS2.out]; rfl)
            clear h1 h2 HN
            go_wp2
            go_round
            case rel => exact ⟨j + 1, _, by omega, by go_num, rfl, HS3.out⟩
            case measure => simp [intOf]; omega
          · have t1 : decide ((j : Int) < du) = false := decide_eq_false (fun h => h1 ((HUD.out.2.2.2.1 j).1 h))
            by_cases h2 : j < d
            · have t2 : decide ((j : Int) < dd) = true := decide_eq_true ((HUD.out.2.2.2.2 j).2 h2)
              have HS3 := Lib.hid (show s2 ++ ⟨#[49, 49]⟩ = stx (A ++ upD (min (j + 1) u) ++ dnD (min (j + 1) d)) by
                rw [HN.out, if_neg h1, if_pos h2, List.append_nil, ← stx_append, ← HS2.out]; rfl)
              clear h1 h2 HN
              go_wp2
              go_round
              case rel => exact ⟨j + 1, _, by omega, by go_num, rfl, HS3.out⟩
              case measure => simp [intOf]; omega
            · have t2 : decide ((j : Int) < dd) = false := decide_eq_false (fun h => h2 ((HUD.out.2.2.2.2 j).1 h))
              have HS3 := Lib.hid (show s2 = stx (A ++ upD (min (j + 1) u) ++ dnD (min (j + 1) d)) by
                rw [HN.out, if_neg h1, if_neg h2, List.append_nil, List.append_nil, ← HS2.out])
              clear h1 h2 HN
              go_wp2
              go_round
              case rel => exact ⟨j + 1, _, by omega, by go_num, rfl, HS3.out⟩
              case measure => simp [intOf]; omega
        · obtain rfl : j = 40 := by omega
          have hsz : s2.size ≤ 10200 := by
            rw [HS2.out, stx_size, List.length_append, List.length_append, upD_len, dnD_len]
            have := HA.out; have := HUD.out; omega
          have HS3 := Lib.hid (show s2 ++ ⟨#[48]⟩ = stx (F ++ runD x0 (l.take (k + 1))) by
            have hs := HS2.out
            rw [Nat.min_eq_right (by have := HUD.out; omega), Nat.min_eq_right (by have := HUD.out; omega)] at hs
            rw [HT2.out, ← stx_append, ← hs]
            rfl)
          go_wp2
          go_round
          case rel => exact ⟨k + 1, x, _, by omega, by go_num, rfl, rfl, HLS.out.symm, HS3.out⟩
          case measure => simp [intOf]; omega
    · obtain rfl : k = l.length := by omega
      have HE := Lib.hid (show ss = stx (bitsD l) by rw [HBD.out, HS.out, List.take_length])
      go_wp2
      go_ret
      exact ⟨ret_str HE.out, rfl⟩
end Go.Proofs.Ytjpjdecbkekcfaa

/- Package bits: BitsWrites. -/
import Derived.Test.YtbbiohcmfhdmnaaBitG
namespace Go.Proofs.Ytbbiohcmfhdmnaa
open Go.RowKit

theorem bytesL_pre {l m : List Bool} {k : Nat} (h : k ≤ l.length / 8) : (bytesL (l ++ m)).take k = (bytesL l).take k := by
  rw [← bytesL_take (l := l ++ m) (by rw [List.length_append]; omega), ← bytesL_take (l := l) (by omega), List.take_append_of_le_length (by omega)]

set_option maxRecDepth 100000 in
set_option maxHeartbeats 4000000 in
theorem lawBitsWrites {v : Value} {L : List OpB} {w : World} (hv : RS w v L encO 4 goodO) :
    Calls Try.prog 4 #[v] w fun e w' => e = .returned (.bool true) ∧ Below w.heap.size w w' := by
  have HV := Lib.hid hv
  obtain ⟨a, cap, rfl, hc1, hc2⟩ := hv.shape
  clear hv
  go_enter Try.func4, Try.ntmps4
  go_wp2_with fail
  refine (large_any _ L _ HV.out).mono ?_
  rintro e w1 ⟨r, rfl, hsm, hb1⟩
  cases r with
  | true =>
    clear hsm
    go_wp2_with fail
    refine (five_any _).mono ?_
    rintro e w2 ⟨rfl, hb⟩
    have hb := below_two hb1 hb
    go_wp2
    go_ret
    exact ⟨rfl, hb⟩
  | false =>
    have hlen : L.length ≤ 60 := (hsm rfl).1
    clear hsm
    go_wp2_with fail
    refine (lwnew_any w1 (fun _ => False) w.heap.size hb1.size (nog w1)).mono ?_
    rintro e w2 ⟨b, rfl, -, hw2, hb2⟩
    have hbel2 := hb1.trans (below_of hb2 hb1.size)
    have HW2 := Lib.hid hw2
    clear hw2 hb2
    go_wp2
    go_loopw [4, 5, 7, 8, 15] (fun sa st p u i wr => ∃ (k : Nat) (ALL : List Bool) (k1 : Nat) (aa tt : ByteArray), k ≤ L.length ∧ i = .int .i64 k ∧ sa = .string aa ∧ st = .string tt ∧ Hid (aa = stx ALL) ∧ Hid (tt = str ((bytesL ALL).take k1)) ∧ Hid (k1 ≤ ALL.length / 8) ∧ Hid (ALL.length ≤ 40 * k) ∧ Hid (WLive (fun _ => False) w.heap.size b ALL k1 wr) ∧ Below w.heap.size w wr) (fun _ _ _ _ i _ => L.length - (intOf i).toNat)
    case atStart => exact ⟨0, [], 0, ⟨#[]⟩, ⟨#[]⟩, Nat.zero_le _, rfl, rfl, rfl, rfl, rfl, Nat.le_refl _, Nat.le_refl _, HW2.out, hbel2⟩
    case round =>
      obtain ⟨k, ALL, k1, aa, tt, hk, rfl, rfl, rfl, HAA0, HTT0, HK0, HN0, HW, hbel⟩ := hrel
      have hsz := hbel.size
      by_cases hlt : k < L.length
      · obtain ⟨b2, off2, x, rfl, hbb2, hx, hgx, hcx⟩ := (HV.out.below hbel).at hlt
        obtain ⟨xk, xn, xv, xs⟩ := x
        have hc0 : wr.cell? ⟨b2, off2 + k * 4, none⟩ = some (.int .i64 xk) := hcx 0 _ rfl
        have hc1 : wr.cell? ⟨b2, off2 + k * 4 + 1, none⟩ = some (.int .i64 xn) := hcx 1 _ rfl
        have hc2 : wr.cell? ⟨b2, off2 + k * 4 + 2, none⟩ = some (.int .u32 (xv : Int)) := hcx 2 _ rfl
        have hc3 : wr.cell? ⟨b2, off2 + k * 4 + 3, none⟩ = some (.string xs) := hcx 3 _ rfl
        obtain ⟨_, ⟨gn1, gn2⟩, gv, _⟩ := hgx
        clear hx hcx
        dsimp only at gn1 gn2 gv
        have hal := below_alloc wr (Obj.cells #[.int .i64 xk, .int .i64 xn, .int .u32 (xv : Int), .string xs] 29)
        have hW := HW.out.more (G' := fun j => j = wr.heap.size) hal (fun j hj => .inr (by have h : j = wr.heap.size := hj; simp; omega))
        have hbelA := hbel.trans (below_of hal hsz)
        have hA : Blk (wr.alloc (Obj.cells #[.int .i64 xk, .int .i64 xn, .int .u32 (xv : Int), .string xs] 29)) wr.heap.size [.int .i64 xk, .int .i64 xn, .int .u32 (xv : Int), .string xs] 29 := Blk.new wr _ _
        have HA := Lib.hid hA
        have hal0 : ALL.length ≤ 2400 := by have := HN0.out; omega
        clear hA
        by_cases hk1 : xk = 1
        · subst hk1
          have HP := Lib.hid (refpad_any aa ALL (wr.alloc (Obj.cells #[.int .i64 1, .int .i64 xn, .int .u32 (xv : Int), .string xs] 29)) HAA0.out (by omega))
          go_wp2_with fail
          refine (lwpad_any _ _ b ALL k1 _ hW (by omega)).mono ?_
          rintro e w4 ⟨rfl, hw4, hk4⟩
          have HW4 := Lib.hid (hw4.less (G' := fun _ => False) (fun j h => h.elim))
          have hbel4 := hbelA.trans (zone_below hk4 hbelA.size)
          have HP4 := Lib.hid (refpad_any aa ALL w4 HAA0.out (by omega))
          obtain ⟨aa2, haa2⟩ : ∃ z, stx (padL ALL) = z := ⟨_, rfl⟩
          obtain ⟨ALL2, hALL2⟩ : ∃ z, padL ALL = z := ⟨_, rfl⟩
          have hlen2 : ALL2.length ≤ 40 * k + 7 := by have := padL_len ALL; rw [hALL2] at this; have := HN0.out; omega
          have HAA := Lib.hid (show aa2 = stx ALL2 by rw [← haa2, hALL2])
          have HTT := Lib.hid (show tt = str ((bytesL ALL2).take k1) by rw [← hALL2]; unfold padL; rw [bytesL_pre HK0.out]; exact HTT0.out)
          have HKL := Lib.hid (show k1 ≤ ALL2.length / 8 by have := padL_len ALL; rw [hALL2] at this; have := HK0.out; omega)
          rw [haa2] at HP4
          rw [hALL2] at HW4
          obtain ⟨tt2, htt2⟩ : ∃ z, tt = z := ⟨_, rfl⟩
          obtain ⟨k2, hk2⟩ : ∃ z, k1 = z := ⟨_, rfl⟩
          subst htt2 hk2
          clear HP hw4 hk4 hW hbelA HA hc0 hc1 hc2 hc3 haa2 hALL2 HAA0 HTT0 HK0 HW
          go_wp2_with fail
          refine HP4.out.mono ?_
          rintro e w5 ⟨rfl, rfl⟩
          clear HP4
          have HN2 := Lib.hid (show ALL2.length ≤ 40 * (k + 1) by omega)
          have hne1 : ((ALL2.length : Int) != (aa2.size : Int)) = false := by rw [HAA.out, stx_size]; simp
          have hh2 : (((ALL2.length / 8 - k1 : Nat) : Int) != (aa2.size : Int) / 8 - (tt.size : Int)) = false := by
            have h1 : tt.size = k1 := by rw [HTT.out, str_size, List.length_take, bytesL_len]; have := HKL.out; omega
            rw [HAA.out, stx_size, h1]
            have := HKL.out
            simp
            omega
          have hz1 : aa2.size ≤ 100000 := by rw [HAA.out, stx_size]; omega
          have hz2 : tt.size ≤ 100000 := by rw [HTT.out, str_size, List.length_take, bytesL_len]; omega
          have HLN := Lib.hid (lwlen_any _ _ b ALL2 k1 _ HW4.out)
          have HHE := Lib.hid (lwheld_any _ _ b ALL2 k1 _ HW4.out)
          obtain ⟨n2, hn2⟩ : ∃ n, ALL2.length = n := ⟨_, rfl⟩
          rw [hn2] at HLN HHE hne1 hh2
          obtain ⟨h2, hh⟩ : ∃ n, n2 / 8 - k1 = n := ⟨_, rfl⟩
          rw [hh] at HHE hh2
          clear hn2 hh hlen2
          go_wp2_with fail
          refine HLN.out.mono ?_
          rintro e w5 ⟨rfl, rfl⟩
          go_wp2_with fail
          refine HHE.out.mono ?_
          rintro e w5 ⟨rfl, rfl⟩
          clear HLN HHE
          go_wp2
          go_roundw
          case rel => exact ⟨k + 1, ALL2, k1, aa2, tt, by omega, by go_num, rfl, rfl, HAA.out, HTT.out, HKL.out, HN2.out, HW4.out, hbel4⟩
          case measure => simp [intOf]; omega
        · have hk1b : (xk == 1) = false := beq_eq_false_iff_ne.2 hk1
          by_cases hk2 : xk = 2
          · subst hk2
            go_wp2_with fail
            refine (lwtake_any _ _ b ALL k1 _ hW).mono ?_
            rintro e w4 ⟨rfl, hw4, hk4⟩
            have HW4 := Lib.hid (hw4.less (G' := fun _ => False) (fun j h => h.elim))
            have hbel4 := hbelA.trans (zone_below hk4 hbelA.size)
            obtain ⟨d, hd⟩ : ∃ z, str ((bytesL ALL).drop k1) = z := ⟨_, rfl⟩
            obtain ⟨tt2, htt2⟩ : ∃ z, tt ++ d = z := ⟨_, rfl⟩
            have HTA := Lib.hid (show tt2 = str (bytesL ALL) by rw [← htt2, HTT0.out, ← hd, str_append, List.take_append_drop])
            have hzt : tt.size ≤ 2400 := by rw [HTT0.out, str_size, List.length_take, bytesL_len]; omega
            have hzd : d.size ≤ 2400 := by rw [← hd, str_size, List.length_drop, bytesL_len]; omega
            obtain ⟨aa2, haa2⟩ : ∃ z, aa = z := ⟨_, rfl⟩
            obtain ⟨ALL2, hALL2⟩ : ∃ z, ALL = z := ⟨_, rfl⟩
            subst haa2 hALL2
            obtain ⟨k2, hk2⟩ : ∃ z, ALL.length / 8 = z := ⟨_, rfl⟩
            have hlen2 : ALL.length ≤ 40 * k + 7 := by have := HN0.out; omega
            have HAA := HAA0
            have HTT := Lib.hid (show tt2 = str ((bytesL ALL).take k2) by rw [List.take_of_length_le (by rw [bytesL_len]; omega)]; exact HTA.out)
            have HKL := Lib.hid (show k2 ≤ ALL.length / 8 by omega)
            rw [hk2] at HW4
            have HBY := Lib.hid (fun w => refbytes_any aa ALL w HAA0.out (by omega))
            rw [← HTA.out] at HBY
            rw [hd]
            have htt : (!(tt2.toList == tt2.toList)) = false := by simp
            have HT2 := Lib.hid htt2
            clear hw4 hk4 hW hbelA HA hc0 hc1 hc2 hc3 HTT0 HK0 HW hk2 hd HTA htt2
            go_wp2_with fail
            rw [HT2.out]
            refine (HBY.out _).mono ?_
            rintro e w5 ⟨rfl, hb5⟩
            have HW4 := Lib.hid (HW4.out.below hb5)
            have hbel4 := hbel4.trans (below_of hb5 hbel4.size)
            clear HBY hb5
            have HN2 := Lib.hid (show ALL.length ≤ 40 * (k + 1) by omega)
            have hne1 : ((ALL.length : Int) != (aa.size : Int)) = false := by rw [HAA.out, stx_size]; simp
            have hh2 : (((ALL.length / 8 - k2 : Nat) : Int) != (aa.size : Int) / 8 - (tt2.size : Int)) = false := by
              have h1 : tt2.size = k2 := by rw [HTT.out, str_size, List.length_take, bytesL_len]; have := HKL.out; omega
              rw [HAA.out, stx_size, h1]
              have := HKL.out
              simp
              omega
            have hz1 : aa.size ≤ 100000 := by rw [HAA.out, stx_size]; omega
            have hz2 : tt2.size ≤ 100000 := by rw [HTT.out, str_size, List.length_take, bytesL_len]; omega
            have HLN := Lib.hid (lwlen_any _ _ b ALL k2 _ HW4.out)
            have HHE := Lib.hid (lwheld_any _ _ b ALL k2 _ HW4.out)
            obtain ⟨n2, hn2⟩ : ∃ n, ALL.length = n := ⟨_, rfl⟩
            rw [hn2] at HLN HHE hne1 hh2
            obtain ⟨h2, hh⟩ : ∃ n, n2 / 8 - k2 = n := ⟨_, rfl⟩
            rw [hh] at HHE hh2
            clear hn2 hh hlen2
            go_wp2_with fail
            refine HLN.out.mono ?_
            rintro e w5 ⟨rfl, rfl⟩
            go_wp2_with fail
            refine HHE.out.mono ?_
            rintro e w5 ⟨rfl, rfl⟩
            clear HLN HHE
            go_wp2
            go_roundw
            case rel => exact ⟨k + 1, ALL, k2, aa, tt2, by omega, by go_num, rfl, rfl, HAA.out, HTT.out, HKL.out, HN2.out, HW4.out, hbel4⟩
            case measure => simp [intOf]; omega
          · have hk2b : (xk == 2) = false := beq_eq_false_iff_ne.2 hk2
            go_wp2_with fail
            refine (lwput_any _ _ b ALL k1 xv xn _ hW (by omega) gv).mono ?_
            rintro e w4 ⟨rfl, hw4, hk4⟩
            have HW4 := Lib.hid (hw4.less (G' := fun _ => False) (fun j h => h.elim))
            have hbel4 := hbelA.trans (zone_below hk4 hbelA.size)
            have hA1 := (HA.out.keep hk4 (fun hz => hz.2 rfl)).cell (i := 1) (x := .int .i64 xn) rfl
            have hA2 := (HA.out.keep hk4 (fun hz => hz.2 rfl)).cell (i := 2) (x := .int .u32 (xv : Int)) rfl
            have HFI := Lib.hid (reffits_any xv xn w4 gv)
            cases hf : fitsB xv xn with
            | true =>
              obtain ⟨m, rfl, hm, hvm⟩ := fitsB_yes hf
              rw [show putE xv m = 0 by unfold putE; rw [hf]; rfl]
              rw [show putA ALL xv m = ALL ++ fieldL xv m by unfold putA; rw [hf, if_pos rfl, Int.toNat_natCast]] at HW4
              rw [hf] at HFI
              have HFL := Lib.hid (field_any xv m w4 gv (by omega))
              rw [Int.toNat_natCast] at HFL
              obtain ⟨f, hfe⟩ : ∃ z, stx (fieldL xv m) = z := ⟨_, rfl⟩
              have hfz : f.size ≤ 32 := by rw [← hfe, stx_size, fieldL_len]; exact hm
              rw [hfe] at HFL
              have haz : aa.size ≤ 2400 := by rw [HAA0.out, stx_size]; exact hal0
              obtain ⟨aa2, haa2⟩ : ∃ z, aa ++ f = z := ⟨_, rfl⟩
              obtain ⟨ALL2, hALL2⟩ : ∃ z, ALL ++ fieldL xv m = z := ⟨_, rfl⟩
              have hlen2 : ALL2.length ≤ 40 * k + 32 := by have := HN0.out; rw [← hALL2, List.length_append, fieldL_len]; omega
              have HAA := Lib.hid (show aa2 = stx ALL2 by rw [← haa2, HAA0.out, ← hfe, stx_append, hALL2])
              have HTT := Lib.hid (show tt = str ((bytesL ALL2).take k1) by rw [← hALL2, bytesL_pre HK0.out]; exact HTT0.out)
              have HKL := Lib.hid (show k1 ≤ ALL2.length / 8 by have := HK0.out; rw [← hALL2, List.length_append]; omega)
              rw [hALL2] at HW4
              obtain ⟨tt2, htt2⟩ : ∃ z, tt = z := ⟨_, rfl⟩
              obtain ⟨k2, hk2e⟩ : ∃ z, k1 = z := ⟨_, rfl⟩
              subst htt2 hk2e
              have HA2 := Lib.hid haa2
              clear hw4 hk4 hW hbelA HA hc0 hc1 hc2 hc3 HAA0 HTT0 HK0 HW hALL2 hfe hf haa2 hk2 hk1
              go_wp2_with fail
              refine HFI.out.mono ?_
              rintro e w5 ⟨rfl, rfl⟩
              go_wp2_with fail
              refine HFL.out.mono ?_
              rintro e w5 ⟨rfl, rfl⟩
              clear HFI HFL
              have HN2 := Lib.hid (show ALL2.length ≤ 40 * (k + 1) by omega)
              have hne1 : ((ALL2.length : Int) != (aa2.size : Int)) = false := by rw [HAA.out, stx_size]; simp
              have hh2 : (((ALL2.length / 8 - k1 : Nat) : Int) != (aa2.size : Int) / 8 - (tt.size : Int)) = false := by
                have h1 : tt.size = k1 := by rw [HTT.out, str_size, List.length_take, bytesL_len]; have := HKL.out; omega
                rw [HAA.out, stx_size, h1]
                have := HKL.out
                simp
                omega
              have hz1 : aa2.size ≤ 100000 := by rw [HAA.out, stx_size]; omega
              have hz2 : tt.size ≤ 100000 := by rw [HTT.out, str_size, List.length_take, bytesL_len]; omega
              have HLN := Lib.hid (lwlen_any _ _ b ALL2 k1 _ HW4.out)
              have HHE := Lib.hid (lwheld_any _ _ b ALL2 k1 _ HW4.out)
              obtain ⟨n2, hn2⟩ : ∃ n, ALL2.length = n := ⟨_, rfl⟩
              rw [hn2] at HLN HHE hne1 hh2
              obtain ⟨h2, hh⟩ : ∃ n, n2 / 8 - k1 = n := ⟨_, rfl⟩
              rw [hh] at HHE hh2
              clear hn2 hh hlen2
              go_wp2_with fail
              rw [HA2.out]
              refine HLN.out.mono ?_
              rintro e w5 ⟨rfl, rfl⟩
              go_wp2_with fail
              refine HHE.out.mono ?_
              rintro e w5 ⟨rfl, rfl⟩
              clear HLN HHE
              go_wp2
              go_roundw
              case rel => exact ⟨k + 1, ALL2, k1, aa2, tt, by omega, by go_num, rfl, rfl, HAA.out, HTT.out, HKL.out, HN2.out, HW4.out, hbel4⟩
              case measure => simp [intOf]; omega
            | false =>
              rw [show putE xv xn = 1 by unfold putE; rw [hf]; rfl]
              rw [show putA ALL xv xn = ALL by unfold putA; rw [hf]; rfl] at HW4
              rw [hf] at HFI
              obtain ⟨aa2, haa2⟩ : ∃ z, aa = z := ⟨_, rfl⟩
              obtain ⟨ALL2, hALL2⟩ : ∃ z, ALL = z := ⟨_, rfl⟩
              subst haa2 hALL2
              have hlen2 : ALL.length ≤ 40 * k + 32 := by have := HN0.out; omega
              have HAA := HAA0
              have HTT := HTT0
              have HKL := HK0
              obtain ⟨tt2, htt2⟩ : ∃ z, tt = z := ⟨_, rfl⟩
              obtain ⟨k2, hk2e⟩ : ∃ z, k1 = z := ⟨_, rfl⟩
              subst htt2 hk2e
              clear hw4 hk4 hW hbelA HA hc0 hc1 hc2 hc3 HAA0 HTT0 HK0 HW hf hk2 hk1
              go_wp2_with fail
              refine HFI.out.mono ?_
              rintro e w5 ⟨rfl, rfl⟩
              clear HFI
              have HN2 := Lib.hid (show ALL.length ≤ 40 * (k + 1) by omega)
              have hne1 : ((ALL.length : Int) != (aa.size : Int)) = false := by rw [HAA.out, stx_size]; simp
              have hh2 : (((ALL.length / 8 - k1 : Nat) : Int) != (aa.size : Int) / 8 - (tt.size : Int)) = false := by
                have h1 : tt.size = k1 := by rw [HTT.out, str_size, List.length_take, bytesL_len]; have := HKL.out; omega
                rw [HAA.out, stx_size, h1]
                have := HKL.out
                simp
                omega
              have hz1 : aa.size ≤ 100000 := by rw [HAA.out, stx_size]; omega
              have hz2 : tt.size ≤ 100000 := by rw [HTT.out, str_size, List.length_take, bytesL_len]; omega
              have HLN := Lib.hid (lwlen_any _ _ b ALL k1 _ HW4.out)
              have HHE := Lib.hid (lwheld_any _ _ b ALL k1 _ HW4.out)
              obtain ⟨n2, hn2⟩ : ∃ n, ALL.length = n := ⟨_, rfl⟩
              rw [hn2] at HLN HHE hne1 hh2
              obtain ⟨h2, hh⟩ : ∃ n, n2 / 8 - k1 = n := ⟨_, rfl⟩
              rw [hh] at HHE hh2
              clear hn2 hh hlen2
              go_wp2_with fail
              refine HLN.out.mono ?_
              rintro e w5 ⟨rfl, rfl⟩
              go_wp2_with fail
              refine HHE.out.mono ?_
              rintro e w5 ⟨rfl, rfl⟩
              clear HLN HHE
              go_wp2
              go_roundw
              case rel => exact ⟨k + 1, ALL, k1, aa, tt, by omega, by go_num, rfl, rfl, HAA.out, HTT.out, HKL.out, HN2.out, HW4.out, hbel4⟩
              case measure => simp [intOf]; omega
      · obtain rfl : k = L.length := by omega
        go_wp2_with fail
        refine (five_any _).mono ?_
        rintro e w7 ⟨rfl, hb7⟩
        have hbel7 := hbel.trans (below_of hb7 hbel.size)
        clear hb7
        go_wp2
        go_ret
        exact ⟨rfl, hbel7⟩
end Go.Proofs.Ytbbiohcmfhdmnaa

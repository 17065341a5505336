/- Package window: the law WindowActs walked. -/
import Derived.Test.YtfphdcfbkknpbaaWinJ
import Derived.Test.YtfphdcfbkknpbaaLedG
import Derived.Test.YtfphdcfbkknpbaaWinE
namespace Go.Proofs.Ytfphdcfbkknpbaa
open Go.RowKit

theorem chginfo : (Try.prog.info? 57).map (fun i => (i.zero, i.size, i.bytes)) = some (some (.agg #[.int .i64 0, .int .i64 0, .int .i64 0]), 3, 24) := by kernel_rfl
theorem encC_len : ∀ x : Chg, (encC x).length = 3 := fun _ => rfl
theorem flatC_snoc (D : List Chg) (t n a : Int) : (D ++ [(t, n, a)]).flatMap encC = D.flatMap encC ++ [.int .i64 t, .int .i64 n, .int .i64 a] := by rw [List.flatMap_append]; rfl
theorem allL_at {Q C : List Int} {k : Nat} (h : k < Q.length) : (allL Q C)[k]? = some (leftL Q C k) := by
  unfold allL
  rw [List.getElem?_map, List.getElem?_range h]
  rfl
theorem allL_len (Q C : List Int) : (allL Q C).length = Q.length := by simp [allL]

set_option maxRecDepth 100000 in
set_option maxHeartbeats 4000000 in
theorem lawWindowActs {span : Int} {v va : Value} {Q : List Int} {l : List (Bool × Int × Int)} {w : World} (_hs1 : -9223372036854775808 ≤ span) (_hs2 : span ≤ 9223372036854775807) (hv : RInts w v Q) (hva : RS w va l encA 3 goodA) :
    Calls Try.prog 9 #[.int .i64 span, v, va] w fun e w' => e = .returned (.bool true) ∧ Below w.heap.size w w' := by
  have HV := Lib.hid hv
  have HA := Lib.hid hva
  obtain ⟨a, cap, rfl, hc1, hc2⟩ := hv.shape
  obtain ⟨a2, cap2, rfl, hc3, hc4⟩ := hva.shape
  clear hv hva
  by_cases hl : l.length ≤ 40
  · have hll : (l.length : Int) ≤ 40 := by omega
    cases hmay : mayM span Q with
    | false =>
      have HN := Lib.hid (wnew_no _ Q span w HV.out hmay)
      have HLI := Lib.hid (maym_any span _ Q w HV.out)
      rw [hmay] at HLI
      clear hmay
      go_enter Try.func9, Try.ntmps9
      go_wp2_with fail
      refine HN.out.mono ?_
      rintro e w1 ⟨rfl, rfl⟩
      clear HN
      go_wp2_with fail
      refine HLI.out.mono ?_
      rintro e w1 ⟨rfl, rfl⟩
      clear HLI
      go_wp2_with fail
      refine (five_any _).mono ?_
      rintro e w1 ⟨rfl, hb⟩
      go_wp2
      go_ret
      exact ⟨rfl, hb⟩
    | true =>
      have HMAY := Lib.hid hmay
      obtain ⟨p1, p2, p3, p4, p5⟩ := mayM_yes hmay
      have HP5 := Lib.hid p5
      clear hmay p5
      go_enter Try.func9, Try.ntmps9
      go_wp2_with fail
      refine (wnew_ok _ Q span _ HV.out p1 p2 p3 p4 HP5.out).mono ?_
      rintro e w1 ⟨b, rfl, m, rfl, hm1, hb1, g1, g2, g3, g4⟩
      have HM1 := Lib.hid hm1
      have hlts := hm1.lts
      have HLI := Lib.hid (maym_any span _ Q w1 (HV.out.below hb1))
      rw [HMAY.out] at HLI
      obtain ⟨B, hB⟩ : ∃ z, w1.heap.size = z := ⟨_, rfl⟩
      rw [hB] at hlts
      have HB := Lib.hid hB
      have G := Lib.hid (show (w.heap.size ≤ m.b ∧ w.heap.size ≤ m.bq ∧ w.heap.size ≤ m.bc ∧ w.heap.size ≤ m.bt) ∧ (m.b < B ∧ m.bq < B ∧ m.bc < B ∧ m.bt < B) ∧ w.heap.size ≤ B from ⟨⟨g1, g2, g3, g4⟩, hlts, by rw [← hB]; exact hb1.size⟩)
      clear hm1 g1 g2 g3 g4 hB hlts
      go_wp2_with fail
      refine HLI.out.mono ?_
      rintro e w2 ⟨rfl, rfl⟩
      clear HLI
      go_wp2
      go_loopw [9, 10, 15, 44] (fun sv at_ _ i wr => ∃ (k n bc : Nat) (C T : List Int) (ch : List Chg), k ≤ l.length ∧ i = .int .i64 k ∧ n ≤ k ∧ at_ = .int .i64 n ∧ Hid (MeterAt wr { m with bc := bc } span n Q C T) ∧ Hid (within Q C ∧ small T) ∧ Hid (linkC Q C T ch n span) ∧ Hid (agesC ch n) ∧ Hid (Own wr 57 3 sv ch.length (ch.flatMap encC)) ∧ Hid (FreshV B sv) ∧ Hid (ch.length ≤ k) ∧ Hid (w.heap.size ≤ bc ∧ ∀ g, sv.ownBlock = some g → g ≠ bc) ∧ B ≤ wr.heap.size ∧ Below w.heap.size w wr) (fun _ _ _ i _ => l.length - (intOf i).toNat)
      case atStart => exact ⟨0, 0, m.bc, List.replicate Q.length 0, List.replicate Q.length 0, [], Nat.zero_le _, rfl, Nat.le_refl _, rfl, HM1.out, ⟨within_zeros HP5.out _, small_zeros _⟩, linkC_new Q span, fun c hc => (by cases hc), Own.nil _ _ _, FreshV.nil _, Nat.le_refl _, ⟨G.out.1.2.2.1, fun g hg => (by simp [Value.ownBlock] at hg)⟩, Nat.le_of_eq HB.out.symm, hb1⟩
      case round =>
        obtain ⟨k, n, bc, C, T, ch, hk, rfl, hnk, rfl, HM, HW, LK, HAG, HO, HF, HDL, HSP, hBz, hbel⟩ := hrel
        obtain ⟨a7, cap7, rfl, hd1, hd2, -⟩ := Own.reads HO.out
        have hd3 : ch.length ≤ 40 := by have := HDL.out; omega
        by_cases hlt : k < l.length
        · obtain ⟨b2, off2, x, rfl, hbb2, hx, hgx, hcx⟩ := (HA.out.below hbel).at hlt
          obtain ⟨tk, tn, nn⟩ := x
          have hc0 : wr.cell? ⟨b2, off2 + k * 3, none⟩ = some (.bool tk) := hcx 0 _ rfl
          have hc1 : wr.cell? ⟨b2, off2 + k * 3 + 1, none⟩ = some (.int .i64 tn) := hcx 1 _ rfl
          have hc2 : wr.cell? ⟨b2, off2 + k * 3 + 2, none⟩ = some (.int .i64 nn) := hcx 2 _ rfl
          have hkl : (k : Int) < (l.length : Int) := by omega
          have hsz := hbel.size
          have hn40 : (n : Int) ≤ 40 := by omega
          clear hx hcx hgx
          have hal1 := below_alloc wr (Obj.cells #[Value.bool tk, Value.int IntKind.i64 tn, Value.int IntKind.i64 nn] 31)
          have hal2 := below_alloc (wr.alloc (Obj.cells #[Value.bool tk, Value.int IntKind.i64 tn, Value.int IntKind.i64 nn] 31)) (Obj.cells #[Value.int IntKind.i64 tn, Value.int IntKind.i64 nn, Value.int IntKind.i64 (n : Nat)] 57)
          have HAL := Lib.hid (below_two hal1 hal2)
          have HBA := Lib.hid ((Blk.new wr [Value.bool tk, Value.int IntKind.i64 tn, Value.int IntKind.i64 nn] 31).below hal2)
          have HBD := Lib.hid (Blk.new (wr.alloc (Obj.cells #[Value.bool tk, Value.int IntKind.i64 tn, Value.int IntKind.i64 nn] 31)) [Value.int IntKind.i64 tn, Value.int IntKind.i64 nn, Value.int IntKind.i64 (n : Nat)] 57)
          have hsd : (wr.alloc (Obj.cells #[Value.bool tk, Value.int IntKind.i64 tn, Value.int IntKind.i64 nn] 31)).heap.size = wr.heap.size + 1 := by simp
          rw [hsd] at HBD
          have HLTS := Lib.hid HM.out.lts
          have HOL := Lib.hid (show ∀ g, (Value.slice a7 ch.length cap7).ownBlock = some g → g < wr.heap.size from HO.out.lt)
          clear hal1 hal2 hsd
          cases tk with
          | true =>
            have HM2 := Lib.hid (HM.out.below HAL.out)
            have HO2 := Lib.hid (HO.out.below HAL.out)
            have HBE2 := Lib.hid (hbel.trans (below_of HAL.out hsz))
            have HSA := Lib.hid HAL.out.size
            have HT := Lib.hid (wtick_any { m with bc := bc } span n Q C T _ HM2.out p1 (by omega) (by omega))
            unfold MB.ptr at HT
            clear HBA HBD
            go_wp2_with fail
            refine HT.out.mono ?_
            rintro e w6 ⟨bc3, rfl, hm4, k4, hf4⟩
            have hf5 : bc3 = bc ∨ wr.heap.size ≤ bc3 := by
              rcases hf4 with h | h
              · exact .inl h
              · have := HSA.out; exact .inr (Nat.le_trans this h)
            have HZ := Lib.hid (show MeterAt w6 { m with bc := bc3 } span ((n + 1 : Nat) : Int) Q (tickC span n C) T from hm4)
            have HOZ := Lib.hid (HO2.out.keep k4 (fun g hg he => by have h : g = m.b := he; have := HF.out g hg; have := G.out; omega))
            have hbelz := HBE2.out.trans (k4.below (B := w.heap.size) HBE2.out.size (fun j hj he => by have h : j = m.b := he; have := G.out; omega))
            have HWZ := Lib.hid (show within Q (tickC span n C) ∧ small T from ⟨tickC_within HW.out.1 HP5.out, HW.out.2⟩)
            have LKZ := Lib.hid (show linkC Q (tickC span n C) T ch ((n + 1 : Nat) : Int) span from linkC_tick LK.out HAG.out p1 (by omega))
            have HAZ := Lib.hid (show agesC ch ((n + 1 : Nat) : Int) from ages_tick HAG.out)
            have HFZ := HF
            have HDZ := Lib.hid (show ch.length ≤ k + 1 by have := HDL.out; omega)
            have HSZ := Lib.hid (show w.heap.size ≤ bc3 ∧ ∀ g, (Value.slice a7 ch.length cap7).ownBlock = some g → g ≠ bc3 from by
              refine ⟨by have := HSP.out.1; omega, fun g hg => ?_⟩
              have h1 := HSP.out.2 g hg
              have h2 := HOL.out g hg
              omega)
            have hBzz : B ≤ w6.heap.size := by have := k4.size; have := HSA.out; omega
            have hnz : n + 1 ≤ k + 1 := by omega
            have hnz40 : (((n + 1 : Nat)) : Int) ≤ 41 := by omega
            clear HT hm4 k4 hf4 hf5 HM HM2 HO HO2 HBE2 HSA HW LK HAG HF HDL HSP HLTS HOL HAL hc0 hc1 hc2
            generalize tickC span n C = C3 at *

            have HRZ := Lib.hid (rs_of_own encC_len HOZ.out (fun c hc => (HAZ.out c hc).1))
            have HRG := Lib.hid (show ∀ c ∈ ch, goodC c from fun c hc => (HAZ.out c hc).1)
            have hDB : ch.length ≤ 100 := by have := HDZ.out; omega
            have HSM := Lib.hid (within_small HWZ.out.1 LKZ.out.1 HP5.out)
            go_wp2
            go_loopw [15, 82] (fun av i wj => ∃ j : Nat, j ≤ Q.length ∧ i = .int .i64 j ∧ Hid (OwnI wj 3 av ((allL Q C3).take j)) ∧ Hid (FreshV w6.heap.size av) ∧ Below w6.heap.size w6 wj) (fun _ i _ => Q.length - (intOf i).toNat)
            case atStart => exact ⟨0, Nat.zero_le _, rfl, OwnI.nil _ _, FreshV.nil _, Below.refl _ _⟩
            case round =>
              obtain ⟨j, hj, rfl, HOA, HFA, hbj⟩ := hrel
              obtain ⟨AL, hAL⟩ : ∃ z, (allL Q C3).take j = z := ⟨_, rfl⟩
              have hLL : AL.length = j := by rw [← hAL, List.length_take, allL_len]; omega
              rw [hAL] at HOA
              have HALE := Lib.hid hAL
              obtain ⟨a15, cap15, hv15, hx1, hx2, -⟩ := Own.reads (show Own _ _ _ _ _ _ from HOA.out)
              rw [hLL] at hv15 hx1
              subst hv15
              have HLL := Lib.hid hLL
              clear hAL hLL
              by_cases hjl : j < Q.length
              · obtain ⟨b5, off5, q, rfl, hb5, hq, hcq, hq1, hq2⟩ := (HV.out.below (hbelz.trans (below_of hbj hbelz.size))).at hjl
                have hqm := mayL_at HP5.out hq
                have hleft := linkC_left LKZ.out hq
                have htot := linkC_total LKZ.out hq
                have hub := chL_bd HRG.out j ((n + 1 : Nat) : Int) span
                have hla := allL_at (C := C3) hjl
                have HRJ := Lib.hid (HRZ.out.below hbj)
                have CC := Lib.hid (refcharged_any _ ch j 0 ((n + 1 : Nat) : Int) span _ HRJ.out HRG.out (by omega) p1 (by omega) (by omega))
                obtain ⟨U, hU⟩ : ∃ z, chL ch j ((n + 1 : Nat) : Int) span = z := ⟨_, rfl⟩
                rw [hU] at hleft hub CC
                rw [hleft] at hla
                have hwq : IntKind.i64.wrap (q - U) = q - U := IntWalk.i64_in _ (by omega)
                obtain ⟨F, hF⟩ : ∃ z, q - U = z := ⟨_, rfl⟩
                rw [hF] at hwq hla hleft
                have HTK := Lib.hid (show (allL Q C3).take (j + 1) = AL ++ [F] by rw [take_snoc hla, HALE.out])
                have HLE := Lib.hid hleft
                have HTO := Lib.hid htot
                have hjk : (j : Int) < (Q.length : Int) := by omega
                have hqU : q - U = F := hF
                clear hq hleft htot hub hla hU hF hqm HALE
                go_wp2_with fail
                refine CC.out.mono ?_
                rintro e x1 ⟨rfl, hb4⟩
                have hbj := below_two hbj hb4
                have hoa := HOA.out.below hb4
                have HLN := Lib.hid (show AL.length < 1000000000 by rw [HLL.out]; omega)
                clear hb4 CC hcq HRJ
                go_wp2_with (at_builtin; refine wpList_append_int _ _ rfl _ _ 22 rfl 3 Try.underlying22 intinfo _ AL _ _ rfl rfl rfl hoa HLN.out ?_)
                intro v2 x2 hown2 hkeep2 hfresh2
                have HF2 := Lib.hid (HFA.out.step hbj.size hfresh2)
                have hbj := below_append hbj hkeep2 HFA.out hbj.size
                rw [← HTK.out] at hown2
                have HO2 := Lib.hid hown2
                clear hoa hown2 hkeep2 hfresh2 HOA HFA HLL hwq hqU
                have HT := Lib.hid (wleft_any { m with bc := bc3 } span ((n + 1 : Nat) : Int) j Q C3 T _ (HZ.out.below hbj) HSM.out)
                unfold MB.ptr at HT
                rw [HLE.out] at HT
                go_wp2_with fail
                refine HT.out.mono ?_
                rintro e x3 ⟨rfl, hd⟩
                have HO3 := Lib.hid (HO2.out.below (below_drawn hd))
                have hbj := below_two hbj (below_drawn hd)
                clear HT hd HO2 HLE
                have HT := Lib.hid (wtotal_any { m with bc := bc3 } span ((n + 1 : Nat) : Int) j Q C3 T _ (HZ.out.below hbj))
                unfold MB.ptr at HT
                rw [HTO.out] at HT
                have CC := Lib.hid (reftotal_any _ ch j _ (HRZ.out.below hbj) hDB)
                obtain ⟨TT, hTT⟩ : ∃ z, totC ch j = z := ⟨_, rfl⟩
                rw [hTT] at HT CC
                clear hTT HTO
                go_wp2_with fail
                refine HT.out.mono ?_
                rintro e x4 ⟨rfl, rfl⟩
                clear HT
                go_wp2_with fail
                refine CC.out.mono ?_
                rintro e x5 ⟨rfl, hb4⟩
                have HO4 := Lib.hid (HO3.out.below hb4)
                have hbj := below_two hbj hb4
                clear CC hb4 HO3
                go_wp2
                go_roundw
                case rel => exact ⟨j + 1, by omega, by go_num, HO4.out, HF2.out, hbj⟩
                case measure => simp [intOf]; omega
              · obtain rfl : j = Q.length := by omega
                have hfull : AL = allL Q C3 := by rw [← HALE.out, List.take_of_length_le (by rw [allL_len]; omega)]
                subst hfull
                have HJD := Lib.hid ((HZ.out.below hbj).below (below_drew _))
                have HAT := Lib.hid (wat_any { m with bc := bc3 } span ((n + 1 : Nat) : Int) Q C3 T _ HJD.out)
                have HBG := Lib.hid (wbegins_any { m with bc := bc3 } span ((n + 1 : Nat) : Int) Q C3 T _ HJD.out p1 (by omega) (by omega))
                have HAC := Lib.hid (fun y (hy : Below _ _ y) => wall_any { m with bc := bc3 } span ((n + 1 : Nat) : Int) Q C3 T y (HJD.out.below hy) HWZ.out.1)
                have hbds : ∀ x ∈ allL Q C3, -9223372036854775808 ≤ x ∧ x ≤ 9223372036854775807 := by
                  intro x hx
                  obtain ⟨i, hi⟩ := List.mem_iff_getElem?.1 hx
                  have hil : i < Q.length := by have := (List.getElem?_eq_some_iff.1 hi).1; rw [allL_len] at this; exact this
                  rw [allL_at hil] at hi
                  simp only [Option.some.injEq] at hi
                  have hq : Q[i]? = some Q[i] := List.getElem?_eq_getElem hil
                  have hl2 := linkC_left LKZ.out hq
                  have h1 := chL_bd HRG.out i ((n + 1 : Nat) : Int) span
                  have h2 := mayL_at HP5.out hq
                  omega
                have HRA := Lib.hid (OwnI.reads (HOA.out.below (below_drew _)) hbds)
                have HIN := Lib.hid (fun v3 y (hy : Below _ _ y) (hr : RInts y v3 (allL Q C3)) => ints_same v3 _ (allL Q C3) y hr (HRA.out.below hy))
                have hbd := below_two hbj (below_drew _)
                have htm : Int.tmod ((n : Int) + 1 : Int) span = ((n : Int) + 1 : Int) % span := Int.tmod_eq_emod_of_nonneg (by omega)
                cases hbg : (((n : Int) + 1 : Int) % span == 0) with
                | true =>
                  have hbq : ((((n + 1 : Nat) : Int) : Int) % span == 0) = true := hbg
                  rw [hbq] at HBG
                  clear hbq
                  have hne : ((span : Int) == 0) = false := beq_eq_false_iff_ne.2 (by omega)
                  have hsn : ¬ span = 0 := by omega
                  unfold MB.ptr at HAT HBG HAC
                  clear hbds HALE HLL HOA HFA HJD
                  go_wp2
                  go_region_held3 (fun _ => True) (trivial)
                    (first
                      | (go_at_call 42; refine HAT.out.mono ?_; rintro e y1 ⟨rfl, rfl⟩)
                      | (go_at_call 43; refine HBG.out.mono ?_; rintro e y2 ⟨rfl, hbn⟩)
                      | (go_at_call 44; refine (HAC.out _ (below_drawn hbn)).mono ?_; rintro e y3 ⟨v3, rfl, hr3, hb3⟩)
                      | (go_at_call 38; refine (HIN.out v3 y3 (below_two (below_drawn hbn) hb3) hr3).mono ?_; rintro e y4 ⟨rfl, hbm⟩))
                  all_goals
                    have hbe := below_two (below_two (below_two hbd (below_drawn hbn)) hb3) (below_drawn hbm)
                    go_wp2
                    go_roundw
                    case rel => exact ⟨k + 1, n + 1, bc3, C3, T, ch, by omega, by go_num, hnz, by go_num, HZ.out.below hbe, HWZ.out, LKZ.out, HAZ.out, HOZ.out.below hbe, HFZ.out, HDZ.out, HSZ.out, Nat.le_trans hBzz hbe.size, hbelz.trans (below_of hbe hbelz.size)⟩
                    case measure => simp [intOf]; omega
                | false =>
                  have hbq : ((((n + 1 : Nat) : Int) : Int) % span == 0) = false := hbg
                  rw [hbq] at HBG
                  clear hbq
                  have hne : ((span : Int) == 0) = false := beq_eq_false_iff_ne.2 (by omega)
                  have hsn : ¬ span = 0 := by omega
                  unfold MB.ptr at HAT HBG HAC
                  clear hbds HALE HLL HOA HFA HJD
                  go_wp2
                  go_region_held3 (fun _ => True) (trivial)
                    (first
                      | (go_at_call 42; refine HAT.out.mono ?_; rintro e y1 ⟨rfl, rfl⟩)
                      | (go_at_call 43; refine HBG.out.mono ?_; rintro e y2 ⟨rfl, hbn⟩)
                      | (go_at_call 44; refine (HAC.out _ (below_drawn hbn)).mono ?_; rintro e y3 ⟨v3, rfl, hr3, hb3⟩)
                      | (go_at_call 38; refine (HIN.out v3 y3 (below_two (below_drawn hbn) hb3) hr3).mono ?_; rintro e y4 ⟨rfl, hbm⟩))
                  all_goals
                    have hbe := below_two (below_two (below_two hbd (below_drawn hbn)) hb3) (below_drawn hbm)
                    go_wp2
                    go_roundw
                    case rel => exact ⟨k + 1, n + 1, bc3, C3, T, ch, by omega, by go_num, hnz, by go_num, HZ.out.below hbe, HWZ.out, LKZ.out, HAZ.out, HOZ.out.below hbe, HFZ.out, HDZ.out, HSZ.out, Nat.le_trans hBzz hbe.size, hbelz.trans (below_of hbe hbelz.size)⟩
                    case measure => simp [intOf]; omega
          | false =>
            have HRS := Lib.hid (rs_of_own encC_len (HO.out.below HAL.out) (fun c hc => (HAG.out c hc).1))
            have HVV := Lib.hid (HV.out.below (hbel.trans (below_of HAL.out hsz)))
            have HWA := Lib.hid (refrefused_any _ _ Q ch tn nn n span _ HVV.out HP5.out HRS.out (by omega) p1 (by omega) (by omega))
            rw [refW_same LK.out] at HWA
            clear HVV HRS
            go_wp2_with fail
            refine HWA.out.mono ?_
            rintro e w3 ⟨rfl, hb3⟩
            have H3 := Lib.hid ((HM.out.below HAL.out).below hb3)
            have HO3 := Lib.hid ((HO.out.below HAL.out).below hb3)
            have C1 := HBA.out.below hb3
            have hca1 := C1.cell (i := 1) (x := .int .i64 tn) rfl
            have hca2 := C1.cell (i := 2) (x := .int .i64 nn) rfl
            have HBD3 := Lib.hid (HBD.out.below hb3)
            have HBE3 := Lib.hid (hbel.trans (below_of (below_two HAL.out hb3) hsz))
            clear HWA hb3 HM HO HBA HBD HAL C1 hc0 hc1 hc2
            have HT := Lib.hid (wcharge_any { m with bc := bc } span n tn nn Q C T w3 H3.out (within_small HW.out.1 LK.out.1 HP5.out) HW.out.2)
            unfold MB.ptr at HT
            go_wp2_with fail
            refine HT.out.mono ?_
            rintro e w4 ⟨rfl, h4, k4⟩
            have H4 := Lib.hid h4
            have HO4 := Lib.hid (HO3.out.keep k4 (fun g hg he => by have h : g = bc ∨ g = m.bt := he; have := HSP.out.2 g hg; have := HF.out g hg; have := G.out; omega))
            have HBD4 := Lib.hid (HBD3.out.keep k4 (fun he => by have h : wr.heap.size + 1 = bc ∨ wr.heap.size + 1 = m.bt := he; have := HLTS.out; have h1 : bc < wr.heap.size := this.2.2.1; have h2 : m.bt < wr.heap.size := this.2.2.2; omega))
            have HBE4 := Lib.hid (HBE3.out.trans (k4.below (B := w.heap.size) HBE3.out.size (fun j hj he => by have h : j = bc ∨ j = m.bt := he; have := G.out; have := HSP.out.1; omega)))
            have HS4 := Lib.hid (show wr.heap.size + 1 < w4.heap.size from HBD4.out.lt)
            have HWZ := Lib.hid (show within Q (chargeC Q C tn nn) ∧ small (chargeT Q C T tn nn) from ⟨within_charge HW.out.1 LK.out.1, small_chargeT HW.out.2⟩)
            have hnz : n ≤ k + 1 := by omega
            have hnz40 : ((n : Nat) : Int) ≤ 41 := by omega
            clear HT h4 k4 H3 HO3 HBD3 HBE3 hca1 hca2 HW
            by_cases h0 : chargeE Q C tn nn = 0
            · have HLKN := Lib.hid (linkC_charge LK.out h0)
              have HAZ0 := Lib.hid (ages_charge HAG.out h0 (by omega) (by omega))
              have hcz0 := HBD4.out.cell (i := 0) (x := .int .i64 tn) rfl
              have hcz1 := HBD4.out.cell (i := 1) (x := .int .i64 nn) rfl
              have hcz2 := HBD4.out.cell (i := 2) (x := .int .i64 (n : Nat)) rfl
              have hown := HO4.out
              have hdb : ch.length < 1000000000 := by omega
              rw [h0]
              generalize chargeC Q C tn nn = C3 at *
              generalize chargeT Q C T tn nn = T3 at *
              clear h0 LK HAG
              go_wp2_with (at_builtin; refine wpList_append_elem2 _ _ rfl _ _ 55 rfl 57 (.agg #[.int .i64 0, .int .i64 0, .int .i64 0]) 3 24 Try.underlying55 chginfo rfl (by decide) _ ch.length _ [.int .i64 tn, .int .i64 nn, .int .i64 (n : Nat)] _ rfl rfl (by intro u hu; simp at hu; rcases hu with rfl | rfl | rfl <;> rfl) w4.heap.size (by simp) rfl rfl hown hdb (by decide) ?_)
              intro v6 w6 hown6 hkeep hfresh
              have HZ := Lib.hid (H4.out.keep hkeep (fun e => by have h1 := HF.out _ e; have h2 := G.out; have h : B ≤ m.b := h1; omega) (fun e => by have h1 := HF.out _ e; have h2 := G.out; have h : B ≤ m.bq := h1; omega) (fun e => HSP.out.2 _ e rfl) (fun e => by have h1 := HF.out _ e; have h2 := G.out; have h : B ≤ m.bt := h1; omega))
              have HFZ := Lib.hid (HF.out.step (w := w4) (by have := HS4.out; omega) hfresh)
              have hbelz := below_append HBE4.out hkeep (fun g hg => by have := HF.out g hg; have := G.out; omega) (HBE4.out.size)
              have hBzz : B ≤ w6.heap.size := by have := hkeep.size; have := HS4.out; omega
              have HOZ := Lib.hid (show Own w6 57 3 v6 (ch ++ [(tn, nn, (n : Int))]).length ((ch ++ [(tn, nn, (n : Int))]).flatMap encC) by rw [flatC_snoc, List.length_append]; exact hown6)
              have HDZ := Lib.hid (show (ch ++ [(tn, nn, (n : Int))]).length ≤ k + 1 by rw [List.length_append]; have := HDL.out; show ch.length + 1 ≤ _; omega)
              have HSZ := Lib.hid (show w.heap.size ≤ bc ∧ ∀ g, v6.ownBlock = some g → g ≠ bc from by
                refine ⟨HSP.out.1, fun g hg => ?_⟩
                rcases hfresh g hg with h | h
                · exact HSP.out.2 g h
                · have h1 : bc < wr.heap.size := HLTS.out.2.2.1
                  have := HS4.out
                  omega)
              have LKZ := HLKN
              have HAZ := HAZ0
              generalize ch ++ [(tn, nn, (n : Int))] = D3 at *
              clear hcz0 hcz1 hcz2 hown hdb hown6 hkeep hfresh H4 HO4 HBD4 HBE4 HS4 HF HDL HSP HLTS HOL HLKN HAZ0
              obtain ⟨a9, cap9, rfl, hz1, hz2, -⟩ := Own.reads HOZ.out

              have HRZ := Lib.hid (rs_of_own encC_len HOZ.out (fun c hc => (HAZ.out c hc).1))
              have HRG := Lib.hid (show ∀ c ∈ D3, goodC c from fun c hc => (HAZ.out c hc).1)
              have hDB : D3.length ≤ 100 := by have := HDZ.out; omega
              have HSM := Lib.hid (within_small HWZ.out.1 LKZ.out.1 HP5.out)
              go_wp2
              go_loopw [15, 82] (fun av i wj => ∃ j : Nat, j ≤ Q.length ∧ i = .int .i64 j ∧ Hid (OwnI wj 3 av ((allL Q C3).take j)) ∧ Hid (FreshV w6.heap.size av) ∧ Below w6.heap.size w6 wj) (fun _ i _ => Q.length - (intOf i).toNat)
              case atStart => exact ⟨0, Nat.zero_le _, rfl, OwnI.nil _ _, FreshV.nil _, Below.refl _ _⟩
              case round =>
                obtain ⟨j, hj, rfl, HOA, HFA, hbj⟩ := hrel
                obtain ⟨AL, hAL⟩ : ∃ z, (allL Q C3).take j = z := ⟨_, rfl⟩
                have hLL : AL.length = j := by rw [← hAL, List.length_take, allL_len]; omega
                rw [hAL] at HOA
                have HALE := Lib.hid hAL
                obtain ⟨a15, cap15, hv15, hx1, hx2, -⟩ := Own.reads (show Own _ _ _ _ _ _ from HOA.out)
                rw [hLL] at hv15 hx1
                subst hv15
                have HLL := Lib.hid hLL
                clear hAL hLL
                by_cases hjl : j < Q.length
                · obtain ⟨b5, off5, q, rfl, hb5, hq, hcq, hq1, hq2⟩ := (HV.out.below (hbelz.trans (below_of hbj hbelz.size))).at hjl
                  have hqm := mayL_at HP5.out hq
                  have hleft := linkC_left LKZ.out hq
                  have htot := linkC_total LKZ.out hq
                  have hub := chL_bd HRG.out j (n : Int) span
                  have hla := allL_at (C := C3) hjl
                  have HRJ := Lib.hid (HRZ.out.below hbj)
                  have CC := Lib.hid (refcharged_any _ D3 j 0 (n : Int) span _ HRJ.out HRG.out (by omega) p1 (by omega) (by omega))
                  obtain ⟨U, hU⟩ : ∃ z, chL D3 j (n : Int) span = z := ⟨_, rfl⟩
                  rw [hU] at hleft hub CC
                  rw [hleft] at hla
                  have hwq : IntKind.i64.wrap (q - U) = q - U := IntWalk.i64_in _ (by omega)
                  obtain ⟨F, hF⟩ : ∃ z, q - U = z := ⟨_, rfl⟩
                  rw [hF] at hwq hla hleft
                  have HTK := Lib.hid (show (allL Q C3).take (j + 1) = AL ++ [F] by rw [take_snoc hla, HALE.out])
                  have HLE := Lib.hid hleft
                  have HTO := Lib.hid htot
                  have hjk : (j : Int) < (Q.length : Int) := by omega
                  have hqU : q - U = F := hF
                  clear hq hleft htot hub hla hU hF hqm HALE
                  go_wp2_with fail
                  refine CC.out.mono ?_
                  rintro e x1 ⟨rfl, hb4⟩
                  have hbj := below_two hbj hb4
                  have hoa := HOA.out.below hb4
                  have HLN := Lib.hid (show AL.length < 1000000000 by rw [HLL.out]; omega)
                  clear hb4 CC hcq HRJ
                  go_wp2_with (at_builtin; refine wpList_append_int _ _ rfl _ _ 22 rfl 3 Try.underlying22 intinfo _ AL _ _ rfl rfl rfl hoa HLN.out ?_)
                  intro v2 x2 hown2 hkeep2 hfresh2
                  have HF2 := Lib.hid (HFA.out.step hbj.size hfresh2)
                  have hbj := below_append hbj hkeep2 HFA.out hbj.size
                  rw [← HTK.out] at hown2
                  have HO2 := Lib.hid hown2
                  clear hoa hown2 hkeep2 hfresh2 HOA HFA HLL hwq hqU
                  have HT := Lib.hid (wleft_any { m with bc := bc } span (n : Int) j Q C3 T3 _ (HZ.out.below hbj) HSM.out)
                  unfold MB.ptr at HT
                  rw [HLE.out] at HT
                  go_wp2_with fail
                  refine HT.out.mono ?_
                  rintro e x3 ⟨rfl, hd⟩
                  have HO3 := Lib.hid (HO2.out.below (below_drawn hd))
                  have hbj := below_two hbj (below_drawn hd)
                  clear HT hd HO2 HLE
                  have HT := Lib.hid (wtotal_any { m with bc := bc } span (n : Int) j Q C3 T3 _ (HZ.out.below hbj))
                  unfold MB.ptr at HT
                  rw [HTO.out] at HT
                  have CC := Lib.hid (reftotal_any _ D3 j _ (HRZ.out.below hbj) hDB)
                  obtain ⟨TT, hTT⟩ : ∃ z, totC D3 j = z := ⟨_, rfl⟩
                  rw [hTT] at HT CC
                  clear hTT HTO
                  go_wp2_with fail
                  refine HT.out.mono ?_
                  rintro e x4 ⟨rfl, rfl⟩
                  clear HT
                  go_wp2_with fail
                  refine CC.out.mono ?_
                  rintro e x5 ⟨rfl, hb4⟩
                  have HO4 := Lib.hid (HO3.out.below hb4)
                  have hbj := below_two hbj hb4
                  clear CC hb4 HO3
                  go_wp2
                  go_roundw
                  case rel => exact ⟨j + 1, by omega, by go_num, HO4.out, HF2.out, hbj⟩
                  case measure => simp [intOf]; omega
                · obtain rfl : j = Q.length := by omega
                  have hfull : AL = allL Q C3 := by rw [← HALE.out, List.take_of_length_le (by rw [allL_len]; omega)]
                  subst hfull
                  have HJD := Lib.hid ((HZ.out.below hbj).below (below_drew _))
                  have HAT := Lib.hid (wat_any { m with bc := bc } span (n : Int) Q C3 T3 _ HJD.out)
                  have HBG := Lib.hid (wbegins_any { m with bc := bc } span (n : Int) Q C3 T3 _ HJD.out p1 (by omega) (by omega))
                  have HAC := Lib.hid (fun y (hy : Below _ _ y) => wall_any { m with bc := bc } span (n : Int) Q C3 T3 y (HJD.out.below hy) HWZ.out.1)
                  have hbds : ∀ x ∈ allL Q C3, -9223372036854775808 ≤ x ∧ x ≤ 9223372036854775807 := by
                    intro x hx
                    obtain ⟨i, hi⟩ := List.mem_iff_getElem?.1 hx
                    have hil : i < Q.length := by have := (List.getElem?_eq_some_iff.1 hi).1; rw [allL_len] at this; exact this
                    rw [allL_at hil] at hi
                    simp only [Option.some.injEq] at hi
                    have hq : Q[i]? = some Q[i] := List.getElem?_eq_getElem hil
                    have hl2 := linkC_left LKZ.out hq
                    have h1 := chL_bd HRG.out i (n : Int) span
                    have h2 := mayL_at HP5.out hq
                    omega
                  have HRA := Lib.hid (OwnI.reads (HOA.out.below (below_drew _)) hbds)
                  have HIN := Lib.hid (fun v3 y (hy : Below _ _ y) (hr : RInts y v3 (allL Q C3)) => ints_same v3 _ (allL Q C3) y hr (HRA.out.below hy))
                  have hbd := below_two hbj (below_drew _)
                  have htm : Int.tmod ((n : Int) : Int) span = ((n : Int) : Int) % span := Int.tmod_eq_emod_of_nonneg (by omega)
                  cases hbg : (((n : Int) : Int) % span == 0) with
                  | true =>
                    have hbq : (((n : Int) : Int) % span == 0) = true := hbg
                    rw [hbq] at HBG
                    clear hbq
                    have hne : ((span : Int) == 0) = false := beq_eq_false_iff_ne.2 (by omega)
                    have hsn : ¬ span = 0 := by omega
                    unfold MB.ptr at HAT HBG HAC
                    clear hbds HALE HLL HOA HFA HJD
                    go_wp2
                    go_region_held3 (fun _ => True) (trivial)
                      (first
                        | (go_at_call 42; refine HAT.out.mono ?_; rintro e y1 ⟨rfl, rfl⟩)
                        | (go_at_call 43; refine HBG.out.mono ?_; rintro e y2 ⟨rfl, hbn⟩)
                        | (go_at_call 44; refine (HAC.out _ (below_drawn hbn)).mono ?_; rintro e y3 ⟨v3, rfl, hr3, hb3⟩)
                        | (go_at_call 38; refine (HIN.out v3 y3 (below_two (below_drawn hbn) hb3) hr3).mono ?_; rintro e y4 ⟨rfl, hbm⟩))
                    all_goals
                      have hbe := below_two (below_two (below_two hbd (below_drawn hbn)) hb3) (below_drawn hbm)
                      go_wp2
                      go_roundw
                      case rel => exact ⟨k + 1, n, bc, C3, T3, D3, by omega, by go_num, hnz, by go_num, HZ.out.below hbe, HWZ.out, LKZ.out, HAZ.out, HOZ.out.below hbe, HFZ.out, HDZ.out, HSZ.out, Nat.le_trans hBzz hbe.size, hbelz.trans (below_of hbe hbelz.size)⟩
                      case measure => simp [intOf]; omega
                  | false =>
                    have hbq : (((n : Int) : Int) % span == 0) = false := hbg
                    rw [hbq] at HBG
                    clear hbq
                    have hne : ((span : Int) == 0) = false := beq_eq_false_iff_ne.2 (by omega)
                    have hsn : ¬ span = 0 := by omega
                    unfold MB.ptr at HAT HBG HAC
                    clear hbds HALE HLL HOA HFA HJD
                    go_wp2
                    go_region_held3 (fun _ => True) (trivial)
                      (first
                        | (go_at_call 42; refine HAT.out.mono ?_; rintro e y1 ⟨rfl, rfl⟩)
                        | (go_at_call 43; refine HBG.out.mono ?_; rintro e y2 ⟨rfl, hbn⟩)
                        | (go_at_call 44; refine (HAC.out _ (below_drawn hbn)).mono ?_; rintro e y3 ⟨v3, rfl, hr3, hb3⟩)
                        | (go_at_call 38; refine (HIN.out v3 y3 (below_two (below_drawn hbn) hb3) hr3).mono ?_; rintro e y4 ⟨rfl, hbm⟩))
                    all_goals
                      have hbe := below_two (below_two (below_two hbd (below_drawn hbn)) hb3) (below_drawn hbm)
                      go_wp2
                      go_roundw
                      case rel => exact ⟨k + 1, n, bc, C3, T3, D3, by omega, by go_num, hnz, by go_num, HZ.out.below hbe, HWZ.out, LKZ.out, HAZ.out, HOZ.out.below hbe, HFZ.out, HDZ.out, HSZ.out, Nat.le_trans hBzz hbe.size, hbelz.trans (below_of hbe hbelz.size)⟩
                      case measure => simp [intOf]; omega
            · have LKZ := Lib.hid (show linkC Q (chargeC Q C tn nn) (chargeT Q C T tn nn) ch n span by
                unfold chargeC chargeT
                rw [if_neg h0, if_neg h0]
                exact LK.out)
              have hne0 : ((chargeE Q C tn nn : Int) == 0) = false := beq_eq_false_iff_ne.2 h0
              generalize chargeC Q C tn nn = C3 at *
              generalize chargeT Q C T tn nn = T3 at *
              generalize chargeE Q C tn nn = E3 at *
              clear h0 LK
              have HZ := H4
              have HFZ := HF
              have hbelz := HBE4.out
              have hBzz : B ≤ w4.heap.size := by have := HS4.out; omega
              have HOZ := HO4
              have HDZ := Lib.hid (show ch.length ≤ k + 1 by have := HDL.out; omega)
              have HSZ := HSP
              have HAZ := HAG
              clear H4 HO4 HBD4 HBE4 HS4 HF HDL HSP HLTS HOL HAG
              go_wp2_with fail

              have HRZ := Lib.hid (rs_of_own encC_len HOZ.out (fun c hc => (HAZ.out c hc).1))
              have HRG := Lib.hid (show ∀ c ∈ ch, goodC c from fun c hc => (HAZ.out c hc).1)
              have hDB : ch.length ≤ 100 := by have := HDZ.out; omega
              have HSM := Lib.hid (within_small HWZ.out.1 LKZ.out.1 HP5.out)

              go_loopw [15, 82] (fun av i wj => ∃ j : Nat, j ≤ Q.length ∧ i = .int .i64 j ∧ Hid (OwnI wj 3 av ((allL Q C3).take j)) ∧ Hid (FreshV w4.heap.size av) ∧ Below w4.heap.size w4 wj) (fun _ i _ => Q.length - (intOf i).toNat)
              case atStart => exact ⟨0, Nat.zero_le _, rfl, OwnI.nil _ _, FreshV.nil _, Below.refl _ _⟩
              case round =>
                obtain ⟨j, hj, rfl, HOA, HFA, hbj⟩ := hrel
                obtain ⟨AL, hAL⟩ : ∃ z, (allL Q C3).take j = z := ⟨_, rfl⟩
                have hLL : AL.length = j := by rw [← hAL, List.length_take, allL_len]; omega
                rw [hAL] at HOA
                have HALE := Lib.hid hAL
                obtain ⟨a15, cap15, hv15, hx1, hx2, -⟩ := Own.reads (show Own _ _ _ _ _ _ from HOA.out)
                rw [hLL] at hv15 hx1
                subst hv15
                have HLL := Lib.hid hLL
                clear hAL hLL
                by_cases hjl : j < Q.length
                · obtain ⟨b5, off5, q, rfl, hb5, hq, hcq, hq1, hq2⟩ := (HV.out.below (hbelz.trans (below_of hbj hbelz.size))).at hjl
                  have hqm := mayL_at HP5.out hq
                  have hleft := linkC_left LKZ.out hq
                  have htot := linkC_total LKZ.out hq
                  have hub := chL_bd HRG.out j (n : Int) span
                  have hla := allL_at (C := C3) hjl
                  have HRJ := Lib.hid (HRZ.out.below hbj)
                  have CC := Lib.hid (refcharged_any _ ch j 0 (n : Int) span _ HRJ.out HRG.out (by omega) p1 (by omega) (by omega))
                  obtain ⟨U, hU⟩ : ∃ z, chL ch j (n : Int) span = z := ⟨_, rfl⟩
                  rw [hU] at hleft hub CC
                  rw [hleft] at hla
                  have hwq : IntKind.i64.wrap (q - U) = q - U := IntWalk.i64_in _ (by omega)
                  obtain ⟨F, hF⟩ : ∃ z, q - U = z := ⟨_, rfl⟩
                  rw [hF] at hwq hla hleft
                  have HTK := Lib.hid (show (allL Q C3).take (j + 1) = AL ++ [F] by rw [take_snoc hla, HALE.out])
                  have HLE := Lib.hid hleft
                  have HTO := Lib.hid htot
                  have hjk : (j : Int) < (Q.length : Int) := by omega
                  have hqU : q - U = F := hF
                  clear hq hleft htot hub hla hU hF hqm HALE
                  go_wp2_with fail
                  refine CC.out.mono ?_
                  rintro e x1 ⟨rfl, hb4⟩
                  have hbj := below_two hbj hb4
                  have hoa := HOA.out.below hb4
                  have HLN := Lib.hid (show AL.length < 1000000000 by rw [HLL.out]; omega)
                  clear hb4 CC hcq HRJ
                  go_wp2_with (at_builtin; refine wpList_append_int _ _ rfl _ _ 22 rfl 3 Try.underlying22 intinfo _ AL _ _ rfl rfl rfl hoa HLN.out ?_)
                  intro v2 x2 hown2 hkeep2 hfresh2
                  have HF2 := Lib.hid (HFA.out.step hbj.size hfresh2)
                  have hbj := below_append hbj hkeep2 HFA.out hbj.size
                  rw [← HTK.out] at hown2
                  have HO2 := Lib.hid hown2
                  clear hoa hown2 hkeep2 hfresh2 HOA HFA HLL hwq hqU
                  have HT := Lib.hid (wleft_any { m with bc := bc } span (n : Int) j Q C3 T3 _ (HZ.out.below hbj) HSM.out)
                  unfold MB.ptr at HT
                  rw [HLE.out] at HT
                  go_wp2_with fail
                  refine HT.out.mono ?_
                  rintro e x3 ⟨rfl, hd⟩
                  have HO3 := Lib.hid (HO2.out.below (below_drawn hd))
                  have hbj := below_two hbj (below_drawn hd)
                  clear HT hd HO2 HLE
                  have HT := Lib.hid (wtotal_any { m with bc := bc } span (n : Int) j Q C3 T3 _ (HZ.out.below hbj))
                  unfold MB.ptr at HT
                  rw [HTO.out] at HT
                  have CC := Lib.hid (reftotal_any _ ch j _ (HRZ.out.below hbj) hDB)
                  obtain ⟨TT, hTT⟩ : ∃ z, totC ch j = z := ⟨_, rfl⟩
                  rw [hTT] at HT CC
                  clear hTT HTO
                  go_wp2_with fail
                  refine HT.out.mono ?_
                  rintro e x4 ⟨rfl, rfl⟩
                  clear HT
                  go_wp2_with fail
                  refine CC.out.mono ?_
                  rintro e x5 ⟨rfl, hb4⟩
                  have HO4 := Lib.hid (HO3.out.below hb4)
                  have hbj := below_two hbj hb4
                  clear CC hb4 HO3
                  go_wp2
                  go_roundw
                  case rel => exact ⟨j + 1, by omega, by go_num, HO4.out, HF2.out, hbj⟩
                  case measure => simp [intOf]; omega
                · obtain rfl : j = Q.length := by omega
                  have hfull : AL = allL Q C3 := by rw [← HALE.out, List.take_of_length_le (by rw [allL_len]; omega)]
                  subst hfull
                  have HJD := Lib.hid ((HZ.out.below hbj).below (below_drew _))
                  have HAT := Lib.hid (wat_any { m with bc := bc } span (n : Int) Q C3 T3 _ HJD.out)
                  have HBG := Lib.hid (wbegins_any { m with bc := bc } span (n : Int) Q C3 T3 _ HJD.out p1 (by omega) (by omega))
                  have HAC := Lib.hid (fun y (hy : Below _ _ y) => wall_any { m with bc := bc } span (n : Int) Q C3 T3 y (HJD.out.below hy) HWZ.out.1)
                  have hbds : ∀ x ∈ allL Q C3, -9223372036854775808 ≤ x ∧ x ≤ 9223372036854775807 := by
                    intro x hx
                    obtain ⟨i, hi⟩ := List.mem_iff_getElem?.1 hx
                    have hil : i < Q.length := by have := (List.getElem?_eq_some_iff.1 hi).1; rw [allL_len] at this; exact this
                    rw [allL_at hil] at hi
                    simp only [Option.some.injEq] at hi
                    have hq : Q[i]? = some Q[i] := List.getElem?_eq_getElem hil
                    have hl2 := linkC_left LKZ.out hq
                    have h1 := chL_bd HRG.out i (n : Int) span
                    have h2 := mayL_at HP5.out hq
                    omega
                  have HRA := Lib.hid (OwnI.reads (HOA.out.below (below_drew _)) hbds)
                  have HIN := Lib.hid (fun v3 y (hy : Below _ _ y) (hr : RInts y v3 (allL Q C3)) => ints_same v3 _ (allL Q C3) y hr (HRA.out.below hy))
                  have hbd := below_two hbj (below_drew _)
                  have htm : Int.tmod ((n : Int) : Int) span = ((n : Int) : Int) % span := Int.tmod_eq_emod_of_nonneg (by omega)
                  cases hbg : (((n : Int) : Int) % span == 0) with
                  | true =>
                    have hbq : (((n : Int) : Int) % span == 0) = true := hbg
                    rw [hbq] at HBG
                    clear hbq
                    have hne : ((span : Int) == 0) = false := beq_eq_false_iff_ne.2 (by omega)
                    have hsn : ¬ span = 0 := by omega
                    unfold MB.ptr at HAT HBG HAC
                    clear hbds HALE HLL HOA HFA HJD
                    go_wp2
                    go_region_held3 (fun _ => True) (trivial)
                      (first
                        | (go_at_call 42; refine HAT.out.mono ?_; rintro e y1 ⟨rfl, rfl⟩)
                        | (go_at_call 43; refine HBG.out.mono ?_; rintro e y2 ⟨rfl, hbn⟩)
                        | (go_at_call 44; refine (HAC.out _ (below_drawn hbn)).mono ?_; rintro e y3 ⟨v3, rfl, hr3, hb3⟩)
                        | (go_at_call 38; refine (HIN.out v3 y3 (below_two (below_drawn hbn) hb3) hr3).mono ?_; rintro e y4 ⟨rfl, hbm⟩))
                    all_goals
                      have hbe := below_two (below_two (below_two hbd (below_drawn hbn)) hb3) (below_drawn hbm)
                      go_wp2
                      go_roundw
                      case rel => exact ⟨k + 1, n, bc, C3, T3, ch, by omega, by go_num, hnz, by go_num, HZ.out.below hbe, HWZ.out, LKZ.out, HAZ.out, HOZ.out.below hbe, HFZ.out, HDZ.out, HSZ.out, Nat.le_trans hBzz hbe.size, hbelz.trans (below_of hbe hbelz.size)⟩
                      case measure => simp [intOf]; omega
                  | false =>
                    have hbq : (((n : Int) : Int) % span == 0) = false := hbg
                    rw [hbq] at HBG
                    clear hbq
                    have hne : ((span : Int) == 0) = false := beq_eq_false_iff_ne.2 (by omega)
                    have hsn : ¬ span = 0 := by omega
                    unfold MB.ptr at HAT HBG HAC
                    clear hbds HALE HLL HOA HFA HJD
                    go_wp2
                    go_region_held3 (fun _ => True) (trivial)
                      (first
                        | (go_at_call 42; refine HAT.out.mono ?_; rintro e y1 ⟨rfl, rfl⟩)
                        | (go_at_call 43; refine HBG.out.mono ?_; rintro e y2 ⟨rfl, hbn⟩)
                        | (go_at_call 44; refine (HAC.out _ (below_drawn hbn)).mono ?_; rintro e y3 ⟨v3, rfl, hr3, hb3⟩)
                        | (go_at_call 38; refine (HIN.out v3 y3 (below_two (below_drawn hbn) hb3) hr3).mono ?_; rintro e y4 ⟨rfl, hbm⟩))
                    all_goals
                      have hbe := below_two (below_two (below_two hbd (below_drawn hbn)) hb3) (below_drawn hbm)
                      go_wp2
                      go_roundw
                      case rel => exact ⟨k + 1, n, bc, C3, T3, ch, by omega, by go_num, hnz, by go_num, HZ.out.below hbe, HWZ.out, LKZ.out, HAZ.out, HOZ.out.below hbe, HFZ.out, HDZ.out, HSZ.out, Nat.le_trans hBzz hbe.size, hbelz.trans (below_of hbe hbelz.size)⟩
                      case measure => simp [intOf]; omega
        · obtain rfl : k = l.length := by omega
          have HT := Lib.hid (wat_any { m with bc := bc } span n Q C T wr HM.out)
          unfold MB.ptr at HT
          clear HM HW LK HAG HO HF HDL HSP hlt hk
          go_wp2_with fail
          refine HT.out.mono ?_
          rintro e w2 ⟨rfl, rfl⟩
          clear HT
          go_wp2_with fail
          refine (five_any _).mono ?_
          rintro e w2 ⟨rfl, hb⟩
          go_wp2
          go_ret
          exact ⟨rfl, hbel.trans (below_of hb hbel.size)⟩
  · have ht : decide (40 < l.length) = true := decide_eq_true (by omega)
    have ht' : decide ((40 : Int) < (l.length : Int)) = true := decide_eq_true (by omega)
    clear hl
    go_enter Try.func9, Try.ntmps9
    go_wp2_with fail
    refine (five_any _).mono ?_
    rintro e w1 ⟨rfl, hb⟩
    go_wp2
    go_ret
    exact ⟨rfl, hb⟩
end Go.Proofs.Ytfphdcfbkknpbaa


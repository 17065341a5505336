/- Package ledger: the law LedgerActs walked. -/
import Derived.Test.YtfphdcfbkknpbaaLedF
namespace Go.Proofs.Ytfphdcfbkknpbaa
open Go.RowKit

theorem deedinfo : (Try.prog.info? 67).map (fun i => (i.zero, i.size, i.bytes)) = some (some (.agg #[.int .i64 0, .int .i64 0]), 2, 16) := by kernel_rfl
theorem encD_len : ∀ x : Deed, (encD x).length = 2 := fun _ => rfl
theorem flatD_snoc (D : List Deed) (t n : Int) : (D ++ [(t, n)]).flatMap encD = D.flatMap encD ++ [.int .i64 t, .int .i64 n] := by rw [List.flatMap_append]; rfl

/-- the same, the new block's number in other words -/
theorem wpList_append_elem2 {P : Program} (wr : World) (o1 : Obj) {ops : Array Oper} {rest : List Oper} {o : Oper} {a : Act} {Q : Exit → Act → World → Prop}
    (hg : o.guard = none) (s x : Operand) (t : TypeId) (hop : o.op = Op.call { callee := Callee.builtin Builtin.append, args := #[s, x], argTypes := #[t, t] })
    (e : TypeId) (z : Value) (size bytes : Nat) (h1 : P.underlying t = some (.slice e)) (hinfo : (P.info? e).map (fun i => (i.zero, i.size, i.bytes)) = some (some z, size, bytes)) (hzs : z.cells.size = size) (hsz : 0 < size)
    (v : Value) (n : Nat) (xs : List Value) (us : List Value) (t1 : TypeId) (ho1 : o1 = .cells us.toArray t1 (0, 0)) (hus : us.length = size) (hu : ∀ u ∈ us, u.oneCell' = true) (nb : Nat) (hnb : nb = wr.heap.size) (hs : a.eval s = v) (hx : a.eval x = .slice (some ⟨nb, 0, none⟩) 1 1)
    (hown : Own wr e size v n xs) (hn : n < 1000000000) (hby : bytes ≤ 1000)
    (hK : ∀ v' w', Own w' e size v' (n + 1) (xs ++ us) → Keep (fun k => v.ownBlock = some k) wr w' → (∀ g, v'.ownBlock = some g → v.ownBlock = some g ∨ wr.heap.size ≤ g) → wpList P ops Q rest (a.put o.dst v') w') :
    wpList P ops Q (o :: rest) a (wr.alloc o1) := by
  subst hnb
  exact wpList_append_elem wr o1 hg s x t hop e z size bytes h1 hinfo hzs hsz v n xs us t1 ho1 hus hu hs hx hown hn hby hK

set_option maxRecDepth 100000 in
set_option maxHeartbeats 4000000 in
theorem lawLedgerActs {v va : Value} {L : List Int} {l : List (Bool × Int × Int)} {w : World} (hv : RInts w v L) (hva : RS w va l encL 3 goodL) :
    Calls Try.prog 11 #[v, va] w fun e w' => e = .returned (.bool true) ∧ Below w.heap.size w w' := by
  have HV := Lib.hid hv
  have HA := Lib.hid hva
  obtain ⟨a, cap, rfl, hc1, hc2⟩ := hv.shape
  obtain ⟨a2, cap2, rfl, hc3, hc4⟩ := hva.shape
  clear hv hva
  by_cases hl : l.length ≤ 40
  · have hll : (l.length : Int) ≤ 40 := by omega
    cases hlim : limitsB L with
    | false =>
      have HN := Lib.hid (lnew_no _ L w HV.out hlim)
      have HLI := Lib.hid (limits_any _ L w HV.out)
      rw [hlim] at HLI
      clear hlim
      go_enter Try.func11, Try.ntmps11
      go_wp2_with fail
      refine HN.out.mono ?_
      rintro e w1 ⟨rfl, rfl⟩
      clear HN
      go_wp2_with fail
      refine HLI.out.mono ?_
      rintro e w1 ⟨rfl, rfl⟩
      clear HLI
      go_wp2_with fail
      refine (ten_any _).mono ?_
      rintro e w1 ⟨rfl, hb⟩
      go_wp2
      go_ret
      exact ⟨rfl, hb⟩
    | true =>
      have HLIM := Lib.hid hlim
      obtain ⟨p3, p4, p5⟩ := limitsB_yes hlim
      have HP5 := Lib.hid p5
      clear hlim p5
      go_enter Try.func11, Try.ntmps11
      go_wp2_with fail
      refine (lnew_ok _ L _ HV.out p3 p4 HP5.out).mono ?_
      rintro e w1 ⟨b, rfl, br, bcap, h1, hb1, g1, g2⟩
      have H1 := Lib.hid h1
      have hlts := h1.lts
      have G := Lib.hid (show w.heap.size ≤ b ∧ w.heap.size ≤ br from ⟨g1, g2⟩)
      have HLI := Lib.hid (limits_any _ L w1 (HV.out.below hb1))
      rw [HLIM.out] at HLI
      obtain ⟨B, hB⟩ : ∃ z, w1.heap.size = z := ⟨_, rfl⟩
      rw [hB] at hlts
      have HB := Lib.hid hB
      have HLT := Lib.hid (show b < B ∧ br < B ∧ w.heap.size ≤ B from ⟨hlts.1, hlts.2, by rw [← hB]; exact hb1.size⟩)
      clear h1 g1 g2 hB hlts
      go_wp2_with fail
      refine HLI.out.mono ?_
      rintro e w2 ⟨rfl, rfl⟩
      clear HLI
      go_wp2
      go_loopw [7, 39] (fun sv i wr => ∃ (k : Nat) (A : List Acc) (D : List Deed), k ≤ l.length ∧ i = .int .i64 k ∧ Hid (LedgerAt wr b br bcap A) ∧ Hid (okL A) ∧ Hid (lims L A) ∧ Hid (linkD A D) ∧ Hid (Own wr 67 2 sv D.length (D.flatMap encD)) ∧ Hid (∀ d ∈ D, goodD d) ∧ Hid (FreshV B sv) ∧ Hid (D.length ≤ k) ∧ B ≤ wr.heap.size ∧ Below w.heap.size w wr) (fun _ i _ => l.length - (intOf i).toNat)
      case atStart => exact ⟨0, newA L, [], Nat.zero_le _, rfl, H1.out, newA_ok HP5.out, lims_new L, linkD_new L, Own.nil _ _ _, fun d hd => (by cases hd), FreshV.nil _, Nat.le_refl _, Nat.le_of_eq HB.out.symm, hb1⟩
      case round =>
        obtain ⟨k, A, D, hk, rfl, H, OK, LM, LK, HO, HG, HF, HDL, hBz, hbel⟩ := hrel
        obtain ⟨a7, cap7, rfl, hd1, hd2, -⟩ := Own.reads HO.out
        have hd3 : D.length ≤ 40 := by have := HDL.out; omega
        by_cases hlt : k < l.length
        · obtain ⟨b2, off2, x, rfl, hbb2, hx, hgx, hcx⟩ := (HA.out.below hbel).at hlt
          obtain ⟨tk, tn, nn⟩ := x
          have hc0 : wr.cell? ⟨b2, off2 + k * 3, none⟩ = some (.bool tk) := hcx 0 _ rfl
          have hc1 : wr.cell? ⟨b2, off2 + k * 3 + 1, none⟩ = some (.int .i64 tn) := hcx 1 _ rfl
          have hc2 : wr.cell? ⟨b2, off2 + k * 3 + 2, none⟩ = some (.int .i64 nn) := hcx 2 _ rfl
          have hkl : (k : Int) < (l.length : Int) := by omega
          have hsz := hbel.size
          have HGX := Lib.hid hgx
          clear hx hcx hgx
          have HALL := Lib.hid (show ∃ z, z = tk from ⟨_, rfl⟩)
          have hal1 := below_alloc wr (Obj.cells #[Value.bool tk, Value.int IntKind.i64 tn, Value.int IntKind.i64 nn] 43)
          have hal2 := below_alloc (wr.alloc (Obj.cells #[Value.bool tk, Value.int IntKind.i64 tn, Value.int IntKind.i64 nn] 43)) (Obj.cells #[Value.int IntKind.i64 tn, Value.int IntKind.i64 nn] 67)
          have HAL := Lib.hid (below_two hal1 hal2)
          have HBA := Lib.hid ((Blk.new wr [Value.bool tk, Value.int IntKind.i64 tn, Value.int IntKind.i64 nn] 43).below hal2)
          have HBD := Lib.hid (Blk.new (wr.alloc (Obj.cells #[Value.bool tk, Value.int IntKind.i64 tn, Value.int IntKind.i64 nn] 43)) [Value.int IntKind.i64 tn, Value.int IntKind.i64 nn] 67)
          have HRS := Lib.hid (rs_of_own encD_len (HO.out.below HAL.out) HG.out)
          have HDB := Lib.hid (show D.length ≤ 100 from by have := HDL.out; omega)
          have HVV := Lib.hid (HV.out.below (hbel.trans (below_of HAL.out hsz)))
          have hsd : (wr.alloc (Obj.cells #[Value.bool tk, Value.int IntKind.i64 tn, Value.int IntKind.i64 nn] 43)).heap.size = wr.heap.size + 1 := by simp
          rw [hsd] at HBD
          clear hal1 hal2 hsd HALL
          cases tk with
          | true =>
            have HWA := Lib.hid (refrel_any _ _ L D tn nn _ HVV.out HRS.out HDB.out)
            rw [relE_ref LM.out LK.out] at HWA
            clear HVV HRS HDB
            go_wp2_with fail
            refine HWA.out.mono ?_
            rintro e w3 ⟨rfl, hb3⟩
            have H3 := Lib.hid ((H.out.below HAL.out).below hb3)
            have HO3 := Lib.hid ((HO.out.below HAL.out).below hb3)
            have C1 := HBA.out.below hb3
            have hca1 := C1.cell (i := 1) (x := .int .i64 tn) rfl
            have hca2 := C1.cell (i := 2) (x := .int .i64 nn) rfl
            have HBD3 := Lib.hid (HBD.out.below hb3)
            have HBE3 := Lib.hid (hbel.trans (below_of (below_two HAL.out hb3) hsz))
            have HS3 := Lib.hid (show wr.heap.size + 1 < w3.heap.size from HBD3.out.lt)
            have HOL := Lib.hid (show ∀ g, (_ : Value).ownBlock = some g → g < wr.heap.size from HO.out.lt)
            clear HWA hb3 H HO HBA HBD HAL C1 hc0 hc1 hc2
            have HT := Lib.hid (lrel_any b br bcap A tn nn w3 H3.out OK.out)
            go_wp2_with fail
            refine HT.out.mono ?_
            rintro e w4 ⟨rfl, h4, k4⟩
            have H4 := Lib.hid h4
            have HO4 := Lib.hid (HO3.out.keep k4 (fun g hg he => by have h : g = br := he; have := HF.out g hg; have := HLT.out; omega))
            have HBD4 := Lib.hid (HBD3.out.keep k4 (fun he => by have h : wr.heap.size + 1 = br := he; have := HLT.out; omega))
            have HBE4 := Lib.hid (HBE3.out.trans (k4.below (B := w.heap.size) HBE3.out.size (fun j hj he => by have h : j = br := he; have := G.out; omega)))
            have HS4 := Lib.hid (show wr.heap.size + 1 < w4.heap.size from HBD4.out.lt)
            have OK4 := Lib.hid (relA_ok (t := tn) (n := nn) OK.out)
            have LM4 := Lib.hid (lims_rel (t := tn) (n := nn) LM.out)
            clear HT h4 k4 H3 HO3 HBD3 HBE3 HS3 hca1 hca2

            have hcd1 := HBD4.out.cell (i := 1) (x := .int .i64 nn) rfl
            have hfr1 := HBD4.out.free 1
            obtain ⟨mm, hmm⟩ : ∃ z, IntKind.i64.wrap (0 - nn) = z := ⟨_, rfl⟩
            have hmm2 : IntKind.i64.wrap (-nn) = mm := by rw [← hmm, Int.zero_sub]
            have HMM := Lib.hid hmm
            have HBD5 := Lib.hid (HBD4.out.set 1 (.int .i64 mm))
            have hset := keep_setCell (S := fun j => j = wr.heap.size + 1) (Keep.refl _ w4) (a := ⟨wr.heap.size + 1, 1, none⟩) rfl (.int .i64 mm)
            have H5 := Lib.hid (H4.out.keep hset (fun he => by have h : b = wr.heap.size + 1 := he; have := HLT.out; omega) (fun he => by have h : br = wr.heap.size + 1 := he; have := HLT.out; omega))
            have HO5 := Lib.hid (HO4.out.keep hset (fun g hg he => by have h : g = wr.heap.size + 1 := he; have := HOL.out g hg; omega))
            have HBE5 := Lib.hid (HBE4.out.setCell (p := ⟨wr.heap.size + 1, 1, none⟩) (by show w.heap.size ≤ wr.heap.size + 1; omega) (.int .i64 mm))
            have HS5 := HS4
            clear hmm hset H4 HO4 HBD4 HBE4 HS4

            have Hz := H5
            have HOz := HO5
            have HBDz := HBD5
            have HBEz := HBE5
            have HSz := HS5
            clear H5 HO5 HBD5 HBE5 HS5
            by_cases h0 : relE A tn nn = 0
            · have hlr := link_rel LK.out OK.out h0
              have hmz : mm = 0 - nn := by rw [← HMM.out]; exact IntWalk.i64_in _ (by omega)
              rw [← hmz] at hlr

              have HLK := Lib.hid (show linkD (relA A tn nn) (D ++ [(tn, mm)]) ∧ goodD (tn, mm) from ⟨hlr.1, hlr.2.1⟩)
              have hcz0 := HBDz.out.cell (i := 0) (x := .int .i64 tn) rfl
              have hcz1 := HBDz.out.cell (i := 1) (x := .int .i64 mm) rfl
              have hown := HOz.out
              have hdb : D.length < 1000000000 := by have := HDL.out; omega
              rw [h0]
              generalize relA A tn nn = A3 at *
              clear h0 LK OK LM hmz HMM hlr
              go_wp2_with (at_builtin; refine wpList_append_elem2 _ _ rfl _ _ 65 rfl 67 (.agg #[.int .i64 0, .int .i64 0]) 2 16 Try.underlying65 deedinfo rfl (by decide) _ D.length _ [.int .i64 tn, .int .i64 mm] _ rfl rfl (by intro u hu; simp at hu; rcases hu with rfl | rfl <;> rfl) w4.heap.size (by simp) rfl rfl hown hdb (by decide) ?_)
              intro v6 w6 hown6 hkeep hfresh
              have HZ := Lib.hid (Hz.out.keep hkeep (fun e => by have := HF.out _ e; have := HLT.out; omega) (fun e => by have := HF.out _ e; have := HLT.out; omega))
              have HFZ := Lib.hid (HF.out.step (w := w4) (by have := HSz.out; omega) hfresh)
              have hbelz := below_append HBEz.out hkeep (fun g hg => by have := HF.out g hg; have := HLT.out; omega) (HBEz.out.size)
              have hBzz : B ≤ w6.heap.size := by have := hkeep.size; have := HSz.out; (first | omega | (simp at *; omega))
              have HOZ := Lib.hid (show Own w6 67 2 v6 (D ++ [(tn, mm)]).length ((D ++ [(tn, mm)]).flatMap encD) by rw [flatD_snoc, List.length_append]; exact hown6)
              have HDZ := Lib.hid (show (D ++ [(tn, mm)]).length ≤ k + 1 by rw [List.length_append]; have := HDL.out; show D.length + 1 ≤ _; omega)
              have HGZ := Lib.hid (show ∀ d ∈ D ++ [(tn, mm)], goodD d from fun d hd => by
                rcases List.mem_append.1 hd with h | h
                · exact HG.out d h
                · rw [List.mem_singleton.1 h]; exact HLK.out.2)
              have LKZ := Lib.hid HLK.out.1
              generalize D ++ [(tn, mm)] = D3 at *
              clear hcz0 hcz1 hown hdb hown6 hkeep hfresh Hz HOz HBDz HBEz HSz HF HG HDL HLK

              have HRZ := Lib.hid (rs_of_own encD_len HOZ.out HGZ.out)
              have HDB := Lib.hid (show D3.length ≤ 100 from by have := HDZ.out; omega)
              go_wp2
              go_loopw [85] (fun i wj => ∃ j : Nat, j ≤ L.length ∧ i = .int .i64 j ∧ Below w6.heap.size w6 wj) (fun i _ => L.length - (intOf i).toNat)
              case atStart => exact ⟨0, Nat.zero_le _, rfl, Below.refl _ _⟩
              case round =>
                obtain ⟨j, hj, rfl, hbj⟩ := hrel
                by_cases hjl : j < L.length
                · obtain ⟨b5, off5, q, rfl, hb5, hq, hcq, hq1, hq2⟩ := (HV.out.below (hbelz.trans (below_of hbj hbelz.size))).at hjl
                  have hja : j < A3.length := by rw [LM4.out.1]; exact hjl
                  obtain ⟨y, hy⟩ : ∃ y, A3[j]? = some y := ⟨A3[j], List.getElem?_eq_getElem hja⟩
                  obtain ⟨hy1, hy2⟩ := LKZ.out j y hy
                  obtain ⟨lim, u, p⟩ := y
                  have hlq := LM4.out.2 j _ hy
                  rw [hq] at hlq
                  simp at hlq
                  subst hlq
                  obtain ⟨o1, o2, o3, o4⟩ := okA_at OK4.out hy
                  simp only at o1 o2 o3 o4 hy1 hy2
                  have HY := Lib.hid hy
                  have HY1 := Lib.hid hy1
                  have HY2 := Lib.hid hy2
                  have hjk : (j : Int) < (L.length : Int) := by omega
                  have hwq : IntKind.i64.wrap (q - u) = q - u := IntWalk.i64_in _ (by omega)
                  clear hq hy hja hy1 hy2
                  have HJ := Lib.hid (HZ.out.below hbj)
                  have HRJ := Lib.hid (HRZ.out.below hbj)
                  have C := Lib.hid (refused_any _ D3 j _ HRJ.out HDB.out)
                  rw [← HY1.out] at C
                  go_wp2_with fail
                  refine C.out.mono ?_
                  rintro e x1 ⟨rfl, hb4⟩
                  have HJ := Lib.hid (HJ.out.below hb4)
                  have HRJ := Lib.hid (HRJ.out.below hb4)
                  have hbj := below_two hbj hb4
                  clear hb4 C hcq
                  go_wp2_with fail
                  refine (lused_any b br bcap A3 j _ HJ.out OK4.out).mono ?_
                  rintro e x2 ⟨rfl, hb4⟩
                  rw [readA_yes HY.out]
                  have HJ := Lib.hid (HJ.out.below hb4)
                  have HRJ := Lib.hid (HRJ.out.below hb4)
                  have hbj := below_two hbj hb4
                  clear hb4
                  go_wp2_with fail
                  refine (lleft_any b br bcap A3 j _ HJ.out OK4.out).mono ?_
                  rintro e x3 ⟨rfl, hb4⟩
                  rw [readA_yes HY.out]
                  have HJ := Lib.hid (HJ.out.below hb4)
                  have HRJ := Lib.hid (HRJ.out.below hb4)
                  have hbj := below_two hbj hb4
                  clear hb4
                  go_wp2_with fail
                  refine (lpeak_any b br bcap A3 j _ HJ.out OK4.out).mono ?_
                  rintro e x4 ⟨rfl, hb4⟩
                  rw [readA_yes HY.out]
                  have HJ := Lib.hid (HJ.out.below hb4)
                  have HRJ := Lib.hid (HRJ.out.below hb4)
                  have hbj := below_two hbj hb4
                  clear hb4
                  have C := Lib.hid (refpeak_any _ D3 j _ HRJ.out HDB.out)
                  rw [← HY2.out] at C
                  go_wp2_with fail
                  refine C.out.mono ?_
                  rintro e x5 ⟨rfl, hb4⟩
                  have HJ := Lib.hid (HJ.out.below hb4)
                  have hbj := below_two hbj hb4
                  clear hb4 C HRJ
                  go_wp2_with fail
                  refine (llimit_any b br bcap A3 j _ HJ.out OK4.out).mono ?_
                  rintro e x6 ⟨rfl, hb4⟩
                  rw [readA_yes HY.out]
                  have hbj := below_two hbj hb4
                  clear hb4 HJ
                  go_wp2
                  go_roundw
                  case rel => exact ⟨j + 1, by omega, by go_num, hbj⟩
                  case measure => simp [intOf]; omega
                · obtain rfl : j = L.length := by omega
                  go_wp2
                  go_roundw
                  case rel => exact ⟨k + 1, A3, D3, by omega, by go_num, HZ.out.below hbj, OK4.out, LM4.out, LKZ.out, HOZ.out.below hbj, HGZ.out, HFZ.out, HDZ.out, Nat.le_trans hBzz hbj.size, hbelz.trans (below_of hbj hbelz.size)⟩
                  case measure => simp [intOf]; omega
            · have HLK := Lib.hid (show linkD (relA A tn nn) D by rw [relA_no h0]; exact LK.out)
              have hne0 : ((relE A tn nn : Int) == 0) = false := beq_eq_false_iff_ne.2 h0
              generalize relA A tn nn = A3 at *
              generalize relE A tn nn = E3 at *
              clear h0 LK OK LM
              go_wp2_with fail

              have HZ := Hz
              have HFZ := HF
              have hbelz := HBEz.out
              have hBzz : B ≤ (w4.setCell ⟨wr.heap.size + 1, 1, none⟩ (.int .i64 mm)).heap.size := by have := HSz.out; (first | omega | (simp; omega))
              have HOZ := HOz
              have HDZ := Lib.hid (show D.length ≤ k + 1 by have := HDL.out; omega)
              have HGZ := HG
              have LKZ := HLK
              generalize hww : w4.setCell ⟨wr.heap.size + 1, 1, none⟩ (.int .i64 mm) = w6 at *
              clear hww
              clear Hz HOz HBDz HBEz HSz HF HG HDL HLK

              have HRZ := Lib.hid (rs_of_own encD_len HOZ.out HGZ.out)
              have HDB := Lib.hid (show D.length ≤ 100 from by have := HDZ.out; omega)
              go_loopw [85] (fun i wj => ∃ j : Nat, j ≤ L.length ∧ i = .int .i64 j ∧ Below w6.heap.size w6 wj) (fun i _ => L.length - (intOf i).toNat)
              case atStart => exact ⟨0, Nat.zero_le _, rfl, Below.refl _ _⟩
              case round =>
                obtain ⟨j, hj, rfl, hbj⟩ := hrel
                by_cases hjl : j < L.length
                · obtain ⟨b5, off5, q, rfl, hb5, hq, hcq, hq1, hq2⟩ := (HV.out.below (hbelz.trans (below_of hbj hbelz.size))).at hjl
                  have hja : j < A3.length := by rw [LM4.out.1]; exact hjl
                  obtain ⟨y, hy⟩ : ∃ y, A3[j]? = some y := ⟨A3[j], List.getElem?_eq_getElem hja⟩
                  obtain ⟨hy1, hy2⟩ := LKZ.out j y hy
                  obtain ⟨lim, u, p⟩ := y
                  have hlq := LM4.out.2 j _ hy
                  rw [hq] at hlq
                  simp at hlq
                  subst hlq
                  obtain ⟨o1, o2, o3, o4⟩ := okA_at OK4.out hy
                  simp only at o1 o2 o3 o4 hy1 hy2
                  have HY := Lib.hid hy
                  have HY1 := Lib.hid hy1
                  have HY2 := Lib.hid hy2
                  have hjk : (j : Int) < (L.length : Int) := by omega
                  have hwq : IntKind.i64.wrap (q - u) = q - u := IntWalk.i64_in _ (by omega)
                  clear hq hy hja hy1 hy2
                  have HJ := Lib.hid (HZ.out.below hbj)
                  have HRJ := Lib.hid (HRZ.out.below hbj)
                  have C := Lib.hid (refused_any _ D j _ HRJ.out HDB.out)
                  rw [← HY1.out] at C
                  go_wp2_with fail
                  refine C.out.mono ?_
                  rintro e x1 ⟨rfl, hb4⟩
                  have HJ := Lib.hid (HJ.out.below hb4)
                  have HRJ := Lib.hid (HRJ.out.below hb4)
                  have hbj := below_two hbj hb4
                  clear hb4 C hcq
                  go_wp2_with fail
                  refine (lused_any b br bcap A3 j _ HJ.out OK4.out).mono ?_
                  rintro e x2 ⟨rfl, hb4⟩
                  rw [readA_yes HY.out]
                  have HJ := Lib.hid (HJ.out.below hb4)
                  have HRJ := Lib.hid (HRJ.out.below hb4)
                  have hbj := below_two hbj hb4
                  clear hb4
                  go_wp2_with fail
                  refine (lleft_any b br bcap A3 j _ HJ.out OK4.out).mono ?_
                  rintro e x3 ⟨rfl, hb4⟩
                  rw [readA_yes HY.out]
                  have HJ := Lib.hid (HJ.out.below hb4)
                  have HRJ := Lib.hid (HRJ.out.below hb4)
                  have hbj := below_two hbj hb4
                  clear hb4
                  go_wp2_with fail
                  refine (lpeak_any b br bcap A3 j _ HJ.out OK4.out).mono ?_
                  rintro e x4 ⟨rfl, hb4⟩
                  rw [readA_yes HY.out]
                  have HJ := Lib.hid (HJ.out.below hb4)
                  have HRJ := Lib.hid (HRJ.out.below hb4)
                  have hbj := below_two hbj hb4
                  clear hb4
                  have C := Lib.hid (refpeak_any _ D j _ HRJ.out HDB.out)
                  rw [← HY2.out] at C
                  go_wp2_with fail
                  refine C.out.mono ?_
                  rintro e x5 ⟨rfl, hb4⟩
                  have HJ := Lib.hid (HJ.out.below hb4)
                  have hbj := below_two hbj hb4
                  clear hb4 C HRJ
                  go_wp2_with fail
                  refine (llimit_any b br bcap A3 j _ HJ.out OK4.out).mono ?_
                  rintro e x6 ⟨rfl, hb4⟩
                  rw [readA_yes HY.out]
                  have hbj := below_two hbj hb4
                  clear hb4 HJ
                  go_wp2
                  go_roundw
                  case rel => exact ⟨j + 1, by omega, by go_num, hbj⟩
                  case measure => simp [intOf]; omega
                · obtain rfl : j = L.length := by omega
                  go_wp2
                  go_roundw
                  case rel => exact ⟨k + 1, A3, D, by omega, by go_num, HZ.out.below hbj, OK4.out, LM4.out, LKZ.out, HOZ.out.below hbj, HGZ.out, HFZ.out, HDZ.out, Nat.le_trans hBzz hbj.size, hbelz.trans (below_of hbj hbelz.size)⟩
                  case measure => simp [intOf]; omega
          | false =>
            have HWA := Lib.hid (refres_any _ _ L D tn nn _ HVV.out HRS.out HDB.out)
            rw [resE_ref LM.out LK.out] at HWA
            clear HVV HRS HDB
            go_wp2_with fail
            refine HWA.out.mono ?_
            rintro e w3 ⟨rfl, hb3⟩
            have H3 := Lib.hid ((H.out.below HAL.out).below hb3)
            have HO3 := Lib.hid ((HO.out.below HAL.out).below hb3)
            have C1 := HBA.out.below hb3
            have hca1 := C1.cell (i := 1) (x := .int .i64 tn) rfl
            have hca2 := C1.cell (i := 2) (x := .int .i64 nn) rfl
            have HBD3 := Lib.hid (HBD.out.below hb3)
            have HBE3 := Lib.hid (hbel.trans (below_of (below_two HAL.out hb3) hsz))
            have HS3 := Lib.hid (show wr.heap.size + 1 < w3.heap.size from HBD3.out.lt)
            have HOL := Lib.hid (show ∀ g, (_ : Value).ownBlock = some g → g < wr.heap.size from HO.out.lt)
            clear HWA hb3 H HO HBA HBD HAL C1 hc0 hc1 hc2
            have HT := Lib.hid (lres_any b br bcap A tn nn w3 H3.out OK.out)
            go_wp2_with fail
            refine HT.out.mono ?_
            rintro e w4 ⟨rfl, h4, k4⟩
            have H4 := Lib.hid h4
            have HO4 := Lib.hid (HO3.out.keep k4 (fun g hg he => by have h : g = br := he; have := HF.out g hg; have := HLT.out; omega))
            have HBD4 := Lib.hid (HBD3.out.keep k4 (fun he => by have h : wr.heap.size + 1 = br := he; have := HLT.out; omega))
            have HBE4 := Lib.hid (HBE3.out.trans (k4.below (B := w.heap.size) HBE3.out.size (fun j hj he => by have h : j = br := he; have := G.out; omega)))
            have HS4 := Lib.hid (show wr.heap.size + 1 < w4.heap.size from HBD4.out.lt)
            have OK4 := Lib.hid (resA_ok (t := tn) (n := nn) OK.out)
            have LM4 := Lib.hid (lims_res (t := tn) (n := nn) LM.out)
            clear HT h4 k4 H3 HO3 HBD3 HBE3 HS3 hca1 hca2

            have Hz := H4
            have HOz := HO4
            have HBDz := HBD4
            have HBEz := HBE4
            have HSz := HS4
            clear H4 HO4 HBD4 HBE4 HS4
            by_cases h0 : resE A tn nn = 0
            · have hlr := link_res LK.out OK.out h0

              have HLK := Lib.hid (hlr)
              have hcz0 := HBDz.out.cell (i := 0) (x := .int .i64 tn) rfl
              have hcz1 := HBDz.out.cell (i := 1) (x := .int .i64 nn) rfl
              have hown := HOz.out
              have hdb : D.length < 1000000000 := by have := HDL.out; omega
              rw [h0]
              generalize resA A tn nn = A3 at *
              clear h0 LK OK LM hlr
              go_wp2_with (at_builtin; refine wpList_append_elem2 _ _ rfl _ _ 65 rfl 67 (.agg #[.int .i64 0, .int .i64 0]) 2 16 Try.underlying65 deedinfo rfl (by decide) _ D.length _ [.int .i64 tn, .int .i64 nn] _ rfl rfl (by intro u hu; simp at hu; rcases hu with rfl | rfl <;> rfl) w4.heap.size (by simp) rfl rfl hown hdb (by decide) ?_)
              intro v6 w6 hown6 hkeep hfresh
              have HZ := Lib.hid (Hz.out.keep hkeep (fun e => by have := HF.out _ e; have := HLT.out; omega) (fun e => by have := HF.out _ e; have := HLT.out; omega))
              have HFZ := Lib.hid (HF.out.step (w := w4) (by have := HSz.out; omega) hfresh)
              have hbelz := below_append HBEz.out hkeep (fun g hg => by have := HF.out g hg; have := HLT.out; omega) (HBEz.out.size)
              have hBzz : B ≤ w6.heap.size := by have := hkeep.size; have := HSz.out; (first | omega | (simp at *; omega))
              have HOZ := Lib.hid (show Own w6 67 2 v6 (D ++ [(tn, nn)]).length ((D ++ [(tn, nn)]).flatMap encD) by rw [flatD_snoc, List.length_append]; exact hown6)
              have HDZ := Lib.hid (show (D ++ [(tn, nn)]).length ≤ k + 1 by rw [List.length_append]; have := HDL.out; show D.length + 1 ≤ _; omega)
              have HGZ := Lib.hid (show ∀ d ∈ D ++ [(tn, nn)], goodD d from fun d hd => by
                rcases List.mem_append.1 hd with h | h
                · exact HG.out d h
                · rw [List.mem_singleton.1 h]; exact HLK.out.2)
              have LKZ := Lib.hid HLK.out.1
              generalize D ++ [(tn, nn)] = D3 at *
              clear hcz0 hcz1 hown hdb hown6 hkeep hfresh Hz HOz HBDz HBEz HSz HF HG HDL HLK

              have HRZ := Lib.hid (rs_of_own encD_len HOZ.out HGZ.out)
              have HDB := Lib.hid (show D3.length ≤ 100 from by have := HDZ.out; omega)
              go_wp2
              go_loopw [85] (fun i wj => ∃ j : Nat, j ≤ L.length ∧ i = .int .i64 j ∧ Below w6.heap.size w6 wj) (fun i _ => L.length - (intOf i).toNat)
              case atStart => exact ⟨0, Nat.zero_le _, rfl, Below.refl _ _⟩
              case round =>
                obtain ⟨j, hj, rfl, hbj⟩ := hrel
                by_cases hjl : j < L.length
                · obtain ⟨b5, off5, q, rfl, hb5, hq, hcq, hq1, hq2⟩ := (HV.out.below (hbelz.trans (below_of hbj hbelz.size))).at hjl
                  have hja : j < A3.length := by rw [LM4.out.1]; exact hjl
                  obtain ⟨y, hy⟩ : ∃ y, A3[j]? = some y := ⟨A3[j], List.getElem?_eq_getElem hja⟩
                  obtain ⟨hy1, hy2⟩ := LKZ.out j y hy
                  obtain ⟨lim, u, p⟩ := y
                  have hlq := LM4.out.2 j _ hy
                  rw [hq] at hlq
                  simp at hlq
                  subst hlq
                  obtain ⟨o1, o2, o3, o4⟩ := okA_at OK4.out hy
                  simp only at o1 o2 o3 o4 hy1 hy2
                  have HY := Lib.hid hy
                  have HY1 := Lib.hid hy1
                  have HY2 := Lib.hid hy2
                  have hjk : (j : Int) < (L.length : Int) := by omega
                  have hwq : IntKind.i64.wrap (q - u) = q - u := IntWalk.i64_in _ (by omega)
                  clear hq hy hja hy1 hy2
                  have HJ := Lib.hid (HZ.out.below hbj)
                  have HRJ := Lib.hid (HRZ.out.below hbj)
                  have C := Lib.hid (refused_any _ D3 j _ HRJ.out HDB.out)
                  rw [← HY1.out] at C
                  go_wp2_with fail
                  refine C.out.mono ?_
                  rintro e x1 ⟨rfl, hb4⟩
                  have HJ := Lib.hid (HJ.out.below hb4)
                  have HRJ := Lib.hid (HRJ.out.below hb4)
                  have hbj := below_two hbj hb4
                  clear hb4 C hcq
                  go_wp2_with fail
                  refine (lused_any b br bcap A3 j _ HJ.out OK4.out).mono ?_
                  rintro e x2 ⟨rfl, hb4⟩
                  rw [readA_yes HY.out]
                  have HJ := Lib.hid (HJ.out.below hb4)
                  have HRJ := Lib.hid (HRJ.out.below hb4)
                  have hbj := below_two hbj hb4
                  clear hb4
                  go_wp2_with fail
                  refine (lleft_any b br bcap A3 j _ HJ.out OK4.out).mono ?_
                  rintro e x3 ⟨rfl, hb4⟩
                  rw [readA_yes HY.out]
                  have HJ := Lib.hid (HJ.out.below hb4)
                  have HRJ := Lib.hid (HRJ.out.below hb4)
                  have hbj := below_two hbj hb4
                  clear hb4
                  go_wp2_with fail
                  refine (lpeak_any b br bcap A3 j _ HJ.out OK4.out).mono ?_
                  rintro e x4 ⟨rfl, hb4⟩
                  rw [readA_yes HY.out]
                  have HJ := Lib.hid (HJ.out.below hb4)
                  have HRJ := Lib.hid (HRJ.out.below hb4)
                  have hbj := below_two hbj hb4
                  clear hb4
                  have C := Lib.hid (refpeak_any _ D3 j _ HRJ.out HDB.out)
                  rw [← HY2.out] at C
                  go_wp2_with fail
                  refine C.out.mono ?_
                  rintro e x5 ⟨rfl, hb4⟩
                  have HJ := Lib.hid (HJ.out.below hb4)
                  have hbj := below_two hbj hb4
                  clear hb4 C HRJ
                  go_wp2_with fail
                  refine (llimit_any b br bcap A3 j _ HJ.out OK4.out).mono ?_
                  rintro e x6 ⟨rfl, hb4⟩
                  rw [readA_yes HY.out]
                  have hbj := below_two hbj hb4
                  clear hb4 HJ
                  go_wp2
                  go_roundw
                  case rel => exact ⟨j + 1, by omega, by go_num, hbj⟩
                  case measure => simp [intOf]; omega
                · obtain rfl : j = L.length := by omega
                  go_wp2
                  go_roundw
                  case rel => exact ⟨k + 1, A3, D3, by omega, by go_num, HZ.out.below hbj, OK4.out, LM4.out, LKZ.out, HOZ.out.below hbj, HGZ.out, HFZ.out, HDZ.out, Nat.le_trans hBzz hbj.size, hbelz.trans (below_of hbj hbelz.size)⟩
                  case measure => simp [intOf]; omega
            · have HLK := Lib.hid (show linkD (resA A tn nn) D by rw [resA_no h0]; exact LK.out)
              have hne0 : ((resE A tn nn : Int) == 0) = false := beq_eq_false_iff_ne.2 h0
              generalize resA A tn nn = A3 at *
              generalize resE A tn nn = E3 at *
              clear h0 LK OK LM
              go_wp2_with fail

              have HZ := Hz
              have HFZ := HF
              have hbelz := HBEz.out
              have hBzz : B ≤ (w4).heap.size := by have := HSz.out; (first | omega | (simp; omega))
              have HOZ := HOz
              have HDZ := Lib.hid (show D.length ≤ k + 1 by have := HDL.out; omega)
              have HGZ := HG
              have LKZ := HLK
              generalize hww : w4 = w6 at *
              clear hww
              clear Hz HOz HBDz HBEz HSz HF HG HDL HLK

              have HRZ := Lib.hid (rs_of_own encD_len HOZ.out HGZ.out)
              have HDB := Lib.hid (show D.length ≤ 100 from by have := HDZ.out; omega)
              go_loopw [85] (fun i wj => ∃ j : Nat, j ≤ L.length ∧ i = .int .i64 j ∧ Below w6.heap.size w6 wj) (fun i _ => L.length - (intOf i).toNat)
              case atStart => exact ⟨0, Nat.zero_le _, rfl, Below.refl _ _⟩
              case round =>
                obtain ⟨j, hj, rfl, hbj⟩ := hrel
                by_cases hjl : j < L.length
                · obtain ⟨b5, off5, q, rfl, hb5, hq, hcq, hq1, hq2⟩ := (HV.out.below (hbelz.trans (below_of hbj hbelz.size))).at hjl
                  have hja : j < A3.length := by rw [LM4.out.1]; exact hjl
                  obtain ⟨y, hy⟩ : ∃ y, A3[j]? = some y := ⟨A3[j], List.getElem?_eq_getElem hja⟩
                  obtain ⟨hy1, hy2⟩ := LKZ.out j y hy
                  obtain ⟨lim, u, p⟩ := y
                  have hlq := LM4.out.2 j _ hy
                  rw [hq] at hlq
                  simp at hlq
                  subst hlq
                  obtain ⟨o1, o2, o3, o4⟩ := okA_at OK4.out hy
                  simp only at o1 o2 o3 o4 hy1 hy2
                  have HY := Lib.hid hy
                  have HY1 := Lib.hid hy1
                  have HY2 := Lib.hid hy2
                  have hjk : (j : Int) < (L.length : Int) := by omega
                  have hwq : IntKind.i64.wrap (q - u) = q - u := IntWalk.i64_in _ (by omega)
                  clear hq hy hja hy1 hy2
                  have HJ := Lib.hid (HZ.out.below hbj)
                  have HRJ := Lib.hid (HRZ.out.below hbj)
                  have C := Lib.hid (refused_any _ D j _ HRJ.out HDB.out)
                  rw [← HY1.out] at C
                  go_wp2_with fail
                  refine C.out.mono ?_
                  rintro e x1 ⟨rfl, hb4⟩
                  have HJ := Lib.hid (HJ.out.below hb4)
                  have HRJ := Lib.hid (HRJ.out.below hb4)
                  have hbj := below_two hbj hb4
                  clear hb4 C hcq
                  go_wp2_with fail
                  refine (lused_any b br bcap A3 j _ HJ.out OK4.out).mono ?_
                  rintro e x2 ⟨rfl, hb4⟩
                  rw [readA_yes HY.out]
                  have HJ := Lib.hid (HJ.out.below hb4)
                  have HRJ := Lib.hid (HRJ.out.below hb4)
                  have hbj := below_two hbj hb4
                  clear hb4
                  go_wp2_with fail
                  refine (lleft_any b br bcap A3 j _ HJ.out OK4.out).mono ?_
                  rintro e x3 ⟨rfl, hb4⟩
                  rw [readA_yes HY.out]
                  have HJ := Lib.hid (HJ.out.below hb4)
                  have HRJ := Lib.hid (HRJ.out.below hb4)
                  have hbj := below_two hbj hb4
                  clear hb4
                  go_wp2_with fail
                  refine (lpeak_any b br bcap A3 j _ HJ.out OK4.out).mono ?_
                  rintro e x4 ⟨rfl, hb4⟩
                  rw [readA_yes HY.out]
                  have HJ := Lib.hid (HJ.out.below hb4)
                  have HRJ := Lib.hid (HRJ.out.below hb4)
                  have hbj := below_two hbj hb4
                  clear hb4
                  have C := Lib.hid (refpeak_any _ D j _ HRJ.out HDB.out)
                  rw [← HY2.out] at C
                  go_wp2_with fail
                  refine C.out.mono ?_
                  rintro e x5 ⟨rfl, hb4⟩
                  have HJ := Lib.hid (HJ.out.below hb4)
                  have hbj := below_two hbj hb4
                  clear hb4 C HRJ
                  go_wp2_with fail
                  refine (llimit_any b br bcap A3 j _ HJ.out OK4.out).mono ?_
                  rintro e x6 ⟨rfl, hb4⟩
                  rw [readA_yes HY.out]
                  have hbj := below_two hbj hb4
                  clear hb4 HJ
                  go_wp2
                  go_roundw
                  case rel => exact ⟨j + 1, by omega, by go_num, hbj⟩
                  case measure => simp [intOf]; omega
                · obtain rfl : j = L.length := by omega
                  go_wp2
                  go_roundw
                  case rel => exact ⟨k + 1, A3, D, by omega, by go_num, HZ.out.below hbj, OK4.out, LM4.out, LKZ.out, HOZ.out.below hbj, HGZ.out, HFZ.out, HDZ.out, Nat.le_trans hBzz hbj.size, hbelz.trans (below_of hbj hbelz.size)⟩
                  case measure => simp [intOf]; omega
        · obtain rfl : k = l.length := by omega
          have HT := Lib.hid (ltenants_any b br bcap A wr H.out)
          rw [LM.out.1] at HT
          clear H OK LM LK HO HG HF HDL hlt hk
          go_wp2_with fail
          refine HT.out.mono ?_
          rintro e w2 ⟨rfl, rfl⟩
          clear HT
          go_wp2_with fail
          refine (ten_any _).mono ?_
          rintro e w2 ⟨rfl, hb⟩
          go_wp2
          go_ret
          exact ⟨rfl, hbel.trans (below_of hb hbel.size)⟩
  · have ht : decide (40 < l.length) = true := decide_eq_true (by omega)
    have ht' : decide ((40 : Int) < (l.length : Int)) = true := decide_eq_true (by omega)
    clear hl
    go_enter Try.func11, Try.ntmps11
    go_wp2_with fail
    refine (ten_any _).mono ?_
    rintro e w1 ⟨rfl, hb⟩
    go_wp2
    go_ret
    exact ⟨rfl, hb⟩
end Go.Proofs.Ytfphdcfbkknpbaa


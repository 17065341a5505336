/- Package ledger: the small case; the laws LedgerHolds, LedgerApart, LedgerNil walked. -/
import Derived.Test.YtfphdcfbkknpbaaLedB
import Derived.Test.YtfphdcfbkknpbaaWinD
namespace Go.Proofs.Ytfphdcfbkknpbaa
open Go.RowKit

set_option maxHeartbeats 1000000 in
theorem ten_any (w : World) : Calls Try.prog 23 #[] w fun e w' => e = .returned (.bool true) ∧ Below w.heap.size w w' := by
  go_enter Try.func23, Try.ntmps23
  go_wp2_with fail
  refine (lnew_ok _ [10] _ (rints_new w [10] _ 1 _ _ rfl rfl rfl (by decide) (by decide)) (by decide) (by decide) (by decide)).mono ?_
  rintro e w1 ⟨b, rfl, br, cap, h1, hb1, g1, g2⟩
  have hbw := below_two (below_alloc w _) hb1
  have G := Lib.hid (show w.heap.size ≤ b ∧ w.heap.size ≤ br by simp at g1 g2; omega)
  have H := Lib.hid h1
  clear hb1 g1 g2 h1
  have okA : okL (newA [10]) := newA_ok (by decide)
  have OK := Lib.hid okA
  clear okA
  go_wp2_with fail
  refine (lres_any b br cap (newA [10]) 0 6 _ H.out OK.out).mono ?_
  rintro e w2 ⟨rfl, h2, k2⟩
  have hbw := hbw.trans (k2.below (B := w.heap.size) hbw.size (fun j hj he => by have h : j = br := he; have := G.out; omega))
  have e1 : resE (newA [10]) 0 6 = 0 := by decide
  have e2 : resA (newA [10]) 0 6 = [(10, 6, 6)] := by decide
  rw [e2] at h2
  rw [e1]
  have H := Lib.hid h2
  have OK := Lib.hid (show okL [(10, 6, 6)] from e2 ▸ resA_ok (t := 0) (n := 6) OK.out)
  clear h2 k2 e1 e2
  go_wp2_with fail
  refine (lres_any b br cap [(10, 6, 6)] 0 5 _ H.out OK.out).mono ?_
  rintro e w2 ⟨rfl, h2, k2⟩
  have hbw := hbw.trans (k2.below (B := w.heap.size) hbw.size (fun j hj he => by have h : j = br := he; have := G.out; omega))
  have e1 : resE [(10, 6, 6)] 0 5 = 34 := by decide
  have e2 : resA [(10, 6, 6)] 0 5 = [(10, 6, 6)] := by decide
  rw [e2] at h2
  rw [e1]
  have H := Lib.hid h2
  have OK := Lib.hid (show okL [(10, 6, 6)] from e2 ▸ resA_ok (t := 0) (n := 5) OK.out)
  clear h2 k2 e1 e2
  go_wp2_with fail
  refine (lres_any b br cap [(10, 6, 6)] 0 11 _ H.out OK.out).mono ?_
  rintro e w2 ⟨rfl, h2, k2⟩
  have hbw := hbw.trans (k2.below (B := w.heap.size) hbw.size (fun j hj he => by have h : j = br := he; have := G.out; omega))
  have e1 : resE [(10, 6, 6)] 0 11 = 33 := by decide
  have e2 : resA [(10, 6, 6)] 0 11 = [(10, 6, 6)] := by decide
  rw [e2] at h2
  rw [e1]
  have H := Lib.hid h2
  have OK := Lib.hid (show okL [(10, 6, 6)] from e2 ▸ resA_ok (t := 0) (n := 11) OK.out)
  clear h2 k2 e1 e2
  go_wp2_with fail
  refine (lused_any b br cap [(10, 6, 6)] 0 _ H.out OK.out).mono ?_
  rintro e w2 ⟨rfl, hb2⟩
  have hbw := below_two hbw hb2
  have H := Lib.hid (H.out.below hb2)
  have e1 : readA (fun x => x.2.1) [(10, 6, 6)] 0 = 6 := by decide
  rw [e1]
  clear hb2 e1
  go_wp2_with fail
  refine (lleft_any b br cap [(10, 6, 6)] 0 _ H.out OK.out).mono ?_
  rintro e w2 ⟨rfl, hb2⟩
  have hbw := below_two hbw hb2
  have H := Lib.hid (H.out.below hb2)
  have e1 : readA (fun x => x.1 - x.2.1) [(10, 6, 6)] 0 = 4 := by decide
  rw [e1]
  clear hb2 e1
  go_wp2_with fail
  refine (lrel_any b br cap [(10, 6, 6)] 0 6 _ H.out OK.out).mono ?_
  rintro e w2 ⟨rfl, h2, k2⟩
  have hbw := hbw.trans (k2.below (B := w.heap.size) hbw.size (fun j hj he => by have h : j = br := he; have := G.out; omega))
  have e1 : relE [(10, 6, 6)] 0 6 = 0 := by decide
  have e2 : relA [(10, 6, 6)] 0 6 = [(10, 0, 6)] := by decide
  rw [e2] at h2
  rw [e1]
  have H := Lib.hid h2
  have OK := Lib.hid (show okL [(10, 0, 6)] from e2 ▸ relA_ok (t := 0) (n := 6) OK.out)
  clear h2 k2 e1 e2
  go_wp2_with fail
  refine (lrel_any b br cap [(10, 0, 6)] 0 1 _ H.out OK.out).mono ?_
  rintro e w2 ⟨rfl, h2, k2⟩
  have hbw := hbw.trans (k2.below (B := w.heap.size) hbw.size (fun j hj he => by have h : j = br := he; have := G.out; omega))
  have e1 : relE [(10, 0, 6)] 0 1 = 1 := by decide
  have e2 : relA [(10, 0, 6)] 0 1 = [(10, 0, 6)] := by decide
  rw [e2] at h2
  rw [e1]
  have H := Lib.hid h2
  have OK := Lib.hid (show okL [(10, 0, 6)] from e2 ▸ relA_ok (t := 0) (n := 1) OK.out)
  clear h2 k2 e1 e2
  go_wp2_with fail
  refine (lpeak_any b br cap [(10, 0, 6)] 0 _ H.out OK.out).mono ?_
  rintro e w2 ⟨rfl, hb2⟩
  have hbw := below_two hbw hb2
  have H := Lib.hid (H.out.below hb2)
  have e1 : readA (fun x => x.2.2) [(10, 0, 6)] 0 = 6 := by decide
  rw [e1]
  clear hb2 e1
  go_wp2
  go_ret
  exact ⟨ret_bool (by decide), hbw⟩

def encL (x : Bool × Int × Int) : List Value := [.bool x.1, .int .i64 x.2.1, .int .i64 x.2.2]
def goodL (x : Bool × Int × Int) : Prop := (-9223372036854775808 ≤ x.2.1 ∧ x.2.1 ≤ 9223372036854775807) ∧ (-9223372036854775808 ≤ x.2.2 ∧ x.2.2 ≤ 9223372036854775807)

theorem limitsB_yes {l : List Int} (h : limitsB l = true) : 0 < l.length ∧ l.length ≤ 16 ∧ mayL l = true := by
  unfold limitsB at h
  simp at h
  exact ⟨by cases l <;> simp_all, h.2.2, h.1⟩

/-- the accounts have these limits -/
def lims (l : List Int) (A : List Acc) : Prop := A.length = l.length ∧ ∀ (i : Nat) (x : Acc), A[i]? = some x → l[i]? = some x.1
theorem lims_new (l : List Int) : lims l (newA l) := by
  refine ⟨by simp [newA], fun i x h => ?_⟩
  unfold newA at h
  rw [List.getElem?_map] at h
  cases hl : l[i]? with
  | none => rw [hl] at h; simp at h
  | some n => rw [hl] at h; simp at h; rw [← h]
theorem lims_set {l : List Int} {A : List Acc} {k : Nat} {x x' : Acc} (h : lims l A) (hx : A[k]? = some x) (he : x'.1 = x.1) : lims l (A.set k x') := by
  refine ⟨by rw [List.length_set]; exact h.1, fun i y hy => ?_⟩
  rw [List.getElem?_set] at hy
  split at hy
  · rename_i e
    subst e
    split at hy
    · simp at hy
      rw [← hy, he]
      exact h.2 k x hx
    · simp at hy
  · exact h.2 i y hy
theorem lims_res {l : List Int} {A : List Acc} {t n : Int} (h : lims l A) : lims l (resA A t n) := by
  unfold resA
  split
  · rename_i h0
    have hin : inA t A = true := by
      cases hi : inA t A with
      | true => rfl
      | false => rw [resE_in hi] at h0; exact absurd h0 (by decide)
    obtain ⟨k, x, rfl, hx⟩ := inA_yes hin
    rw [getDA hx, Int.toNat_natCast]
    exact lims_set h hx rfl
  · exact h
theorem lims_rel {l : List Int} {A : List Acc} {t n : Int} (h : lims l A) : lims l (relA A t n) := by
  unfold relA
  split
  · rename_i h0
    have hin : inA t A = true := by
      cases hi : inA t A with
      | true => rfl
      | false => rw [relE_in hi] at h0; exact absurd h0 (by decide)
    obtain ⟨k, x, rfl, hx⟩ := inA_yes hin
    rw [getDA hx, Int.toNat_natCast]
    exact lims_set h hx rfl
  · exact h

set_option maxRecDepth 100000 in
set_option maxHeartbeats 1000000 in
theorem lawLedgerHolds {v va : Value} {L : List Int} {l : List (Bool × Int × Int)} {w : World} (hv : RInts w v L) (hva : RS w va l encL 3 goodL) :
    Calls Try.prog 5 #[v, va] w fun e w' => e = .returned (.bool true) ∧ Below w.heap.size w w' := by
  have HV := Lib.hid hv
  have HA := Lib.hid hva
  obtain ⟨a, cap, rfl, hc1, hc2⟩ := hv.shape
  obtain ⟨a2, cap2, rfl, hc3, hc4⟩ := hva.shape
  clear hv hva
  by_cases hl : l.length ≤ 100
  · cases hlim : limitsB L with
    | true =>
      have HLIM := Lib.hid hlim
      obtain ⟨p3, p4, p5⟩ := limitsB_yes hlim
      have HP5 := Lib.hid p5
      have hll : (l.length : Int) ≤ 100 := by omega
      clear hlim p5
      go_enter Try.func5, Try.ntmps5
      go_wp2_with fail
      refine (limits_any _ L _ HV.out).mono ?_
      rintro e w1 ⟨rfl, rfl⟩
      rw [HLIM.out]
      go_wp2_with fail
      refine (lnew_ok _ L _ HV.out p3 p4 HP5.out).mono ?_
      rintro e w1 ⟨b, rfl, br, bcap, h1, hb1, g1, g2⟩
      have H1 := Lib.hid h1
      have G := Lib.hid (show w.heap.size ≤ b ∧ w.heap.size ≤ br from ⟨g1, g2⟩)
      clear h1 g1 g2
      go_wp2
      go_loopw [28] (fun i wr => ∃ (k : Nat) (A : List Acc), k ≤ l.length ∧ i = .int .i64 k ∧ Hid (LedgerAt wr b br bcap A) ∧ Hid (okL A) ∧ Hid (lims L A) ∧ Below w.heap.size w wr) (fun i _ => l.length - (intOf i).toNat)
      case atStart => exact ⟨0, newA L, Nat.zero_le _, rfl, H1.out, newA_ok HP5.out, lims_new L, hb1⟩
      case round =>
        obtain ⟨k, A, hk, rfl, H, OK, LM, hbel⟩ := hrel
        by_cases hlt : k < l.length
        · obtain ⟨b2, off2, x, rfl, hbb2, hx, hgx, hcx⟩ := (HA.out.below hbel).at hlt
          obtain ⟨tk, tn, nn⟩ := x
          have hc0 : wr.cell? ⟨b2, off2 + k * 3, none⟩ = some (.bool tk) := hcx 0 _ rfl
          have hc1 : wr.cell? ⟨b2, off2 + k * 3 + 1, none⟩ = some (.int .i64 tn) := hcx 1 _ rfl
          have hc2 : wr.cell? ⟨b2, off2 + k * 3 + 2, none⟩ = some (.int .i64 nn) := hcx 2 _ rfl
          have hkl : (k : Int) < (l.length : Int) := by omega
          have hsz := hbel.size
          clear hx hcx hgx
          have hal := below_alloc wr (Obj.cells #[Value.bool tk, Value.int IntKind.i64 tn, Value.int IntKind.i64 nn] 43)
          have hbelA := hbel.alloc (by omega) (Obj.cells #[Value.bool tk, Value.int IntKind.i64 tn, Value.int IntKind.i64 nn] 43)
          cases tk with
          | true =>
            have HT := Lib.hid (lrel_any b br bcap A tn nn _ (H.out.below hal) OK.out)
            go_wp2_with fail
            refine HT.out.mono ?_
            rintro e w3 ⟨rfl, h3, k3⟩
            have H3 := Lib.hid h3
            have OK3 := Lib.hid (relA_ok (t := tn) (n := nn) OK.out)
            have LM3 := Lib.hid (lims_rel (t := tn) (n := nn) LM.out)
            have hbel3 := hbelA.trans (k3.below (B := w.heap.size) (by simp; omega) (fun j hj he => by have h : j = br := he; have := G.out; omega))
            clear HT h3 k3 hc0 hc1 hc2 hal hbelA H OK LM
            generalize relA A tn nn = A3 at *
            generalize relE A tn nn = E3 at *
            go_wp2
            obtain ⟨wo, hwo⟩ : ∃ wo : World, wo = w3 := ⟨_, rfl⟩
            clear hwo
            go_loopw [48] (fun i wj => ∃ j : Nat, j ≤ L.length ∧ i = .int .i64 j ∧ Hid (LedgerAt wj b br bcap A3) ∧ Below w.heap.size w wj) (fun i _ => L.length - (intOf i).toNat)
            case atStart => exact ⟨0, Nat.zero_le _, rfl, H3.out, hbel3⟩
            case round =>
              obtain ⟨j, hj, rfl, HJ, hbelj⟩ := hrel
              by_cases hjl : j < L.length
              · obtain ⟨b5, off5, q, rfl, hb5, hq, hcq, hq1, hq2⟩ := (HV.out.below hbelj).at hjl
                have hja : j < A3.length := by rw [LM3.out.1]; exact hjl
                obtain ⟨y, hy⟩ : ∃ y, A3[j]? = some y := ⟨A3[j], List.getElem?_eq_getElem hja⟩
                obtain ⟨lim, u, p⟩ := y
                have hlq := LM3.out.2 j _ hy
                rw [hq] at hlq
                simp at hlq
                subst hlq
                obtain ⟨o1, o2, o3, o4⟩ := okA_at OK3.out hy
                simp only at o1 o2 o3 o4
                have HY := Lib.hid hy
                have hjk : (j : Int) < (L.length : Int) := by omega
                have hne : ((q - u + u : Int) != q) = false := by rw [Int.sub_add_cancel]; simp
                clear hq hy hja
                go_wp2_with fail
                refine (lused_any b br bcap A3 j _ HJ.out OK3.out).mono ?_
                rintro e w4 ⟨rfl, hb4⟩
                rw [readA_yes HY.out]
                have HJ := Lib.hid (HJ.out.below hb4)
                have hbelj := below_two hbelj hb4
                clear hb4 hcq
                go_wp2_with fail
                refine (lleft_any b br bcap A3 j _ HJ.out OK3.out).mono ?_
                rintro e w5 ⟨rfl, hb4⟩
                rw [readA_yes HY.out]
                have HJ := Lib.hid (HJ.out.below hb4)
                have hbelj := below_two hbelj hb4
                clear hb4
                go_wp2_with fail
                refine (lpeak_any b br bcap A3 j _ HJ.out OK3.out).mono ?_
                rintro e w6 ⟨rfl, hb4⟩
                rw [readA_yes HY.out]
                have HJ := Lib.hid (HJ.out.below hb4)
                have hbelj := below_two hbelj hb4
                clear hb4
                go_wp2_with fail
                refine (lpeak_any b br bcap A3 j _ HJ.out OK3.out).mono ?_
                rintro e w7 ⟨rfl, hb4⟩
                rw [readA_yes HY.out]
                have HJ := Lib.hid (HJ.out.below hb4)
                have hbelj := below_two hbelj hb4
                clear hb4
                go_wp2
                go_roundw
                case rel => exact ⟨j + 1, by omega, by go_num, HJ.out, hbelj⟩
                case measure => simp [intOf]; omega
              · obtain rfl : j = L.length := by omega
                go_wp2
                go_roundw
                case rel => exact ⟨k + 1, A3, by omega, by go_num, HJ.out, OK3.out, LM3.out, hbelj⟩
                case measure => simp [intOf]; omega
          | false =>
            have HT := Lib.hid (lres_any b br bcap A tn nn _ (H.out.below hal) OK.out)
            go_wp2_with fail
            refine HT.out.mono ?_
            rintro e w3 ⟨rfl, h3, k3⟩
            have H3 := Lib.hid h3
            have OK3 := Lib.hid (resA_ok (t := tn) (n := nn) OK.out)
            have LM3 := Lib.hid (lims_res (t := tn) (n := nn) LM.out)
            have hbel3 := hbelA.trans (k3.below (B := w.heap.size) (by simp; omega) (fun j hj he => by have h : j = br := he; have := G.out; omega))
            clear HT h3 k3 hc0 hc1 hc2 hal hbelA H OK LM
            generalize resA A tn nn = A3 at *
            generalize resE A tn nn = E3 at *
            go_wp2
            obtain ⟨wo, hwo⟩ : ∃ wo : World, wo = w3 := ⟨_, rfl⟩
            clear hwo
            go_loopw [48] (fun i wj => ∃ j : Nat, j ≤ L.length ∧ i = .int .i64 j ∧ Hid (LedgerAt wj b br bcap A3) ∧ Below w.heap.size w wj) (fun i _ => L.length - (intOf i).toNat)
            case atStart => exact ⟨0, Nat.zero_le _, rfl, H3.out, hbel3⟩
            case round =>
              obtain ⟨j, hj, rfl, HJ, hbelj⟩ := hrel
              by_cases hjl : j < L.length
              · obtain ⟨b5, off5, q, rfl, hb5, hq, hcq, hq1, hq2⟩ := (HV.out.below hbelj).at hjl
                have hja : j < A3.length := by rw [LM3.out.1]; exact hjl
                obtain ⟨y, hy⟩ : ∃ y, A3[j]? = some y := ⟨A3[j], List.getElem?_eq_getElem hja⟩
                obtain ⟨lim, u, p⟩ := y
                have hlq := LM3.out.2 j _ hy
                rw [hq] at hlq
                simp at hlq
                subst hlq
                obtain ⟨o1, o2, o3, o4⟩ := okA_at OK3.out hy
                simp only at o1 o2 o3 o4
                have HY := Lib.hid hy
                have hjk : (j : Int) < (L.length : Int) := by omega
                have hne : ((q - u + u : Int) != q) = false := by rw [Int.sub_add_cancel]; simp
                clear hq hy hja
                go_wp2_with fail
                refine (lused_any b br bcap A3 j _ HJ.out OK3.out).mono ?_
                rintro e w4 ⟨rfl, hb4⟩
                rw [readA_yes HY.out]
                have HJ := Lib.hid (HJ.out.below hb4)
                have hbelj := below_two hbelj hb4
                clear hb4 hcq
                go_wp2_with fail
                refine (lleft_any b br bcap A3 j _ HJ.out OK3.out).mono ?_
                rintro e w5 ⟨rfl, hb4⟩
                rw [readA_yes HY.out]
                have HJ := Lib.hid (HJ.out.below hb4)
                have hbelj := below_two hbelj hb4
                clear hb4
                go_wp2_with fail
                refine (lpeak_any b br bcap A3 j _ HJ.out OK3.out).mono ?_
                rintro e w6 ⟨rfl, hb4⟩
                rw [readA_yes HY.out]
                have HJ := Lib.hid (HJ.out.below hb4)
                have hbelj := below_two hbelj hb4
                clear hb4
                go_wp2_with fail
                refine (lpeak_any b br bcap A3 j _ HJ.out OK3.out).mono ?_
                rintro e w7 ⟨rfl, hb4⟩
                rw [readA_yes HY.out]
                have HJ := Lib.hid (HJ.out.below hb4)
                have hbelj := below_two hbelj hb4
                clear hb4
                go_wp2
                go_roundw
                case rel => exact ⟨j + 1, by omega, by go_num, HJ.out, hbelj⟩
                case measure => simp [intOf]; omega
              · obtain rfl : j = L.length := by omega
                go_wp2
                go_roundw
                case rel => exact ⟨k + 1, A3, by omega, by go_num, HJ.out, OK3.out, LM3.out, hbelj⟩
                case measure => simp [intOf]; omega
        · obtain rfl : k = l.length := by omega
          go_wp2_with fail
          refine (ten_any _).mono ?_
          rintro e w5 ⟨rfl, hb5⟩
          have hb := below_two hbel hb5
          go_wp2
          go_ret
          exact ⟨rfl, hb⟩
    | false =>
      have HLIM := Lib.hid hlim
      have hll : (l.length : Int) ≤ 100 := by omega
      clear hlim
      go_enter Try.func5, Try.ntmps5
      go_wp2_with fail
      refine (limits_any _ L _ HV.out).mono ?_
      rintro e w1 ⟨rfl, rfl⟩
      rw [HLIM.out]
      go_wp2_with fail
      refine (ten_any _).mono ?_
      rintro e w5 ⟨rfl, hb5⟩
      go_wp2
      go_ret
      exact ⟨rfl, hb5⟩
  · have hll : (100 : Int) < (l.length : Int) := by omega
    go_enter Try.func5, Try.ntmps5
    go_wp2_with fail
    refine (ten_any _).mono ?_
    rintro e w5 ⟨rfl, hb5⟩
    go_wp2
    go_ret
    exact ⟨rfl, hb5⟩
end Go.Proofs.Ytfphdcfbkknpbaa

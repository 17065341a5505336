/- The laws LedgerApart and LedgerNil walked. -/
import Derived.Test.YtfphdcfbkknpbaaLedC
namespace Go.Proofs.Ytfphdcfbkknpbaa
open Go.RowKit

/-- two ledgers agree on a tenant -/
def agree (A A' : List Acc) (t : Int) : Prop := A.length = A'.length ∧ ∀ k : Nat, t = k → A[k]? = A'[k]?
theorem agree_in {A A' : List Acc} {t : Int} (h : agree A A' t) : inA t A = inA t A' := by unfold inA; rw [h.1]
theorem agree_get {A A' : List Acc} {t : Int} (h : agree A A' t) (hin : inA t A = true) : A.getD t.toNat (0, 0, 0) = A'.getD t.toNat (0, 0, 0) := by
  obtain ⟨k, x, rfl, hx⟩ := inA_yes hin
  rw [List.getD_eq_getElem?_getD, List.getD_eq_getElem?_getD, Int.toNat_natCast, h.2 k rfl]
theorem agree_read {A A' : List Acc} {t : Int} (h : agree A A' t) (g : Acc → Int) : readA g A t = readA g A' t := by
  unfold readA
  rw [← agree_in h]
  cases hin : inA t A with
  | true => rw [agree_get h hin]
  | false => rfl
theorem agree_resE {A A' : List Acc} {t n : Int} (h : agree A A' t) : resE A t n = resE A' t n := by
  unfold resE
  rw [← agree_in h]
  cases hin : inA t A with
  | true => rw [agree_get h hin]
  | false => rfl
theorem agree_relE {A A' : List Acc} {t n : Int} (h : agree A A' t) : relE A t n = relE A' t n := by
  unfold relE
  rw [← agree_in h]
  cases hin : inA t A with
  | true => rw [agree_get h hin]
  | false => rfl
theorem agree_set {A A' : List Acc} {t : Int} {x x' : Acc} (h : agree A A' t) (hx : x = x') : agree (A.set t.toNat x) (A'.set t.toNat x') t := by
  subst hx
  refine ⟨by rw [List.length_set, List.length_set, h.1], fun k hk => ?_⟩
  subst hk
  rw [Int.toNat_natCast, List.getElem?_set, List.getElem?_set, h.1, if_pos rfl, if_pos rfl]
theorem agree_other {A A' : List Acc} {t u : Int} {x : Acc} (h : agree A A' t) (hne : ¬ u = t) (hu : 0 ≤ u) : agree (A.set u.toNat x) A' t := by
  refine ⟨by rw [List.length_set, h.1], fun k hk => ?_⟩
  rw [List.getElem?_set, if_neg (by omega), h.2 k hk]
theorem agree_resA {A A' : List Acc} {t n : Int} (h : agree A A' t) : agree (resA A t n) (resA A' t n) t := by
  unfold resA
  rw [← agree_resE (n := n) h]
  split
  · rename_i h0
    have hin : inA t A = true := by
      cases hi : inA t A with
      | true => rfl
      | false => rw [resE_in hi] at h0; exact absurd h0 (by decide)
    exact agree_set h (by rw [agree_get h hin])
  · exact h
theorem agree_resO {A A' : List Acc} {t u n : Int} (h : agree A A' t) (hne : ¬ u = t) : agree (resA A u n) A' t := by
  unfold resA
  split
  · rename_i h0
    have hin : inA u A = true := by
      cases hi : inA u A with
      | true => rfl
      | false => rw [resE_in hi] at h0; exact absurd h0 (by decide)
    obtain ⟨k, x, rfl, hx⟩ := inA_yes hin
    exact agree_other h hne (by omega)
  · exact h
theorem agree_relA {A A' : List Acc} {t n : Int} (h : agree A A' t) : agree (relA A t n) (relA A' t n) t := by
  unfold relA
  rw [← agree_relE (n := n) h]
  split
  · rename_i h0
    have hin : inA t A = true := by
      cases hi : inA t A with
      | true => rfl
      | false => rw [relE_in hi] at h0; exact absurd h0 (by decide)
    exact agree_set h (by rw [agree_get h hin])
  · exact h
theorem agree_relO {A A' : List Acc} {t u n : Int} (h : agree A A' t) (hne : ¬ u = t) : agree (relA A u n) A' t := by
  unfold relA
  split
  · rename_i h0
    have hin : inA u A = true := by
      cases hi : inA u A with
      | true => rfl
      | false => rw [relE_in hi] at h0; exact absurd h0 (by decide)
    obtain ⟨k, x, rfl, hx⟩ := inA_yes hin
    exact agree_other h hne (by omega)
  · exact h

set_option maxRecDepth 100000 in
set_option maxHeartbeats 1000000 in
theorem lawLedgerApart {v va : Value} {L : List Int} {l : List (Bool × Int × Int)} {tenant : Int} {w : World} (hv : RInts w v L) (hva : RS w va l encL 3 goodL) (ht1 : -9223372036854775808 ≤ tenant) (ht2 : tenant ≤ 9223372036854775807) :
    Calls Try.prog 6 #[v, va, .int .i64 tenant] w fun e w' => e = .returned (.bool true) ∧ Below w.heap.size w w' := by
  have HV := Lib.hid hv
  have HA := Lib.hid hva
  obtain ⟨a, cap, rfl, hc1, hc2⟩ := hv.shape
  obtain ⟨a2, cap2, rfl, hc3, hc4⟩ := hva.shape
  clear hv hva
  by_cases hl : l.length ≤ 60
  · cases hlim : limitsB L with
    | true =>
      have HLIM := Lib.hid hlim
      obtain ⟨p3, p4, p5⟩ := limitsB_yes hlim
      have HP5 := Lib.hid p5
      have hll : (l.length : Int) ≤ 60 := by omega
      clear hlim p5
      go_enter Try.func6, Try.ntmps6
      go_wp2_with fail
      refine (limits_any _ L _ HV.out).mono ?_
      rintro e w1 ⟨rfl, rfl⟩
      rw [HLIM.out]
      go_wp2_with fail
      refine (lnew_ok _ L _ HV.out p3 p4 HP5.out).mono ?_
      rintro e w1 ⟨bx, rfl, brx, capx, h1, hb1, g1, g2⟩
      have HX1 := Lib.hid h1
      have HLX := Lib.hid h1.lts
      have GX := Lib.hid (show w.heap.size ≤ bx ∧ w.heap.size ≤ brx from ⟨g1, g2⟩)
      have HV1 := Lib.hid (HV.out.below hb1)
      clear h1 g1 g2
      go_wp2_with fail
      refine (lnew_ok _ L _ HV1.out p3 p4 HP5.out).mono ?_
      rintro e w2 ⟨bY, rfl, brY, capY, h2, hb2, g1, g2⟩
      have HY2 := Lib.hid h2
      have HX2 := Lib.hid (HX1.out.below hb2)
      have GY := Lib.hid (show w1.heap.size ≤ bY ∧ w1.heap.size ≤ brY from ⟨g1, g2⟩)
      have hbw := below_two hb1 hb2
      have hszw := hb1.size
      clear h2 g1 g2 hb1 hb2 HX1
      go_wp2
      go_loopw [37] (fun i wr => ∃ (k : Nat) (A A' : List Acc), k ≤ l.length ∧ i = .int .i64 k ∧ Hid (LedgerAt wr bx brx capx A) ∧ Hid (LedgerAt wr bY brY capY A') ∧ Hid (okL A ∧ okL A') ∧ Hid (agree A A' tenant) ∧ Below w.heap.size w wr) (fun i _ => l.length - (intOf i).toNat)
      case atStart => exact ⟨0, newA L, newA L, Nat.zero_le _, rfl, HX2.out, HY2.out, ⟨newA_ok HP5.out, newA_ok HP5.out⟩, ⟨rfl, fun _ _ => rfl⟩, hbw⟩
      case round =>
        obtain ⟨k, A, A', hk, rfl, HX, HY, OK, AG, hbel⟩ := hrel
        by_cases hlt : k < l.length
        · obtain ⟨b2, off2, x, rfl, hbb2, hx, hgx, hcx⟩ := (HA.out.below hbel).at hlt
          obtain ⟨tk, tn, nn⟩ := x
          have hc0 : wr.cell? ⟨b2, off2 + k * 3, none⟩ = some (.bool tk) := hcx 0 _ rfl
          have hc1 : wr.cell? ⟨b2, off2 + k * 3 + 1, none⟩ = some (.int .i64 tn) := hcx 1 _ rfl
          have hc2 : wr.cell? ⟨b2, off2 + k * 3 + 2, none⟩ = some (.int .i64 nn) := hcx 2 _ rfl
          have hkl : (k : Int) < (l.length : Int) := by omega
          have hsz := hbel.size
          clear hx hcx hgx
          have hal := below_alloc wr (Obj.cells #[Value.bool tk, Value.int IntKind.i64 tn, Value.int IntKind.i64 nn] 43)
          have hbelA := hbel.alloc (by omega) (Obj.cells #[Value.bool tk, Value.int IntKind.i64 tn, Value.int IntKind.i64 nn] 43)
          have hA : Blk (wr.alloc (Obj.cells #[Value.bool tk, Value.int IntKind.i64 tn, Value.int IntKind.i64 nn] 43)) wr.heap.size [Value.bool tk, Value.int IntKind.i64 tn, Value.int IntKind.i64 nn] 43 := Blk.new wr _ _
          have HAA := Lib.hid hA
          have HXA := Lib.hid (HX.out.below hal)
          have HYA := Lib.hid (HY.out.below hal)
          have HLR := Lib.hid HX.out.lts
          clear hal hA
          cases tk with
          | true =>
            have HT := Lib.hid (lrel_any bx brx capx A tn nn _ HXA.out OK.out.1)
            by_cases hmine : tn = tenant
            · subst hmine
              have htt : (tn == tn) = true := by simp
              go_wp2_with fail
              refine HT.out.mono ?_
              rintro e w3 ⟨rfl, h3, k3⟩
              have HX3 := Lib.hid h3
              have HY3 := Lib.hid (HYA.out.keep k3 (fun e => by have h : bY = brx := e; have := GY.out; have := HLX.out; omega) (fun e => by have h : brY = brx := e; have := GY.out; have := HLX.out; omega))
              have hA3 := HAA.out.keep k3 (fun e => by have h : wr.heap.size = brx := e; have := HLR.out; omega)
              have hA1 := hA3.cell (i := 1) (x := Value.int IntKind.i64 tn) rfl
              have hA2 := hA3.cell (i := 2) (x := Value.int IntKind.i64 nn) rfl
              have hbel3 := hbelA.trans (k3.below (B := w.heap.size) (by simp; omega) (fun j hj he => by have h : j = brx := he; have := GX.out; omega))
              have hsz3 := k3.size
              simp only [World.size_alloc] at hsz3
              obtain ⟨E, hE⟩ : ∃ E, relE A tn nn = E := ⟨_, rfl⟩
              rw [hE]
              have HE := Lib.hid hE
              have HT2 := Lib.hid (lrel_any bY brY capY A' tn nn _ HY3.out OK.out.2)
              clear h3 k3 hc0 hc1 hc2 hbelA hE hA3 HT
              go_wp2_with fail
              refine HT2.out.mono ?_
              rintro e w4 ⟨rfl, h4, k4⟩
              rw [← agree_relE (n := nn) AG.out, HE.out]
              have HY3 := Lib.hid h4
              have HX3 := Lib.hid (HX3.out.keep k4 (fun e => by have h : bx = brY := e; have := GY.out; have := HLX.out; omega) (fun e => by have h : brx = brY := e; have := GY.out; have := HLX.out; omega))
              have hbel3 := hbel3.trans (k4.below (B := w.heap.size) (by omega) (fun j hj he => by have h : j = brY := he; have := GY.out; omega))
              have hnE : (E != E) = false := by simp
              have OK3 := Lib.hid (show okL (relA A tn nn) ∧ okL (relA A' tn nn) from ⟨relA_ok OK.out.1, relA_ok OK.out.2⟩)
              have AG3 := Lib.hid (agree_relA (n := nn) AG.out)
              clear h4 k4 HT2 hA1 hA2
              generalize relA A tn nn = A3 at *
              generalize relA A' tn nn = A3' at *
              go_wp2_with fail
              refine (lused_any bx brx capx A3 tn _ HX3.out OK3.out.1).mono ?_
              rintro e w4 ⟨rfl, hb4⟩
              have HX4 := Lib.hid (HX3.out.below hb4)
              have HY4 := Lib.hid (HY3.out.below hb4)
              have hbel4 := below_two hbel3 hb4
              go_wp2_with fail
              refine (lused_any bY brY capY A3' tn _ HY4.out OK3.out.2).mono ?_
              rintro e w5 ⟨rfl, hb5⟩
              have HX5 := Lib.hid (HX4.out.below hb5)
              have HY5 := Lib.hid (HY4.out.below hb5)
              have hbel5 := below_two hbel4 hb5
              rw [agree_read AG3.out]
              obtain ⟨RU, hRU⟩ : ∃ RU, readA (fun x => x.2.1) A3' tn = RU := ⟨_, rfl⟩
              rw [hRU]
              have hnU : (RU != RU) = false := by simp
              clear hRU hb4 hb5
              go_wp2_with fail
              refine (lpeak_any bx brx capx A3 tn _ HX5.out OK3.out.1).mono ?_
              rintro e w6 ⟨rfl, hb6⟩
              have HX6 := Lib.hid (HX5.out.below hb6)
              have HY6 := Lib.hid (HY5.out.below hb6)
              have hbel6 := below_two hbel5 hb6
              go_wp2_with fail
              refine (lpeak_any bY brY capY A3' tn _ HY6.out OK3.out.2).mono ?_
              rintro e w7 ⟨rfl, hb7⟩
              have HX7 := Lib.hid (HX6.out.below hb7)
              have HY7 := Lib.hid (HY6.out.below hb7)
              have hbel7 := below_two hbel6 hb7
              rw [agree_read AG3.out]
              obtain ⟨RP, hRP⟩ : ∃ RP, readA (fun x => x.2.2) A3' tn = RP := ⟨_, rfl⟩
              rw [hRP]
              have hnP : (RP != RP) = false := by simp
              clear hRP hb6 hb7
              go_wp2
              go_roundw
              case rel => exact ⟨k + 1, A3, A3', by omega, by go_num, HX7.out, HY7.out, OK3.out, AG3.out, hbel7⟩
              case measure => simp [intOf]; omega
            · have htt : (tn == tenant) = false := by simpa using hmine
              go_wp2_with fail
              refine HT.out.mono ?_
              rintro e w3 ⟨rfl, h3, k3⟩
              have HX3 := Lib.hid h3
              have HY3 := Lib.hid (HYA.out.keep k3 (fun e => by have h : bY = brx := e; have := GY.out; have := HLX.out; omega) (fun e => by have h : brY = brx := e; have := GY.out; have := HLX.out; omega))
              have hbel3 := hbelA.trans (k3.below (B := w.heap.size) (by simp; omega) (fun j hj he => by have h : j = brx := he; have := GX.out; omega))
              have OK3 := Lib.hid (show okL (relA A tn nn) ∧ okL A' from ⟨relA_ok OK.out.1, OK.out.2⟩)
              have AG3 := Lib.hid (agree_relO (n := nn) AG.out hmine)
              clear h3 k3 hc0 hc1 hc2 hbelA hmine HT
              generalize relA A tn nn = A3 at *
              generalize relE A tn nn = E3 at *
              obtain ⟨A3', hA3'⟩ : ∃ A3', A' = A3' := ⟨_, rfl⟩
              rw [hA3'] at HY3 OK3 AG3
              clear hA3'
              go_wp2_with fail
              refine (lused_any bx brx capx A3 tenant _ HX3.out OK3.out.1).mono ?_
              rintro e w4 ⟨rfl, hb4⟩
              have HX4 := Lib.hid (HX3.out.below hb4)
              have HY4 := Lib.hid (HY3.out.below hb4)
              have hbel4 := below_two hbel3 hb4
              go_wp2_with fail
              refine (lused_any bY brY capY A3' tenant _ HY4.out OK3.out.2).mono ?_
              rintro e w5 ⟨rfl, hb5⟩
              have HX5 := Lib.hid (HX4.out.below hb5)
              have HY5 := Lib.hid (HY4.out.below hb5)
              have hbel5 := below_two hbel4 hb5
              rw [agree_read AG3.out]
              obtain ⟨RU, hRU⟩ : ∃ RU, readA (fun x => x.2.1) A3' tenant = RU := ⟨_, rfl⟩
              rw [hRU]
              have hnU : (RU != RU) = false := by simp
              clear hRU hb4 hb5
              go_wp2_with fail
              refine (lpeak_any bx brx capx A3 tenant _ HX5.out OK3.out.1).mono ?_
              rintro e w6 ⟨rfl, hb6⟩
              have HX6 := Lib.hid (HX5.out.below hb6)
              have HY6 := Lib.hid (HY5.out.below hb6)
              have hbel6 := below_two hbel5 hb6
              go_wp2_with fail
              refine (lpeak_any bY brY capY A3' tenant _ HY6.out OK3.out.2).mono ?_
              rintro e w7 ⟨rfl, hb7⟩
              have HX7 := Lib.hid (HX6.out.below hb7)
              have HY7 := Lib.hid (HY6.out.below hb7)
              have hbel7 := below_two hbel6 hb7
              rw [agree_read AG3.out]
              obtain ⟨RP, hRP⟩ : ∃ RP, readA (fun x => x.2.2) A3' tenant = RP := ⟨_, rfl⟩
              rw [hRP]
              have hnP : (RP != RP) = false := by simp
              clear hRP hb6 hb7
              go_wp2
              go_roundw
              case rel => exact ⟨k + 1, A3, A3', by omega, by go_num, HX7.out, HY7.out, OK3.out, AG3.out, hbel7⟩
              case measure => simp [intOf]; omega
          | false =>
            have HT := Lib.hid (lres_any bx brx capx A tn nn _ HXA.out OK.out.1)
            by_cases hmine : tn = tenant
            · subst hmine
              have htt : (tn == tn) = true := by simp
              go_wp2_with fail
              refine HT.out.mono ?_
              rintro e w3 ⟨rfl, h3, k3⟩
              have HX3 := Lib.hid h3
              have HY3 := Lib.hid (HYA.out.keep k3 (fun e => by have h : bY = brx := e; have := GY.out; have := HLX.out; omega) (fun e => by have h : brY = brx := e; have := GY.out; have := HLX.out; omega))
              have hA3 := HAA.out.keep k3 (fun e => by have h : wr.heap.size = brx := e; have := HLR.out; omega)
              have hA1 := hA3.cell (i := 1) (x := Value.int IntKind.i64 tn) rfl
              have hA2 := hA3.cell (i := 2) (x := Value.int IntKind.i64 nn) rfl
              have hbel3 := hbelA.trans (k3.below (B := w.heap.size) (by simp; omega) (fun j hj he => by have h : j = brx := he; have := GX.out; omega))
              have hsz3 := k3.size
              simp only [World.size_alloc] at hsz3
              obtain ⟨E, hE⟩ : ∃ E, resE A tn nn = E := ⟨_, rfl⟩
              rw [hE]
              have HE := Lib.hid hE
              have HT2 := Lib.hid (lres_any bY brY capY A' tn nn _ HY3.out OK.out.2)
              clear h3 k3 hc0 hc1 hc2 hbelA hE hA3 HT
              go_wp2_with fail
              refine HT2.out.mono ?_
              rintro e w4 ⟨rfl, h4, k4⟩
              rw [← agree_resE (n := nn) AG.out, HE.out]
              have HY3 := Lib.hid h4
              have HX3 := Lib.hid (HX3.out.keep k4 (fun e => by have h : bx = brY := e; have := GY.out; have := HLX.out; omega) (fun e => by have h : brx = brY := e; have := GY.out; have := HLX.out; omega))
              have hbel3 := hbel3.trans (k4.below (B := w.heap.size) (by omega) (fun j hj he => by have h : j = brY := he; have := GY.out; omega))
              have hnE : (E != E) = false := by simp
              have OK3 := Lib.hid (show okL (resA A tn nn) ∧ okL (resA A' tn nn) from ⟨resA_ok OK.out.1, resA_ok OK.out.2⟩)
              have AG3 := Lib.hid (agree_resA (n := nn) AG.out)
              clear h4 k4 HT2 hA1 hA2
              generalize resA A tn nn = A3 at *
              generalize resA A' tn nn = A3' at *
              go_wp2_with fail
              refine (lused_any bx brx capx A3 tn _ HX3.out OK3.out.1).mono ?_
              rintro e w4 ⟨rfl, hb4⟩
              have HX4 := Lib.hid (HX3.out.below hb4)
              have HY4 := Lib.hid (HY3.out.below hb4)
              have hbel4 := below_two hbel3 hb4
              go_wp2_with fail
              refine (lused_any bY brY capY A3' tn _ HY4.out OK3.out.2).mono ?_
              rintro e w5 ⟨rfl, hb5⟩
              have HX5 := Lib.hid (HX4.out.below hb5)
              have HY5 := Lib.hid (HY4.out.below hb5)
              have hbel5 := below_two hbel4 hb5
              rw [agree_read AG3.out]
              obtain ⟨RU, hRU⟩ : ∃ RU, readA (fun x => x.2.1) A3' tn = RU := ⟨_, rfl⟩
              rw [hRU]
              have hnU : (RU != RU) = false := by simp
              clear hRU hb4 hb5
              go_wp2_with fail
              refine (lpeak_any bx brx capx A3 tn _ HX5.out OK3.out.1).mono ?_
              rintro e w6 ⟨rfl, hb6⟩
              have HX6 := Lib.hid (HX5.out.below hb6)
              have HY6 := Lib.hid (HY5.out.below hb6)
              have hbel6 := below_two hbel5 hb6
              go_wp2_with fail
              refine (lpeak_any bY brY capY A3' tn _ HY6.out OK3.out.2).mono ?_
              rintro e w7 ⟨rfl, hb7⟩
              have HX7 := Lib.hid (HX6.out.below hb7)
              have HY7 := Lib.hid (HY6.out.below hb7)
              have hbel7 := below_two hbel6 hb7
              rw [agree_read AG3.out]
              obtain ⟨RP, hRP⟩ : ∃ RP, readA (fun x => x.2.2) A3' tn = RP := ⟨_, rfl⟩
              rw [hRP]
              have hnP : (RP != RP) = false := by simp
              clear hRP hb6 hb7
              go_wp2
              go_roundw
              case rel => exact ⟨k + 1, A3, A3', by omega, by go_num, HX7.out, HY7.out, OK3.out, AG3.out, hbel7⟩
              case measure => simp [intOf]; omega
            · have htt : (tn == tenant) = false := by simpa using hmine
              go_wp2_with fail
              refine HT.out.mono ?_
              rintro e w3 ⟨rfl, h3, k3⟩
              have HX3 := Lib.hid h3
              have HY3 := Lib.hid (HYA.out.keep k3 (fun e => by have h : bY = brx := e; have := GY.out; have := HLX.out; omega) (fun e => by have h : brY = brx := e; have := GY.out; have := HLX.out; omega))
              have hbel3 := hbelA.trans (k3.below (B := w.heap.size) (by simp; omega) (fun j hj he => by have h : j = brx := he; have := GX.out; omega))
              have OK3 := Lib.hid (show okL (resA A tn nn) ∧ okL A' from ⟨resA_ok OK.out.1, OK.out.2⟩)
              have AG3 := Lib.hid (agree_resO (n := nn) AG.out hmine)
              clear h3 k3 hc0 hc1 hc2 hbelA hmine HT
              generalize resA A tn nn = A3 at *
              generalize resE A tn nn = E3 at *
              obtain ⟨A3', hA3'⟩ : ∃ A3', A' = A3' := ⟨_, rfl⟩
              rw [hA3'] at HY3 OK3 AG3
              clear hA3'
              go_wp2_with fail
              refine (lused_any bx brx capx A3 tenant _ HX3.out OK3.out.1).mono ?_
              rintro e w4 ⟨rfl, hb4⟩
              have HX4 := Lib.hid (HX3.out.below hb4)
              have HY4 := Lib.hid (HY3.out.below hb4)
              have hbel4 := below_two hbel3 hb4
              go_wp2_with fail
              refine (lused_any bY brY capY A3' tenant _ HY4.out OK3.out.2).mono ?_
              rintro e w5 ⟨rfl, hb5⟩
              have HX5 := Lib.hid (HX4.out.below hb5)
              have HY5 := Lib.hid (HY4.out.below hb5)
              have hbel5 := below_two hbel4 hb5
              rw [agree_read AG3.out]
              obtain ⟨RU, hRU⟩ : ∃ RU, readA (fun x => x.2.1) A3' tenant = RU := ⟨_, rfl⟩
              rw [hRU]
              have hnU : (RU != RU) = false := by simp
              clear hRU hb4 hb5
              go_wp2_with fail
              refine (lpeak_any bx brx capx A3 tenant _ HX5.out OK3.out.1).mono ?_
              rintro e w6 ⟨rfl, hb6⟩
              have HX6 := Lib.hid (HX5.out.below hb6)
              have HY6 := Lib.hid (HY5.out.below hb6)
              have hbel6 := below_two hbel5 hb6
              go_wp2_with fail
              refine (lpeak_any bY brY capY A3' tenant _ HY6.out OK3.out.2).mono ?_
              rintro e w7 ⟨rfl, hb7⟩
              have HX7 := Lib.hid (HX6.out.below hb7)
              have HY7 := Lib.hid (HY6.out.below hb7)
              have hbel7 := below_two hbel6 hb7
              rw [agree_read AG3.out]
              obtain ⟨RP, hRP⟩ : ∃ RP, readA (fun x => x.2.2) A3' tenant = RP := ⟨_, rfl⟩
              rw [hRP]
              have hnP : (RP != RP) = false := by simp
              clear hRP hb6 hb7
              go_wp2
              go_roundw
              case rel => exact ⟨k + 1, A3, A3', by omega, by go_num, HX7.out, HY7.out, OK3.out, AG3.out, hbel7⟩
              case measure => simp [intOf]; omega
        · obtain rfl : k = l.length := by omega
          go_wp2_with fail
          refine (ten_any _).mono ?_
          rintro e w5 ⟨rfl, hb5⟩
          have hb := below_two hbel hb5
          go_wp2
          go_ret
          exact ⟨rfl, hb⟩
    | false =>
      have HLIM := Lib.hid hlim
      have hll : (l.length : Int) ≤ 60 := by omega
      clear hlim
      go_enter Try.func6, Try.ntmps6
      go_wp2_with fail
      refine (limits_any _ L _ HV.out).mono ?_
      rintro e w1 ⟨rfl, rfl⟩
      rw [HLIM.out]
      go_wp2_with fail
      refine (ten_any _).mono ?_
      rintro e w5 ⟨rfl, hb5⟩
      go_wp2
      go_ret
      exact ⟨rfl, hb5⟩
  · have hll : (60 : Int) < (l.length : Int) := by omega
    go_enter Try.func6, Try.ntmps6
    go_wp2_with fail
    refine (ten_any _).mono ?_
    rintro e w5 ⟨rfl, hb5⟩
    go_wp2
    go_ret
    exact ⟨rfl, hb5⟩

theorem ltenants_any (b br cap : Nat) (A : List Acc) (w : World) (h : LedgerAt w b br cap A) :
    Calls Try.prog 50 #[.pointer (some ⟨b, 0, none⟩)] w fun e w' => e = .returned (.int .i64 A.length) ∧ w = w' := by
  have hc := h.box.cell (i := 0) (x := .slice (some ⟨br, 0, none⟩) A.length cap) rfl
  have h16 := h.n16
  clear h
  go_enter Try.func50, Try.ntmps50
  go_wp2
  go_ret
  exact ⟨rfl, rfl⟩
theorem ltenants_nil (w : World) : Calls Try.prog 50 #[.pointer none] w fun e w' => e = .returned (.int .i64 0) ∧ w = w' := by
  go_enter Try.func50, Try.ntmps50
  go_wp2
  go_ret
  exact ⟨rfl, rfl⟩

set_option maxRecDepth 100000 in
set_option maxHeartbeats 1000000 in
theorem lawLedgerNil {tenant n : Int} {w : World} (ht1 : -9223372036854775808 ≤ tenant) (ht2 : tenant ≤ 9223372036854775807) (hn1 : -9223372036854775808 ≤ n) (hn2 : n ≤ 9223372036854775807) :
    Calls Try.prog 12 #[.int .i64 tenant, .int .i64 n] w fun e w' => e = .returned (.bool true) ∧ Below w.heap.size w w' := by
  go_enter Try.func12, Try.ntmps12
  go_wp2_with fail
  refine (lnew_ok _ [5] _ (rints_new w [5] _ 1 _ _ rfl rfl rfl (by decide) (by decide)) (by decide) (by decide) (by decide)).mono ?_
  rintro e w1 ⟨b, rfl, br, cap, h1, hb1, g1, g2⟩
  have hbw := below_two (below_alloc w _) hb1
  have G := Lib.hid (show w.heap.size ≤ b ∧ w.heap.size ≤ br by simp at g1 g2; omega)
  have H := Lib.hid h1
  have OK := Lib.hid (newA_ok (show mayL [5] = true by decide))
  clear hb1 g1 g2 h1
  go_wp2_with fail
  refine (lres_nil _ _ _).mono ?_
  rintro e w2 ⟨rfl, rfl⟩
  go_wp2_with fail
  refine (lrel_nil _ _ _).mono ?_
  rintro e w2 ⟨rfl, rfl⟩
  go_wp2_with fail
  refine (lused_nil _ _).mono ?_
  rintro e w2 ⟨rfl, rfl⟩
  go_wp2_with fail
  refine (lleft_nil _ _).mono ?_
  rintro e w2 ⟨rfl, rfl⟩
  go_wp2_with fail
  refine (lpeak_nil _ _).mono ?_
  rintro e w2 ⟨rfl, rfl⟩
  go_wp2_with fail
  refine (llimit_nil _ _).mono ?_
  rintro e w2 ⟨rfl, rfl⟩
  go_wp2_with fail
  refine (ltenants_nil _).mono ?_
  rintro e w2 ⟨rfl, rfl⟩
  by_cases h0 : tenant = 0
  · subst h0
    go_wp2_with fail
    refine (llimit_any b br cap (newA [5]) 0 _ H.out OK.out).mono ?_
    rintro e w3 ⟨rfl, hb3⟩
    have hbw := below_two hbw hb3
    have e1 : readA (fun x => x.1) (newA [5]) 0 = 5 := by decide
    rw [e1]
    clear e1 hb3
    go_wp2_with fail
    refine (ten_any _).mono ?_
    rintro e w6 ⟨rfl, hb6⟩
    have hbw := below_two hbw hb6
    go_wp2
    go_ret
    exact ⟨rfl, hbw⟩
  · have hne : (tenant == 0) = false := by simpa using h0
    have hin : inA tenant (newA [5]) = false := by
      unfold inA newA
      simp
      omega
    have HIN := Lib.hid hin
    clear h0 hin
    go_wp2_with fail
    refine (lres_any b br cap (newA [5]) tenant n _ H.out OK.out).mono ?_
    rintro e w3 ⟨rfl, h3, k3⟩
    rw [resE_in HIN.out]
    have e1 : resA (newA [5]) tenant n = newA [5] := resA_no (by rw [resE_in HIN.out]; decide)
    rw [e1] at h3
    have H := Lib.hid h3
    have hbw := hbw.trans (k3.below (B := w.heap.size) hbw.size (fun j hj he => by have h : j = br := he; have := G.out; omega))
    clear h3 k3 e1
    go_wp2_with fail
    refine (lrel_any b br cap (newA [5]) tenant n _ H.out OK.out).mono ?_
    rintro e w3 ⟨rfl, h3, k3⟩
    rw [relE_in HIN.out]
    have e1 : relA (newA [5]) tenant n = newA [5] := relA_no (by rw [relE_in HIN.out]; decide)
    rw [e1] at h3
    have H := Lib.hid h3
    have hbw := hbw.trans (k3.below (B := w.heap.size) hbw.size (fun j hj he => by have h : j = br := he; have := G.out; omega))
    clear h3 k3 e1
    go_wp2_with fail
    refine (lused_any b br cap (newA [5]) tenant _ H.out OK.out).mono ?_
    rintro e w4 ⟨rfl, hb4⟩
    rw [readA_no HIN.out]
    have H := Lib.hid (H.out.below hb4)
    have hbw := below_two hbw hb4
    clear hb4
    go_wp2_with fail
    refine (lleft_any b br cap (newA [5]) tenant _ H.out OK.out).mono ?_
    rintro e w4 ⟨rfl, hb4⟩
    rw [readA_no HIN.out]
    have H := Lib.hid (H.out.below hb4)
    have hbw := below_two hbw hb4
    clear hb4
    go_wp2_with fail
    refine (lpeak_any b br cap (newA [5]) tenant _ H.out OK.out).mono ?_
    rintro e w4 ⟨rfl, hb4⟩
    rw [readA_no HIN.out]
    have H := Lib.hid (H.out.below hb4)
    have hbw := below_two hbw hb4
    clear hb4
    go_wp2_with fail
    refine (llimit_any b br cap (newA [5]) tenant _ H.out OK.out).mono ?_
    rintro e w4 ⟨rfl, hb4⟩
    rw [readA_no HIN.out]
    have H := Lib.hid (H.out.below hb4)
    have hbw := below_two hbw hb4
    clear hb4
    go_wp2_with fail
    refine (ten_any _).mono ?_
    rintro e w7 ⟨rfl, hb7⟩
    have hbw := below_two hbw hb7
    go_wp2
    go_ret
    exact ⟨rfl, hbw⟩

theorem act27_hel {H : Type} {en : TypeId × Value → H} {w : World} (n : Nat) (cs : List Value) (y : DataW H × List MemPlace)
    (h : DataW.trod en Try.prog w 0 (fun _ => true) true n 43 cs = some y) : ∃ x, cs = encL x ∧ goodL x := by
  have c0 : Try.prog.cellsOf 4 = 1 := by kernel_rfl
  have c1 : Try.prog.cellsOf 3 = 1 := by kernel_rfl
  have c2 : Try.prog.cellsOf 43 = 3 := by kernel_rfl
  obtain ⟨xs, m, _, _, hlen, hxl, hf⟩ := DataW.trod_struct Try.underlying43 h
  rw [c2] at hlen
  have hx3 : xs.length = 3 := hxl
  obtain ⟨_, f0⟩ := fld hf 0 _ rfl 4 0 rfl rfl c0 (by omega)
  obtain ⟨_, f1⟩ := fld hf 1 _ rfl 3 1 rfl rfl c1 (by omega)
  obtain ⟨_, f2⟩ := fld hf 2 _ rfl 3 2 rfl rfl c1 (by omega)
  obtain ⟨b, hb, _⟩ := DataW.trod_bool Try.underlying4 f0
  obtain ⟨t, ht, _, wt⟩ := DataW.trod_int Try.underlying3 f1
  obtain ⟨k, hk, _, wk⟩ := DataW.trod_int Try.underlying3 f2
  exact ⟨(b, t, k), list3 hlen (cells_one hb) (cells_one ht) (cells_one hk), wf64 wt, wf64 wk⟩
end Go.Proofs.Ytfphdcfbkknpbaa

/- The laws WindowApart and WindowNil walked. -/
import Derived.Test.YtfphdcfbkknpbaaWinE
namespace Go.Proofs.Ytfphdcfbkknpbaa
open Go.RowKit

theorem getD_set_same {l : List Int} {i : Nat} {x : Int} (h : i < l.length) : (l.set i x).getD i 0 = x := by
  rw [List.getD_eq_getElem?_getD, List.getElem?_set, if_pos rfl, if_pos h]
  rfl
theorem getD_set_other {l : List Int} {i j : Nat} {x : Int} (h : i ≠ j) : (l.set i x).getD j 0 = l.getD j 0 := by
  rw [List.getD_eq_getElem?_getD, List.getD_eq_getElem?_getD, List.getElem?_set, if_neg h]
theorem leftL_in {Q C : List Int} {t : Int} (h : isIn t Q = true) : leftL Q C t = Q.getD t.toNat 0 - C.getD t.toNat 0 := by unfold leftL; rw [if_pos h]
theorem totalL_in {Q T : List Int} {t : Int} (h : isIn t Q = true) : totalL Q T t = T.getD t.toNat 0 := by unfold totalL; rw [if_pos h]
theorem left_tick {Q S S' : List Int} {span n t : Int} (hl : S.length = S'.length) (h : leftL Q S t = leftL Q S' t) : leftL Q (tickC span n S) t = leftL Q (tickC span n S') t := by
  unfold tickC
  split
  · rw [hl]
  · exact h
theorem chargeE_same {Q S S' : List Int} {t n : Int} (h : leftL Q S t = leftL Q S' t) : chargeE Q S t n = chargeE Q S' t n := by unfold chargeE; rw [h]
theorem left_charge_same {Q S S' : List Int} {t n : Int} (h1 : S.length = Q.length) (h2 : S'.length = Q.length) (h : leftL Q S t = leftL Q S' t) : leftL Q (chargeC Q S t n) t = leftL Q (chargeC Q S' t n) t := by
  unfold chargeC
  rw [chargeE_same (n := n) h]
  split
  · rename_i h0
    obtain ⟨hin, _⟩ := chargeE_zero h0
    obtain ⟨k, rfl, hk⟩ := isIn_yes hin
    rw [leftL_in hin, leftL_in hin] at h ⊢
    rw [Int.toNat_natCast] at h ⊢
    rw [getD_set_same (by omega), getD_set_same (by omega)]
    omega
  · exact h
theorem total_charge_same {Q S S' T T' : List Int} {t n : Int} (h1 : T.length = Q.length) (h2 : T'.length = Q.length) (h : leftL Q S t = leftL Q S' t) (h3 : totalL Q T t = totalL Q T' t) :
    totalL Q (chargeT Q S T t n) t = totalL Q (chargeT Q S' T' t n) t := by
  unfold chargeT
  rw [chargeE_same (n := n) h]
  split
  · rename_i h0
    obtain ⟨hin, _⟩ := chargeE_zero h0
    obtain ⟨k, rfl, hk⟩ := isIn_yes hin
    rw [totalL_in hin, totalL_in hin] at h3 ⊢
    rw [Int.toNat_natCast] at h3 ⊢
    rw [getD_set_same (by omega), getD_set_same (by omega), h3]
  · exact h3
theorem left_charge_other {Q S : List Int} {t u n : Int} (h : ¬ u = t) : leftL Q (chargeC Q S u n) t = leftL Q S t := by
  unfold chargeC
  split
  · rename_i h0
    obtain ⟨hin, _⟩ := chargeE_zero h0
    obtain ⟨k, rfl, hk⟩ := isIn_yes hin
    unfold leftL
    split
    · rename_i hit
      obtain ⟨j, rfl, hj⟩ := isIn_yes hit
      rw [Int.toNat_natCast, Int.toNat_natCast, getD_set_other (by omega)]
    · rfl
  · rfl
theorem total_charge_other {Q S T : List Int} {t u n : Int} (h : ¬ u = t) : totalL Q (chargeT Q S T u n) t = totalL Q T t := by
  unfold chargeT
  split
  · rename_i h0
    obtain ⟨hin, _⟩ := chargeE_zero h0
    obtain ⟨k, rfl, hk⟩ := isIn_yes hin
    unfold totalL
    split
    · rename_i hit
      obtain ⟨j, rfl, hj⟩ := isIn_yes hit
      rw [Int.toNat_natCast, Int.toNat_natCast, getD_set_other (by omega)]
    · rfl
  · rfl

def Own2 (Q S T : List Int) : Prop := within Q S ∧ small T ∧ S.length = Q.length ∧ T.length = Q.length
theorem Own2.charge {Q S T : List Int} (h : Own2 Q S T) (t n : Int) : Own2 Q (chargeC Q S t n) (chargeT Q S T t n) :=
  ⟨within_charge h.1 h.2.2.1, small_chargeT h.2.1, by rw [chargeC_len]; exact h.2.2.1, by rw [chargeT_len]; exact h.2.2.2⟩
theorem Own2.tick {Q S T : List Int} (h : Own2 Q S T) (hm : mayL Q = true) (span n : Int) : Own2 Q (tickC span n S) T :=
  ⟨tickC_within h.1 hm, h.2.1, by rw [tickC_len]; exact h.2.2.1, h.2.2.2⟩
theorem Own2.sm {Q S T : List Int} (h : Own2 Q S T) (hm : mayL Q = true) : small S := within_small h.1 h.2.2.1 hm

/-- two meters lie apart: the parts that never move -/
structure Sep0 (B c : Nat) (mx my : MB) : Prop where
  x1 : mx.b < c
  x2 : mx.bq < c
  x3 : mx.bt < c
  y1 : c ≤ my.b
  y2 : c ≤ my.bq
  y3 : c ≤ my.bt
  b1 : B ≤ mx.b
  b2 : B ≤ mx.bq
  b3 : B ≤ mx.bt
  b4 : B ≤ c
/-- .. and the rows that are made anew -/
structure SepD (B : Nat) (mx my : MB) (bcx bcy : Nat) : Prop where
  b1 : B ≤ bcx
  b2 : B ≤ bcy
  x1 : bcx ≠ my.b
  x2 : bcx ≠ my.bq
  xy : bcx ≠ bcy
  x4 : bcx ≠ my.bt
  y1 : bcy ≠ mx.b
  y2 : bcy ≠ mx.bq
  y4 : bcy ≠ mx.bt
theorem sep_xy {B c : Nat} {mx my : MB} {bcx bcy : Nat} (h : Sep0 B c mx my) (d : SepD B mx my bcx bcy) {w w' : World} {span n : Int} {Q S T : List Int}
    (hm : MeterAt w { my with bc := bcy } span n Q S T) (k : Keep (fun j => j = bcx ∨ j = mx.bt) w w') : MeterAt w' { my with bc := bcy } span n Q S T := by
  have x3 := h.x3; have y1 := h.y1; have y2 := h.y2; have y3 := h.y3
  refine hm.keep k (fun e => ?_) (fun e => ?_) (fun e => ?_) (fun e => ?_)
  · rcases e with e | e
    · exact d.x1 e.symm
    · have e' : my.b = mx.bt := e; omega
  · rcases e with e | e
    · exact d.x2 e.symm
    · have e' : my.bq = mx.bt := e; omega
  · rcases e with e | e
    · exact d.xy e.symm
    · exact d.y4 e
  · rcases e with e | e
    · exact d.x4 e.symm
    · have e' : my.bt = mx.bt := e; omega
theorem sep_yx {B c : Nat} {mx my : MB} {bcx bcy : Nat} (h : Sep0 B c mx my) (d : SepD B mx my bcx bcy) {w w' : World} {span n : Int} {Q S T : List Int}
    (hm : MeterAt w { mx with bc := bcx } span n Q S T) (k : Keep (fun j => j = bcy ∨ j = my.bt) w w') : MeterAt w' { mx with bc := bcx } span n Q S T := by
  have x1 := h.x1; have x2 := h.x2; have x3 := h.x3; have y3 := h.y3
  refine hm.keep k (fun e => ?_) (fun e => ?_) (fun e => ?_) (fun e => ?_)
  · rcases e with e | e
    · exact d.y1 e.symm
    · have e' : mx.b = my.bt := e; omega
  · rcases e with e | e
    · exact d.y2 e.symm
    · have e' : mx.bq = my.bt := e; omega
  · rcases e with e | e
    · exact d.xy e
    · exact d.x4 e
  · rcases e with e | e
    · exact d.y4 e.symm
    · have e' : mx.bt = my.bt := e; omega
theorem sep_tx {B c : Nat} {mx my : MB} {bcx bcy : Nat} (h : Sep0 B c mx my) (d : SepD B mx my bcx bcy) {w w' : World} {span n : Int} {Q S T : List Int}
    (hm : MeterAt w { my with bc := bcy } span n Q S T) (k : Keep (fun j => j = mx.b) w w') : MeterAt w' { my with bc := bcy } span n Q S T := by
  have x1 := h.x1; have y1 := h.y1; have y2 := h.y2; have y3 := h.y3
  refine hm.keep k (fun e => ?_) (fun e => ?_) (fun e => ?_) (fun e => ?_)
  · have e' : my.b = mx.b := e; omega
  · have e' : my.bq = mx.b := e; omega
  · exact d.y1 e
  · have e' : my.bt = mx.b := e; omega
theorem sep_ty {B c : Nat} {mx my : MB} {bcx bcy : Nat} (h : Sep0 B c mx my) (d : SepD B mx my bcx bcy) {w w' : World} {span n : Int} {Q S T : List Int}
    (hm : MeterAt w { mx with bc := bcx } span n Q S T) (k : Keep (fun j => j = my.b) w w') : MeterAt w' { mx with bc := bcx } span n Q S T := by
  have x1 := h.x1; have x2 := h.x2; have x3 := h.x3; have y1 := h.y1
  refine hm.keep k (fun e => ?_) (fun e => ?_) (fun e => ?_) (fun e => ?_)
  · have e' : mx.b = my.b := e; omega
  · have e' : mx.bq = my.b := e; omega
  · exact d.x1 e
  · have e' : mx.bt = my.b := e; omega
/-- a fresh row of the first meter -/
theorem SepD.newx {B : Nat} {mx my : MB} {bcx bcy bx3 z : Nat} (d : SepD B mx my bcx bcy) (hB : B ≤ z) (hf : bx3 = bcx ∨ z ≤ bx3) (h1 : my.b < z) (h2 : my.bq < z) (h3 : bcy < z) (h4 : my.bt < z) : SepD B mx my bx3 bcy := by
  rcases hf with rfl | hf
  · exact d
  · exact ⟨by omega, d.b2, by omega, by omega, by omega, by omega, d.y1, d.y2, d.y4⟩
theorem SepD.newy {B : Nat} {mx my : MB} {bcx bcy by3 z : Nat} (d : SepD B mx my bcx bcy) (hB : B ≤ z) (hf : by3 = bcy ∨ z ≤ by3) (h1 : mx.b < z) (h2 : mx.bq < z) (h3 : bcx < z) (h4 : mx.bt < z) : SepD B mx my bcx by3 := by
  rcases hf with rfl | hf
  · exact d
  · exact ⟨d.b1, by omega, d.x1, d.x2, by omega, d.x4, by omega, by omega, by omega⟩
theorem MeterAt.lts {w : World} {m : MB} {span at_ : Int} {Q C T : List Int} (h : MeterAt w m span at_ Q C T) : m.b < w.heap.size ∧ m.bq < w.heap.size ∧ m.bc < w.heap.size ∧ m.bt < w.heap.size :=
  ⟨by obtain ⟨_, hb, _⟩ := h.box; exact hb.lt, h.lq, h.blc.lt, h.blt.lt⟩

set_option maxRecDepth 100000 in
set_option maxHeartbeats 1000000 in
theorem lawWindowApart {span tenant : Int} {v va : Value} {Q : List Int} {l : List (Bool × Int × Int)} {w : World} (hs1 : -9223372036854775808 ≤ span) (hs2 : span ≤ 9223372036854775807) (ht1 : -9223372036854775808 ≤ tenant) (ht2 : tenant ≤ 9223372036854775807)
    (hv : RInts w v Q) (hva : RS w va l encA 3 goodA) :
    Calls Try.prog 4 #[.agg #[.int .i64 span, .int .i64 tenant], v, va] w fun e w' => e = .returned (.bool true) ∧ Below w.heap.size w w' := by
  have HV := Lib.hid hv
  have HA := Lib.hid hva
  obtain ⟨a, cap, rfl, hc1, hc2⟩ := hv.shape
  obtain ⟨a2, cap2, rfl, hc3, hc4⟩ := hva.shape
  clear hv hva
  have hal0 := below_alloc w (Obj.cells #[Value.int IntKind.i64 span, Value.int IntKind.i64 tenant] 34)
  have HV0 := Lib.hid (HV.out.below hal0)
  by_cases hl : l.length ≤ 60
  · cases hmay : mayM span Q with
    | true =>
      have HMAY := Lib.hid hmay
      obtain ⟨p1, p2, p3, p4, p5⟩ := mayM_yes hmay
      have HP5 := Lib.hid p5
      have hll : (l.length : Int) ≤ 60 := by omega
      clear hmay p5
      go_enter Try.func4, Try.ntmps4
      go_wp2_with fail
      refine (maym_any _ _ Q _ HV0.out).mono ?_
      rintro e w1 ⟨rfl, rfl⟩
      rw [HMAY.out]
      go_wp2_with fail
      refine (wnew_ok _ Q span _ HV0.out p1 p2 p3 p4 HP5.out).mono ?_
      rintro e w1 ⟨bx, rfl, mx, rfl, hm1, hb1, g1, g2, g3, g4⟩
      have HX1 := Lib.hid hm1
      have HV1 := Lib.hid (HV0.out.below hb1)
      have GX := Lib.hid (show w.heap.size ≤ mx.b ∧ w.heap.size ≤ mx.bq ∧ w.heap.size ≤ mx.bc ∧ w.heap.size ≤ mx.bt by simp at g1 g2 g3 g4; omega)
      have HSX := Lib.hid HX1.out.lts
      have hbw1 := below_two hal0 hb1
      clear hm1 g1 g2 g3 g4 hb1
      go_wp2_with fail
      refine (wnew_ok _ Q span _ HV1.out p1 p2 p3 p4 HP5.out).mono ?_
      rintro e w2 ⟨bY, rfl, my, rfl, hm1, hb1, g1, g2, g3, g4⟩
      have HY2 := Lib.hid hm1
      have HX2 := Lib.hid (HX1.out.below hb1)
      have GY := Lib.hid (show w1.heap.size ≤ my.b ∧ w1.heap.size ≤ my.bq ∧ w1.heap.size ≤ my.bc ∧ w1.heap.size ≤ my.bt from ⟨g1, g2, g3, g4⟩)
      have hbw2 := below_two hbw1 hb1
      have hsz1 := hbw1.size
      have HXY := Lib.hid (show Sep0 w.heap.size w1.heap.size mx my from
        ⟨HSX.out.1, HSX.out.2.1, HSX.out.2.2.2, GY.out.1, GY.out.2.1, GY.out.2.2.2, GX.out.1, GX.out.2.1, GX.out.2.2.2, hsz1⟩)
      clear hm1 g1 g2 g3 g4 hb1 hbw1 HX1
      go_wp2
      go_loopw [14, 15, 44] (fun pa g i wr => ∃ (k n bcx bcy : Nat) (S T S' T' : List Int), k ≤ l.length ∧ i = .int .i64 k ∧ n ≤ k ∧
          Hid (MeterAt wr { mx with bc := bcx } span n Q S T) ∧ Hid (MeterAt wr { my with bc := bcy } span n Q S' T') ∧ Hid (Own2 Q S T ∧ Own2 Q S' T') ∧
          Hid (leftL Q S tenant = leftL Q S' tenant ∧ totalL Q T tenant = totalL Q T' tenant) ∧
          Hid (SepD w.heap.size mx my bcx bcy) ∧ Below w.heap.size w wr)
        (fun _ _ i _ => l.length - (intOf i).toNat)
      case atStart =>
        have h0 : Own2 Q (List.replicate Q.length 0) (List.replicate Q.length 0) := ⟨within_zeros HP5.out _, small_zeros _, by simp, by simp⟩
        refine ⟨0, 0, mx.bc, my.bc, _, _, _, _, Nat.zero_le _, rfl, Nat.le_refl _, HX2.out, HY2.out, ⟨h0, h0⟩, ⟨rfl, rfl⟩, ?_, hbw2⟩
        have := GX.out; have := GY.out; have := HSX.out
        exact ⟨by omega, by omega, by omega, by omega, by omega, by omega, by omega, by omega, by omega⟩
      case round =>
        obtain ⟨k, n, bcx, bcy, S, T, S', T', hk, rfl, hnk, HX, HY, HW, HE, HD, hbel⟩ := hrel
        by_cases hlt : k < l.length
        · obtain ⟨b2, off2, x, rfl, hbb2, hx, hgx, hcx⟩ := (HA.out.below hbel).at hlt
          obtain ⟨tk, tn, nn⟩ := x
          have hc0 : wr.cell? ⟨b2, off2 + k * 3, none⟩ = some (.bool tk) := hcx 0 _ rfl
          have hc1 : wr.cell? ⟨b2, off2 + k * 3 + 1, none⟩ = some (.int .i64 tn) := hcx 1 _ rfl
          have hc2 : wr.cell? ⟨b2, off2 + k * 3 + 2, none⟩ = some (.int .i64 nn) := hcx 2 _ rfl
          obtain ⟨⟨q1, q2⟩, q3, q4⟩ := hgx
          have hkl : (k : Int) < (l.length : Int) := by omega
          clear hx hcx
          have hal := below_alloc wr (Obj.cells #[Value.bool tk, Value.int IntKind.i64 tn, Value.int IntKind.i64 nn] 31)
          have hbelA := hbel.alloc (by have := hbel.size; omega) (Obj.cells #[Value.bool tk, Value.int IntKind.i64 tn, Value.int IntKind.i64 nn] 31)
          have hA : Blk (wr.alloc (Obj.cells #[Value.bool tk, Value.int IntKind.i64 tn, Value.int IntKind.i64 nn] 31)) wr.heap.size [Value.bool tk, Value.int IntKind.i64 tn, Value.int IntKind.i64 nn] 31 := Blk.new wr _ _
          have HXA := Lib.hid (HX.out.below hal)
          have HYA := Lib.hid (HY.out.below hal)
          have HSL := Lib.hid (show (mx.b < wr.heap.size ∧ mx.bq < wr.heap.size ∧ bcx < wr.heap.size ∧ mx.bt < wr.heap.size) ∧ (my.b < wr.heap.size ∧ my.bq < wr.heap.size ∧ bcy < wr.heap.size ∧ my.bt < wr.heap.size) from ⟨HX.out.lts, HY.out.lts⟩)
          have hszw := hbel.size
          clear hal
          cases tk with
          | true =>
            clear hA
            have HT := Lib.hid (wtick_any { mx with bc := bcx } span n Q S T _ HXA.out p1 (by omega) (by omega))
            unfold MB.ptr at HT
            go_wp2_with fail
            refine HT.out.mono ?_
            rintro e w3 ⟨bx3, rfl, hm3, k3, hf3⟩
            have hf3' : bx3 = bcx ∨ wr.heap.size + 1 ≤ bx3 := by simpa using hf3
            have HX3 := Lib.hid hm3
            have HY3 := Lib.hid (sep_tx HXY.out HD.out HYA.out k3)
            have hbel3 := hbelA.trans (k3.below (B := w.heap.size) (by simp; omega) (fun j hj he => by have h : j = mx.b := he; have := HXY.out.b1; omega))
            have HSZ3 := Lib.hid (show wr.heap.size + 1 ≤ w3.heap.size by have := k3.size; simpa using this)
            have HF3 := Lib.hid hf3'
            have HD3 := Lib.hid (HD.out.newx (z := wr.heap.size + 1) (by omega) hf3' (by have := HSL.out.2.1; omega) (by have := HSL.out.2.2.1; omega) (by have := HSL.out.2.2.2.1; omega) (by have := HSL.out.2.2.2.2; omega))
            have HL3 := Lib.hid HX3.out.lts
            clear HT hm3 k3 hf3 hf3' hc0 hc1 hc2 hbelA
            have HT := Lib.hid (wtick_any { my with bc := bcy } span n Q S' T' _ HY3.out p1 (by omega) (by omega))
            unfold MB.ptr at HT
            go_wp2_with fail
            refine HT.out.mono ?_
            rintro e w4 ⟨by4, rfl, hm4, k4, hf4⟩
            have hf4' : by4 = bcy ∨ w3.heap.size ≤ by4 := hf4
            have HY9 := Lib.hid hm4
            have HX9 := Lib.hid (sep_ty HXY.out HD3.out HX3.out k4)
            have hbel9 := hbel3.trans (k4.below (B := w.heap.size) (by have := HSZ3.out; omega) (fun j hj he => by have h : j = my.b := he; have := HXY.out.y1; have := HXY.out.b4; omega))
            have HW9 := Lib.hid (show Own2 Q (tickC span n S) T ∧ Own2 Q (tickC span n S') T' from ⟨HW.out.1.tick HP5.out span n, HW.out.2.tick HP5.out span n⟩)
            have HS9 := Lib.hid (show small (tickC span n S) ∧ small (tickC span n S') from ⟨HW9.out.1.sm HP5.out, HW9.out.2.sm HP5.out⟩)
            have HE9 := Lib.hid (show leftL Q (tickC span n S) tenant = leftL Q (tickC span n S') tenant ∧ totalL Q T tenant = totalL Q T' tenant from
              ⟨left_tick (by rw [HW.out.1.2.2.1, HW.out.2.2.2.1]) HE.out.1, HE.out.2⟩)
            have HD9 := Lib.hid (HD3.out.newy (z := w3.heap.size) (by have := HSZ3.out; omega) hf4' HL3.out.1 HL3.out.2.1 HL3.out.2.2.1 HL3.out.2.2.2)
            clear HT hm4 k4 hf4 hf4' hbel3

            go_wp2_with fail
            refine (wleft_any { mx with bc := bx3 } span (n + 1) tenant Q (tickC span n S) T _ HX9.out HS9.out.1).mono ?_
            rintro e w7 ⟨rfl, hd7⟩
            have HY9 := Lib.hid (HY9.out.below (below_drawn hd7))
            have HX9 := Lib.hid (HX9.out.below (below_drawn hd7))
            have hbel9 := below_two hbel9 (below_drawn hd7)
            clear hd7
            go_wp2_with fail
            refine (wleft_any { my with bc := by4 } span (n + 1) tenant Q (tickC span n S') T' _ HY9.out HS9.out.2).mono ?_
            rintro e w8 ⟨rfl, hd8⟩
            have HY9 := Lib.hid (HY9.out.below (below_drawn hd8))
            have HX9 := Lib.hid (HX9.out.below (below_drawn hd8))
            have hbel9 := below_two hbel9 (below_drawn hd8)
            rw [HE9.out.1]
            clear hd8
            obtain ⟨LL, hLL⟩ : ∃ LL, leftL Q (tickC span n S') tenant = LL := ⟨_, rfl⟩
            rw [hLL]
            have hnLL : (LL != LL) = false := by simp
            clear hLL
            go_wp2_with fail
            refine (wtotal_any { mx with bc := bx3 } span (n + 1) tenant Q (tickC span n S) T _ HX9.out).mono ?_
            rintro e w9 ⟨rfl, rfl⟩
            go_wp2_with fail
            refine (wtotal_any { my with bc := by4 } span (n + 1) tenant Q (tickC span n S') T' _ HY9.out).mono ?_
            rintro e w9 ⟨rfl, rfl⟩
            rw [HE9.out.2]
            obtain ⟨LT, hLT⟩ : ∃ LT, totalL Q T' tenant = LT := ⟨_, rfl⟩
            rw [hLT]
            have hnLT : (LT != LT) = false := by simp
            clear hLT
            go_wp2
            go_roundw
            case rel => exact ⟨k + 1, n + 1, bx3, by4, (tickC span n S), T, (tickC span n S'), T', by omega, by go_num, by omega, HX9.out, HY9.out, HW9.out, HE9.out, HD9.out, hbel9⟩
            case measure => simp [intOf]; omega
          | false =>
            have HT := Lib.hid (wcharge_any { mx with bc := bcx } span n tn nn Q S T _ HXA.out (HW.out.1.sm HP5.out) HW.out.1.2.1)
            unfold MB.ptr at HT
            go_wp2_with fail
            refine HT.out.mono ?_
            rintro e w3 ⟨rfl, hm3, k3⟩
            have HX3 := Lib.hid hm3
            have HY3 := Lib.hid (sep_xy HXY.out HD.out HYA.out k3)
            have hA3 := hA.keep k3 (fun e => by have h : wr.heap.size = bcx ∨ wr.heap.size = mx.bt := e; have := HSL.out.1; omega)
            have hbel3 := hbelA.trans (k3.below (B := w.heap.size) (by simp; omega) (fun j hj he => by have h : j = bcx ∨ j = mx.bt := he; have := HXY.out.b3; have := HD.out.b1; omega))
            have HSZ3 := Lib.hid (show wr.heap.size + 1 ≤ w3.heap.size by have := k3.size; simpa using this)
            have hA1 := hA3.cell (i := 1) (x := Value.int IntKind.i64 tn) rfl
            have hA2 := hA3.cell (i := 2) (x := Value.int IntKind.i64 nn) rfl
            obtain ⟨E, hE⟩ : ∃ E, chargeE Q S tn nn = E := ⟨_, rfl⟩
            rw [hE]
            have HEE := Lib.hid hE
            clear HT hm3 k3 hc0 hc1 hc2 hbelA hA hA3 hE
            by_cases hmine : tn = tenant
            · subst hmine
              have htt : (tn == tn) = true := by simp
              have HT := Lib.hid (wcharge_any { my with bc := bcy } span n tn nn Q S' T' _ HY3.out (HW.out.2.sm HP5.out) HW.out.2.2.1)
              unfold MB.ptr at HT
              go_wp2_with fail
              refine HT.out.mono ?_
              rintro e w4 ⟨rfl, hm4, k4⟩
              rw [← chargeE_same (n := nn) HE.out.1, HEE.out]
              have HY9 := Lib.hid hm4
              have HX9 := Lib.hid (sep_yx HXY.out HD.out HX3.out k4)
              have hbel9 := hbel3.trans (k4.below (B := w.heap.size) (by have := HSZ3.out; omega) (fun j hj he => by have h : j = bcy ∨ j = my.bt := he; have := HXY.out.y3; have := HXY.out.b4; have := HD.out.b2; omega))
              have HW9 := Lib.hid (show Own2 Q (chargeC Q S tn nn) (chargeT Q S T tn nn) ∧ Own2 Q (chargeC Q S' tn nn) (chargeT Q S' T' tn nn) from ⟨HW.out.1.charge tn nn, HW.out.2.charge tn nn⟩)
              have HS9 := Lib.hid (show small (chargeC Q S tn nn) ∧ small (chargeC Q S' tn nn) from ⟨HW9.out.1.sm HP5.out, HW9.out.2.sm HP5.out⟩)
              have HE9 := Lib.hid (show leftL Q (chargeC Q S tn nn) tn = leftL Q (chargeC Q S' tn nn) tn ∧ totalL Q (chargeT Q S T tn nn) tn = totalL Q (chargeT Q S' T' tn nn) tn from
                ⟨left_charge_same HW.out.1.2.2.1 HW.out.2.2.2.1 HE.out.1, total_charge_same HW.out.1.2.2.2 HW.out.2.2.2.2 HE.out.1 HE.out.2⟩)
              have HD9 := HD
              have hnE : (E != E) = false := by simp
              clear HT hm4 k4 hbel3

              go_wp2_with fail
              refine (wleft_any { mx with bc := bcx } span n tn Q (chargeC Q S tn nn) (chargeT Q S T tn nn) _ HX9.out HS9.out.1).mono ?_
              rintro e w7 ⟨rfl, hd7⟩
              have HY9 := Lib.hid (HY9.out.below (below_drawn hd7))
              have HX9 := Lib.hid (HX9.out.below (below_drawn hd7))
              have hbel9 := below_two hbel9 (below_drawn hd7)
              clear hd7
              go_wp2_with fail
              refine (wleft_any { my with bc := bcy } span n tn Q (chargeC Q S' tn nn) (chargeT Q S' T' tn nn) _ HY9.out HS9.out.2).mono ?_
              rintro e w8 ⟨rfl, hd8⟩
              have HY9 := Lib.hid (HY9.out.below (below_drawn hd8))
              have HX9 := Lib.hid (HX9.out.below (below_drawn hd8))
              have hbel9 := below_two hbel9 (below_drawn hd8)
              rw [HE9.out.1]
              clear hd8
              obtain ⟨LL, hLL⟩ : ∃ LL, leftL Q (chargeC Q S' tn nn) tn = LL := ⟨_, rfl⟩
              rw [hLL]
              have hnLL : (LL != LL) = false := by simp
              clear hLL
              go_wp2_with fail
              refine (wtotal_any { mx with bc := bcx } span n tn Q (chargeC Q S tn nn) (chargeT Q S T tn nn) _ HX9.out).mono ?_
              rintro e w9 ⟨rfl, rfl⟩
              go_wp2_with fail
              refine (wtotal_any { my with bc := bcy } span n tn Q (chargeC Q S' tn nn) (chargeT Q S' T' tn nn) _ HY9.out).mono ?_
              rintro e w9 ⟨rfl, rfl⟩
              rw [HE9.out.2]
              obtain ⟨LT, hLT⟩ : ∃ LT, totalL Q (chargeT Q S' T' tn nn) tn = LT := ⟨_, rfl⟩
              rw [hLT]
              have hnLT : (LT != LT) = false := by simp
              clear hLT
              go_wp2
              go_roundw
              case rel => exact ⟨k + 1, n, bcx, bcy, (chargeC Q S tn nn), (chargeT Q S T tn nn), (chargeC Q S' tn nn), (chargeT Q S' T' tn nn), by omega, by go_num, by omega, HX9.out, HY9.out, HW9.out, HE9.out, HD9.out, hbel9⟩
              case measure => simp [intOf]; omega
            · have htt : (tn == tenant) = false := by simpa using hmine
              have HX9 := HX3
              have HY9 := HY3
              have hbel9 := hbel3
              have HW9 := Lib.hid (show Own2 Q (chargeC Q S tn nn) (chargeT Q S T tn nn) ∧ Own2 Q S' T' from ⟨HW.out.1.charge tn nn, HW.out.2⟩)
              have HS9 := Lib.hid (show small (chargeC Q S tn nn) ∧ small S' from ⟨HW9.out.1.sm HP5.out, HW9.out.2.sm HP5.out⟩)
              have HE9 := Lib.hid (show leftL Q (chargeC Q S tn nn) tenant = leftL Q S' tenant ∧ totalL Q (chargeT Q S T tn nn) tenant = totalL Q T' tenant from
                ⟨by rw [left_charge_other hmine]; exact HE.out.1, by rw [total_charge_other hmine]; exact HE.out.2⟩)
              have HD9 := HD
              clear hbel3 hmine

              go_wp2_with fail
              refine (wleft_any { mx with bc := bcx } span n tenant Q (chargeC Q S tn nn) (chargeT Q S T tn nn) _ HX9.out HS9.out.1).mono ?_
              rintro e w7 ⟨rfl, hd7⟩
              have HY9 := Lib.hid (HY9.out.below (below_drawn hd7))
              have HX9 := Lib.hid (HX9.out.below (below_drawn hd7))
              have hbel9 := below_two hbel9 (below_drawn hd7)
              clear hd7
              go_wp2_with fail
              refine (wleft_any { my with bc := bcy } span n tenant Q S' T' _ HY9.out HS9.out.2).mono ?_
              rintro e w8 ⟨rfl, hd8⟩
              have HY9 := Lib.hid (HY9.out.below (below_drawn hd8))
              have HX9 := Lib.hid (HX9.out.below (below_drawn hd8))
              have hbel9 := below_two hbel9 (below_drawn hd8)
              rw [HE9.out.1]
              clear hd8
              obtain ⟨LL, hLL⟩ : ∃ LL, leftL Q S' tenant = LL := ⟨_, rfl⟩
              rw [hLL]
              have hnLL : (LL != LL) = false := by simp
              clear hLL
              go_wp2_with fail
              refine (wtotal_any { mx with bc := bcx } span n tenant Q (chargeC Q S tn nn) (chargeT Q S T tn nn) _ HX9.out).mono ?_
              rintro e w9 ⟨rfl, rfl⟩
              go_wp2_with fail
              refine (wtotal_any { my with bc := bcy } span n tenant Q S' T' _ HY9.out).mono ?_
              rintro e w9 ⟨rfl, rfl⟩
              rw [HE9.out.2]
              obtain ⟨LT, hLT⟩ : ∃ LT, totalL Q T' tenant = LT := ⟨_, rfl⟩
              rw [hLT]
              have hnLT : (LT != LT) = false := by simp
              clear hLT
              go_wp2
              go_roundw
              case rel => exact ⟨k + 1, n, bcx, bcy, (chargeC Q S tn nn), (chargeT Q S T tn nn), S', T', by omega, by go_num, by omega, HX9.out, HY9.out, HW9.out, HE9.out, HD9.out, hbel9⟩
              case measure => simp [intOf]; omega
        · obtain rfl : k = l.length := by omega
          go_wp2_with fail
          refine (five_any _).mono ?_
          rintro e w5 ⟨rfl, hb5⟩
          have hb := below_two hbel hb5
          go_wp2
          go_ret
          exact ⟨rfl, hb⟩
    | false =>
      have HMAY := Lib.hid hmay
      have hll : (l.length : Int) ≤ 60 := by omega
      clear hmay
      go_enter Try.func4, Try.ntmps4
      go_wp2_with fail
      refine (maym_any _ _ Q _ HV0.out).mono ?_
      rintro e w1 ⟨rfl, rfl⟩
      rw [HMAY.out]
      go_wp2_with fail
      refine (five_any _).mono ?_
      rintro e w5 ⟨rfl, hb5⟩
      have hb := below_two hal0 hb5
      go_wp2
      go_ret
      exact ⟨rfl, hb⟩
  · have hll : (60 : Int) < (l.length : Int) := by omega
    go_enter Try.func4, Try.ntmps4
    go_wp2_with fail
    refine (five_any _).mono ?_
    rintro e w5 ⟨rfl, hb5⟩
    have hb := below_two hal0 hb5
    go_wp2
    go_ret
    exact ⟨rfl, hb⟩

set_option maxRecDepth 100000 in
set_option maxHeartbeats 1000000 in
theorem lawWindowNil {tenant n : Int} {w : World} (ht1 : -9223372036854775808 ≤ tenant) (ht2 : tenant ≤ 9223372036854775807) (hn1 : -9223372036854775808 ≤ n) (hn2 : n ≤ 9223372036854775807) :
    Calls Try.prog 10 #[.int .i64 tenant, .int .i64 n] w fun e w' => e = .returned (.bool true) ∧ Below w.heap.size w w' := by
  go_enter Try.func10, Try.ntmps10
  go_wp2_with fail
  refine (wtick_nil _).mono ?_
  rintro e w1 ⟨rfl, rfl⟩
  go_wp2_with fail
  refine (wnew_ok _ [5] 1 _ (rints_new w [5] _ 1 _ _ rfl rfl rfl (by decide) (by decide)) (by decide) (by decide) (by decide) (by decide) (by decide)).mono ?_
  rintro e w1 ⟨b, rfl, m, rfl, hm1, hb1, g1, g2, g3, g4⟩
  have hbw := below_two (below_alloc w _) hb1
  have HM := Lib.hid hm1
  clear hb1 hm1
  go_wp2_with fail
  refine (wcharge_nil _ _ _).mono ?_
  rintro e w2 ⟨rfl, rfl⟩
  go_wp2_with fail
  refine (wleft_nil _ _).mono ?_
  rintro e w2 ⟨rfl, rfl⟩
  go_wp2_with fail
  refine (wall_nil _).mono ?_
  rintro e w2 ⟨rfl, rfl⟩
  go_wp2_with fail
  refine (wat_nil _).mono ?_
  rintro e w2 ⟨rfl, rfl⟩
  go_wp2_with fail
  refine (wbegins_nil _).mono ?_
  rintro e w2 ⟨rfl, hd⟩
  have HM := Lib.hid (HM.out.below (below_drawn hd))
  have hbw := below_two hbw (below_drawn hd)
  clear hd
  go_wp2_with fail
  refine (wtotal_nil _ _).mono ?_
  rintro e w3 ⟨rfl, rfl⟩
  by_cases h0 : tenant = 0
  · subst h0
    go_wp2_with fail
    refine (wleft_any m 1 0 0 [5] [0] [0] _ HM.out (by unfold small; decide)).mono ?_
    rintro e w4 ⟨rfl, hd⟩
    have HM := Lib.hid (HM.out.below (below_drawn hd))
    have hbw := below_two hbw (below_drawn hd)
    have e1 : leftL [5] [0] 0 = 5 := by decide
    rw [e1]
    clear hd e1
    go_wp2_with fail
    refine (wbegins_any m 1 0 [5] [0] [0] _ HM.out (by decide) (by decide) (by decide)).mono ?_
    rintro e w5 ⟨rfl, hd⟩
    have hbw := below_two hbw (below_drawn hd)
    clear hd
    go_wp2_with fail
    refine (five_any _).mono ?_
    rintro e w6 ⟨rfl, hb6⟩
    have hbw := below_two hbw hb6
    go_wp2
    go_ret
    exact ⟨rfl, hbw⟩
  · have hne : (tenant == 0) = false := by simpa using h0
    have hin : isIn tenant [5] = false := by
      unfold isIn
      simp
      omega
    have HE := Lib.hid (chargeE_in (C := [0]) (n := n) hin)
    have HL := Lib.hid (show leftL [5] (chargeC [5] [0] tenant n) tenant = 0 by unfold leftL; rw [hin]; rfl)
    have HTT := Lib.hid (show totalL [5] (chargeT [5] [0] [0] tenant n) tenant = 0 by unfold totalL; rw [hin]; rfl)
    have HC := Lib.hid (show chargeC [5] [0] tenant n = [0] by unfold chargeC; rw [if_neg (by rw [HE.out]; decide)])
    clear h0 hin
    go_wp2_with fail
    refine (wcharge_any m 1 0 tenant n [5] [0] [0] _ HM.out (by unfold small; decide) (by unfold small; decide)).mono ?_
    rintro e w4 ⟨rfl, hm4, k4⟩
    rw [HE.out]
    have HM4 := Lib.hid hm4
    have hbw := hbw.trans (k4.below (B := w.heap.size) hbw.size (fun j hj he => by have h : j = m.bc ∨ j = m.bt := he; simp at g3 g4; omega))
    clear hm4 k4
    go_wp2_with fail
    refine (wleft_any m 1 0 tenant [5] _ _ _ HM4.out (by rw [HC.out]; unfold small; decide)).mono ?_
    rintro e w5 ⟨rfl, hd⟩
    rw [HL.out]
    have HM4 := Lib.hid (HM4.out.below (below_drawn hd))
    have hbw := below_two hbw (below_drawn hd)
    clear hd
    go_wp2_with fail
    refine (wtotal_any m 1 0 tenant [5] _ _ _ HM4.out).mono ?_
    rintro e w6 ⟨rfl, rfl⟩
    rw [HTT.out]
    go_wp2_with fail
    refine (five_any _).mono ?_
    rintro e w7 ⟨rfl, hb7⟩
    have hbw := below_two hbw hb7
    go_wp2
    go_ret
    exact ⟨rfl, hbw⟩
end Go.Proofs.Ytfphdcfbkknpbaa

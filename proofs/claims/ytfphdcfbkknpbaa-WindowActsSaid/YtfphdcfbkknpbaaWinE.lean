/- Package window: the small case; the law WindowHolds walked. -/
import Derived.Test.YtfphdcfbkknpbaaWinD
namespace Go.Proofs.Ytfphdcfbkknpbaa
open Go.RowKit

def leftE (e : Ending) (n : Int) : Prop := e = .returned (.int .i64 n)

set_option maxHeartbeats 1000000 in
theorem five_any (w : World) : Calls Try.prog 16 #[] w fun e w' => e = .returned (.bool true) ∧ Below w.heap.size w w' := by
  go_enter Try.func16, Try.ntmps16
  go_wp2_with fail
  refine (wnew_ok _ [5] 2 _ (rints_new w [5] _ 1 _ _ rfl rfl rfl (by decide) (by decide)) (by decide) (by decide) (by decide) (by decide) (by decide)).mono ?_
  rintro e w1 ⟨b, rfl, m, rfl, hm1, hb1, g1, g2, g3, g4⟩
  have hbw := below_two (below_alloc w _) hb1
  have G := Lib.hid (show w.heap.size ≤ m.b ∧ w.heap.size ≤ m.bq ∧ w.heap.size ≤ m.bc ∧ w.heap.size ≤ m.bt by simp at g1 g2 g3 g4; omega)
  clear hb1 g1 g2 g3 g4
  go_wp2_with fail
  refine (wcharge_any m 2 0 0 3 [5] [0] [0] w1 hm1 (by unfold small; decide) (by unfold small; decide)).mono ?_
  rintro e w2 ⟨rfl, hm2, k2⟩
  have hbw2 := hbw.trans (k2.below (B := w.heap.size) hbw.size (fun k hk => by have := G.out; omega))
  have e1 : chargeE [5] [0] 0 3 = 0 := by decide
  have e2 : chargeC [5] [0] 0 3 = [3] := by decide
  have e3 : chargeT [5] [0] [0] 0 3 = [3] := by decide
  rw [e2, e3] at hm2
  rw [e1]
  clear hm1 k2 hbw e1 e2 e3
  go_wp2_with fail
  refine (wtick_any m 2 0 [5] [3] [3] w2 hm2 (by decide) (by decide) (by decide)).mono ?_
  rintro e w3 ⟨bc, rfl, hm3, k3, hf3⟩
  have hbw3 := hbw2.trans (k3.below (B := w.heap.size) hbw2.size (fun k hk => by have := G.out; omega))
  have G3 := Lib.hid (show w.heap.size ≤ bc by have := G.out; have := hbw2.size; omega)
  have e2 : tickC 2 0 [3] = [3] := by decide
  rw [e2] at hm3
  clear hm2 k3 hf3 hbw2 e2
  go_wp2_with fail
  refine (wcharge_any { m with bc := bc } 2 1 0 2 [5] [3] [3] w3 hm3 (by unfold small; decide) (by unfold small; decide)).mono ?_
  rintro e w4 ⟨rfl, hm4, k4⟩
  have hbw4 := hbw3.trans (k4.below (B := w.heap.size) hbw3.size (fun k hk => by have := G.out; have := G3.out; show ¬ (k = bc ∨ k = m.bt); omega))
  have e1 : chargeE [5] [3] 0 2 = 0 := by decide
  have e2 : chargeC [5] [3] 0 2 = [5] := by decide
  have e3 : chargeT [5] [3] [3] 0 2 = [5] := by decide
  rw [e2, e3] at hm4
  rw [e1]
  clear hm3 k4 hbw3 e1 e2 e3
  go_wp2_with fail
  refine (wcharge_any { m with bc := bc } 2 1 0 1 [5] [5] [5] w4 hm4 (by unfold small; decide) (by unfold small; decide)).mono ?_
  rintro e w5 ⟨rfl, hm5, k5⟩
  have hbw5 := hbw4.trans (k5.below (B := w.heap.size) hbw4.size (fun k hk => by have := G.out; have := G3.out; show ¬ (k = bc ∨ k = m.bt); omega))
  have e1 : chargeE [5] [5] 0 1 = 33 := by decide
  have e2 : chargeC [5] [5] 0 1 = [5] := by decide
  have e3 : chargeT [5] [5] [5] 0 1 = [5] := by decide
  rw [e2, e3] at hm5
  rw [e1]
  clear hm4 k5 hbw4 e1 e2 e3
  go_wp2_with fail
  refine (wtick_any { m with bc := bc } 2 1 [5] [5] [5] w5 hm5 (by decide) (by decide) (by decide)).mono ?_
  rintro e w6 ⟨bc2, rfl, hm6, k6, hf6⟩
  have hbw6 := hbw5.trans (k6.below (B := w.heap.size) hbw5.size (fun k hk => by have := G.out; show ¬ (k = m.b); omega))
  have e2 : tickC 2 1 [5] = [0] := by decide
  rw [e2] at hm6
  clear hm5 k6 hf6 hbw5 e2
  go_wp2_with fail
  refine (wat_any _ 2 _ [5] [0] [5] w6 hm6).mono ?_
  rintro e w7 ⟨rfl, rfl⟩
  go_wp2_with fail
  refine (wbegins_any _ 2 _ [5] [0] [5] _ hm6 (by decide) (by decide) (by decide)).mono ?_
  rintro e w7 ⟨rfl, hd⟩
  have hm7 := hm6.below (below_drawn hd)
  have hbw7 := below_two hbw6 (below_drawn hd)
  clear hm6 hbw6 hd
  go_wp2_with fail
  refine (wleft_any _ 2 _ 0 [5] [0] [5] _ hm7 (by unfold small; decide)).mono ?_
  rintro e w8 ⟨rfl, hd2⟩
  have hm8 := hm7.below (below_drawn hd2)
  have hbw8 := below_two hbw7 (below_drawn hd2)
  have e1 : leftL [5] [0] 0 = 5 := by decide
  rw [e1]
  clear hm7 hbw7 e1 hd2
  go_wp2_with fail
  refine (wtotal_any _ 2 _ 0 [5] [0] [5] _ hm8).mono ?_
  rintro e w9 ⟨rfl, rfl⟩
  have e1 : totalL [5] [5] 0 = 5 := by decide
  rw [e1]
  clear hm8 e1
  go_wp2
  go_ret
  exact ⟨ret_bool (by decide), hbw8⟩

/-- an act, as it is laid in memory -/
def encA (x : Bool × Int × Int) : List Value := [.bool x.1, .int .i64 x.2.1, .int .i64 x.2.2]
def goodA (x : Bool × Int × Int) : Prop := (-9223372036854775808 ≤ x.2.1 ∧ x.2.1 ≤ 9223372036854775807) ∧ (-9223372036854775808 ≤ x.2.2 ∧ x.2.2 ≤ 9223372036854775807)

set_option maxRecDepth 100000 in
set_option maxHeartbeats 1000000 in
theorem lawWindowHolds {span : Int} {v va : Value} {Q : List Int} {l : List (Bool × Int × Int)} {w : World} (hs1 : -9223372036854775808 ≤ span) (hs2 : span ≤ 9223372036854775807) (hv : RInts w v Q) (hva : RS w va l encA 3 goodA) :
    Calls Try.prog 3 #[.int .i64 span, v, va] w fun e w' => e = .returned (.bool true) ∧ Below w.heap.size w w' := by
  have HV := Lib.hid hv
  have HA := Lib.hid hva
  obtain ⟨a, cap, rfl, hc1, hc2⟩ := hv.shape
  obtain ⟨a2, cap2, rfl, hc3, hc4⟩ := hva.shape
  clear hv hva
  by_cases hl : l.length ≤ 100
  · cases hmay : mayM span Q with
    | true =>
      have HMAY := Lib.hid hmay
      obtain ⟨p1, p2, p3, p4, p5⟩ := mayM_yes hmay
      have HP5 := Lib.hid p5
      have hll : (l.length : Int) ≤ 100 := by omega
      clear hmay p5
      go_enter Try.func3, Try.ntmps3
      go_wp2_with fail
      refine (maym_any _ _ Q _ HV.out).mono ?_
      rintro e w1 ⟨rfl, rfl⟩
      rw [HMAY.out]
      go_wp2_with fail
      refine (wnew_ok _ Q span _ HV.out p1 p2 p3 p4 HP5.out).mono ?_
      rintro e w1 ⟨b, rfl, m, rfl, hm1, hb1, g1, g2, g3, g4⟩
      have G := Lib.hid (show w.heap.size ≤ m.b ∧ w.heap.size ≤ m.bq ∧ w.heap.size ≤ m.bc ∧ w.heap.size ≤ m.bt from ⟨g1, g2, g3, g4⟩)
      have HM1 := Lib.hid hm1
      clear hm1 g1 g2 g3 g4
      go_wp2_with (at_make; refine wpList_make_blk _ rfl _ _ 22 rfl 3 (.int .i64 0) 8 Try.underlying22 intinfo rfl _ _ _ _ Q.length rfl rfl rfl rfl (by omega) (by unfold maxLen; omega) ?_)
      intro w2 hbs hk2
      have hb2 := below_two hb1 hk2
      have HM2 := Lib.hid (HM1.out.below hk2)
      have HBS := Lib.hid hbs
      have hsz1 := hb1.size
      have HSZ := Lib.hid (show m.b < w1.heap.size ∧ m.bq < w1.heap.size ∧ m.bc < w1.heap.size ∧ m.bt < w1.heap.size from ⟨by obtain ⟨_, hb, _⟩ := HM1.out.box; exact hb.lt, HM1.out.lq, HM1.out.blc.lt, HM1.out.blt.lt⟩)
      clear hb1 hbs hk2 HM1
      go_wp2
      go_loopw [9, 10, 12, 34] (fun vs at_ pa i wr => ∃ (k n bs bc : Nat) (S T : List Int), k ≤ l.length ∧ i = .int .i64 k ∧ n ≤ k ∧ at_ = .int .i64 n ∧ vs = .slice (some ⟨bs, 0, none⟩) Q.length Q.length ∧
          Hid (MeterAt wr { m with bc := bc } span n Q S T) ∧ Hid (Blk wr bs (S.map (Value.int .i64)) 3) ∧ Hid (within Q S ∧ small T ∧ S.length = Q.length) ∧
          Hid (w.heap.size ≤ bc ∧ w.heap.size ≤ bs ∧ bs ≠ m.b ∧ bs ≠ m.bq ∧ bs ≠ bc ∧ bs ≠ m.bt) ∧ Below w.heap.size w wr)
        (fun _ _ _ i _ => l.length - (intOf i).toNat)
      case atStart =>
        refine ⟨0, 0, w1.heap.size, m.bc, List.replicate Q.length 0, List.replicate Q.length 0, Nat.zero_le _, rfl, Nat.le_refl _, rfl, rfl, HM2.out, ?_, ⟨within_zeros HP5.out _, small_zeros _, by simp⟩, ?_, hb2⟩
        · have := HBS.out
          rw [List.map_replicate]
          exact this
        · have := HSZ.out
          have := G.out
          exact ⟨by omega, by omega, by omega, by omega, by omega, by omega⟩
      case round =>
        obtain ⟨k, n, bs, bc, S, T, hk, rfl, hnk, rfl, rfl, HM, HB, HW, HD, hbel⟩ := hrel
        have HVR := Lib.hid (HV.out.below hbel)
        by_cases hlt : k < l.length
        · obtain ⟨b2, off2, x, rfl, hbb2, hx, hgx, hcx⟩ := (HA.out.below hbel).at hlt
          obtain ⟨tk, tn, nn⟩ := x
          have hc0 : wr.cell? ⟨b2, off2 + k * 3, none⟩ = some (.bool tk) := hcx 0 _ rfl
          have hc1 : wr.cell? ⟨b2, off2 + k * 3 + 1, none⟩ = some (.int .i64 tn) := hcx 1 _ rfl
          have hc2 : wr.cell? ⟨b2, off2 + k * 3 + 2, none⟩ = some (.int .i64 nn) := hcx 2 _ rfl
          obtain ⟨⟨q1, q2⟩, q3, q4⟩ := hgx
          have hkl : (k : Int) < (l.length : Int) := by omega
          clear hx hcx
          cases tk with
          | true =>
            have hal := below_alloc wr (Obj.cells #[Value.bool true, Value.int IntKind.i64 tn, Value.int IntKind.i64 nn] 31)
            have HT := Lib.hid (wtick_any { m with bc := bc } span n Q S T _ (HM.out.below hal) p1 (by omega) (by omega))
            unfold MB.ptr at HT
            go_wp2_with fail
            refine HT.out.mono ?_
            rintro e w3 ⟨bc3, rfl, hm3, k3, hf3⟩
            have HM3 := Lib.hid hm3
            have HB3 := Lib.hid ((HB.out.below hal).keep k3 (fun e => HD.out.2.2.1 e))
            have hbel3 := ((hbel.alloc (by have := hbel.size; omega) (Obj.cells #[Value.bool true, Value.int IntKind.i64 tn, Value.int IntKind.i64 nn] 31))).trans (k3.below (B := w.heap.size) (by have := hbel.size; simp; omega) (fun k hk he => by have := G.out; have h : k = m.b := he; omega))
            have HF3 := Lib.hid (show w.heap.size ≤ bc3 ∧ bs ≠ bc3 by
              have h1 := HD.out
              have h2 := HB.out.lt
              have h3 := hbel.size
              simp only [World.size_alloc] at hf3
              have h4 : bc3 = bc ∨ wr.heap.size + 1 ≤ bc3 := hf3
              omega)
            have HN3 := Lib.hid (tickC_within (span := span) (at_ := n) HW.out.1 HP5.out)
            have HL3 := Lib.hid (tickC_len (C := S) (span := span) (at_ := n))
            have HVR := Lib.hid (HV.out.below hbel3)
            clear hal HT hm3 k3 hf3 hc0 hc1 hc2
            cases hz : ((n : Int) + 1) % span == 0 with
            | true =>
              have HTC := Lib.hid (show tickC span n S = List.replicate Q.length 0 by unfold tickC; rw [hz, if_pos rfl, HW.out.2.2])
              go_wp2_with (at_make; refine wpList_make_blk _ rfl _ _ 22 rfl 3 (.int .i64 0) 8 Try.underlying22 intinfo rfl _ _ _ _ Q.length rfl rfl rfl rfl (by omega) (by unfold maxLen; omega) ?_)
              intro w4 hb4 hk4
              have HB4 := Lib.hid hb4
              have HM4 := Lib.hid (HM3.out.below hk4)
              have HK4 := Lib.hid (below_two hbel3 hk4)
              have HLT := Lib.hid (show m.b < w3.heap.size ∧ m.bq < w3.heap.size ∧ bc3 < w3.heap.size ∧ m.bt < w3.heap.size ∧ w.heap.size ≤ w3.heap.size from
                ⟨by obtain ⟨_, hb, _⟩ := HM3.out.box; exact hb.lt, HM3.out.lq, HM3.out.blc.lt, HM3.out.blt.lt, hbel3.size⟩)
              clear hb4 hk4 hz
              go_wp2
              go_roundw
              case rel =>
                refine ⟨k + 1, n + 1, w3.heap.size, bc3, tickC span n S, T, by omega, by go_num, by omega, by go_num, rfl, ?_, ?_, ⟨HN3.out, HW.out.2.1, by rw [HL3.out]; exact HW.out.2.2⟩, ?_, HK4.out⟩
                · exact HM4.out
                · show Blk _ _ _ _
                  rw [HTC.out, List.map_replicate]
                  exact HB4.out
                · have := HLT.out
                  have := HF3.out
                  exact ⟨by omega, by omega, by omega, by omega, by omega, by omega⟩
              case measure => simp [intOf]; omega
            | false =>
              have HTC := Lib.hid (show tickC span n S = S by unfold tickC; rw [hz]; rfl)
              go_wp2
              go_roundw
              case rel =>
                refine ⟨k + 1, n + 1, bs, bc3, tickC span n S, T, by omega, by go_num, by omega, by go_num, rfl, ?_, ?_, ⟨HN3.out, HW.out.2.1, by rw [HL3.out]; exact HW.out.2.2⟩, ?_, hbel3⟩
                · exact HM3.out
                · show Blk _ _ _ _
                  rw [HTC.out]
                  exact HB3.out
                · have := HD.out
                  have := HF3.out
                  exact ⟨by omega, by omega, by omega, by omega, by omega, by omega⟩
              case measure => simp [intOf]; omega
          | false =>
            have hal := below_alloc wr (Obj.cells #[Value.bool false, Value.int IntKind.i64 tn, Value.int IntKind.i64 nn] 31)
            have hA : Blk (wr.alloc (Obj.cells #[Value.bool false, Value.int IntKind.i64 tn, Value.int IntKind.i64 nn] 31)) wr.heap.size [Value.bool false, Value.int IntKind.i64 tn, Value.int IntKind.i64 nn] 31 := Blk.new wr _ _
            have HT := Lib.hid (wcharge_any { m with bc := bc } span n tn nn Q S T _ (HM.out.below hal) (within_small HW.out.1 HW.out.2.2 HP5.out) HW.out.2.1)
            unfold MB.ptr at HT
            have hsl : bc < wr.heap.size ∧ m.bt < wr.heap.size := ⟨HM.out.blc.lt, HM.out.blt.lt⟩
            go_wp2_with fail
            refine HT.out.mono ?_
            rintro e w3 ⟨rfl, hm3, k3⟩
            have HM3 := Lib.hid hm3
            have HB3 := Lib.hid ((HB.out.below hal).keep k3 (fun e => by have := HD.out; have h : bs = bc ∨ bs = m.bt := e; omega))
            have hA3 := hA.keep k3 (fun e => by have h : wr.heap.size = bc ∨ wr.heap.size = m.bt := e; omega)
            have hbel3 := ((hbel.alloc (by have := hbel.size; omega) (Obj.cells #[Value.bool false, Value.int IntKind.i64 tn, Value.int IntKind.i64 nn] 31))).trans (k3.below (B := w.heap.size) (by have := hbel.size; simp; omega) (fun k hk he => by have := G.out; have := HD.out; have h : k = bc ∨ k = m.bt := he; omega))
            have HN3 := Lib.hid (within_charge (t := tn) (n := nn) HW.out.1 HW.out.2.2)
            have HL3 := Lib.hid (chargeC_len (Q := Q) (C := S) (t := tn) (n := nn))
            have HS3 := Lib.hid (small_chargeT (Q := Q) (C := S) (t := tn) (n := nn) HW.out.2.1)
            have HVR := Lib.hid (HV.out.below hbel3)
            obtain ⟨E, hE⟩ : ∃ E, chargeE Q S tn nn = E := ⟨_, rfl⟩
            rw [hE]
            have HE := Lib.hid hE
            clear hal hA HT hm3 k3 hc0 hc1 hc2 hE hsl
            by_cases h0 : E = 0
            · subst h0
              obtain ⟨hin, r1, r2, r3⟩ := chargeE_zero HE.out
              obtain ⟨t, rfl, htq⟩ := isIn_yes hin
              have hts : t < S.length := by have := HW.out.2.2; omega
              obtain ⟨b5, off5, q, rfl, hb5, hq, hcq, hq1, hq2⟩ := HVR.out.at htq
              have hs : S[t]? = some S[t] := List.getElem?_eq_getElem hts
              obtain ⟨s, hsd⟩ : ∃ s, S[t] = s := ⟨_, rfl⟩
              rw [hsd] at hs
              have hcs : w3.cell? ⟨bs, t, none⟩ = some (.int .i64 s) := HB3.out.cell (by rw [List.getElem?_map, hs]; rfl)
              have hfs := HB3.out.free t
              have hA1 := hA3.cell (i := 1) (x := Value.int IntKind.i64 t) rfl
              have hA2 := hA3.cell (i := 2) (x := Value.int IntKind.i64 nn) rfl
              have hsq := HW.out.1 t s q hs hq
              have hmq := mayL_at HP5.out hq
              have hle : nn ≤ q - s := by
                unfold leftL at r3
                rw [hin, if_pos rfl, Int.toNat_natCast, getD_of hq, getD_of hs] at r3
                exact r3
              obtain ⟨hsq1, hsq2⟩ := hsq
              obtain ⟨hmq1, hmq2⟩ := hmq
              have HSET := Lib.hid (show chargeC Q S t nn = S.set t (s + nn) by unfold chargeC; rw [if_pos HE.out, Int.toNat_natCast, getD_of hs])
              have hd1 : decide ((t : Int) < 0) = false := decide_eq_false (by omega)
              have hd2 : decide ((Q.length : Int) ≤ (t : Int)) = false := decide_eq_false (by omega)
              have hd3 : decide (nn < 0) = false := decide_eq_false (by omega)
              have hd4 : decide (q - s < nn) = false := decide_eq_false (by omega)
              have htq' : (t : Int) < (Q.length : Int) := by omega
              clear hin r3 hq hs hsd hA3
              have hd2' : decide (Q.length ≤ t) = false := decide_eq_false (by omega)
              have hwr : IntKind.i64.wrap (q - s) = q - s := IntWalk.i64_in _ (by omega)
              go_wp2
              go_quiet (fail)
              clear hwr hd1 hd2 hd3 hd4 hd2'
              have hcs' := hcs
              have hA1' := hA1
              have hA2' := hA2
              have HB4 := Lib.hid (HB3.out.below (below_drewN (Below.refl _ _) nq))
              have HM4 := Lib.hid (HM3.out.below (below_drewN (Below.refl _ _) nq))
              have hbel4 := below_drewN hbel3 nq
              go_wp2
              have hcs4 : (w3.drewN nq).cell? ⟨bs, t, none⟩ = some (.int .i64 s) := hcs
              have hA14 : (w3.drewN nq).cell? ⟨wr.heap.size, 1, none⟩ = some (.int .i64 t) := hA1
              have hA24 : (w3.drewN nq).cell? ⟨wr.heap.size, 2, none⟩ = some (.int .i64 nn) := hA2
              have hfs4 : (w3.drewN nq).frozen? ⟨bs, t, none⟩ = false := hfs
              clear hcs hA1 hA2 hfs hcs' hA1' hA2' hcq HVR
              generalize w3.drewN nq = w4 at *
              go_still_tail 11, (by kernel_rfl)
              change wpList _ _ _ _ _ (World.drew _)
              go_wp2
              go_roundw
              case rel =>
                refine ⟨k + 1, n, bs, bc, chargeC Q S t nn, chargeT Q S T t nn, by omega, by go_num, by omega, rfl, rfl, ?_, ?_, ⟨HN3.out, HS3.out, by rw [HL3.out]; exact HW.out.2.2⟩, HD.out, ?_⟩
                · have kp : Keep (fun j => j = bs) w4 (w4.setCell ⟨bs, t, none⟩ (Value.int IntKind.i64 (s + nn))) := keep_setCell (S := fun j => j = bs) (Keep.refl _ w4) rfl _
                  have hD := HD.out
                  exact (HM4.out.keep kp (fun e => by have h : m.b = bs := e; omega) (fun e => by have h : m.bq = bs := e; omega) (fun e => by have h : bc = bs := e; omega) (fun e => by have h : m.bt = bs := e; omega)).drewN 1
                · show Blk _ _ _ _
                  rw [HSET.out, List.map_set]
                  exact HB4.out.set t _
                · exact (hbel4.setCell (show w.heap.size ≤ bs from HD.out.2.1) _).drew
              case measure => simp [intOf]; omega
            · have hE0 : (E != 0) = true := by simpa using h0
              have HSET := Lib.hid (show chargeC Q S tn nn = S by unfold chargeC; rw [if_neg (by rw [HE.out]; exact h0)])
              clear h0 hA3
              go_wp2
              go_roundw
              case rel =>
                refine ⟨k + 1, n, bs, bc, chargeC Q S tn nn, chargeT Q S T tn nn, by omega, by go_num, by omega, rfl, rfl, HM3.out, ?_, ⟨HN3.out, HS3.out, by rw [HL3.out]; exact HW.out.2.2⟩, HD.out, hbel3⟩
                show Blk _ _ _ _
                rw [HSET.out]
                exact HB3.out
              case measure => simp [intOf]; omega
        · obtain rfl : k = l.length := by omega
          go_wp2_with fail
          refine (five_any _).mono ?_
          rintro e w5 ⟨rfl, hb5⟩
          have hb := below_two hbel hb5
          go_wp2
          go_ret
          exact ⟨rfl, hb⟩
    | false =>
      have HMAY := Lib.hid hmay
      have hll : (l.length : Int) ≤ 100 := by omega
      clear hmay
      go_enter Try.func3, Try.ntmps3
      go_wp2_with fail
      refine (maym_any _ _ Q _ HV.out).mono ?_
      rintro e w1 ⟨rfl, rfl⟩
      rw [HMAY.out]
      go_wp2_with fail
      refine (five_any _).mono ?_
      rintro e w5 ⟨rfl, hb5⟩
      go_wp2
      go_ret
      exact ⟨rfl, hb5⟩
  · have hll : (100 : Int) < (l.length : Int) := by omega
    go_enter Try.func3, Try.ntmps3
    go_wp2_with fail
    refine (five_any _).mono ?_
    rintro e w5 ⟨rfl, hb5⟩
    go_wp2
    go_ret
    exact ⟨rfl, hb5⟩
end Go.Proofs.Ytfphdcfbkknpbaa

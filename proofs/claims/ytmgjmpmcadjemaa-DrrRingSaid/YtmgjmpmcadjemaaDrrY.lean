/- Package drr: the law DrrRing walked. -/
import Derived.Test.YtmgjmpmcadjemaaDrrX
namespace Go.Proofs.Ytmgjmpmcadjemaa
open Go.RowKit

set_option maxHeartbeats 16000000 in
set_option maxRecDepth 100000 in
theorem lawDrrRing {vq va : Value} {Q : List Int} {l : List DA} {w : World} (hq : RInts w vq Q) (hva : RS w va l encD 7 (goodD w)) :
    Calls Try.prog 8 #[vq, va] w fun e w' => e = .returned (.bool true) ∧ Below w.heap.size w w' := by
  have HLT := Lib.hid two_any
  have HVQ := Lib.hid hq
  have HVA := Lib.hid hva
  obtain ⟨aq, cq, rfl, hcq1, hcq2⟩ := hq.shape
  obtain ⟨aa, ca, rfl, hca1, hca2⟩ := hva.shape
  by_cases h60 : 60 < l.length
  · have t1 : decide (60 < l.length) = true := decide_eq_true h60
    have t1' : decide ((60 : Int) < (l.length : Int)) = true := decide_eq_true (by omega)
    clear hq hva h60
    go_enter Try.func8, Try.ntmps8
    go_wp2_with fail
    refine (HLT.out _).mono ?_
    rintro e w1 ⟨rfl, hb⟩
    go_wp2
    go_ret
    exact ⟨rfl, hb⟩
  have t1 : decide (60 < l.length) = false := decide_eq_false h60
  have t1' : decide ((60 : Int) < (l.length : Int)) = false := decide_eq_false (by omega)
  have hl60 : l.length ≤ 60 := by omega
  clear h60
  cases hm : mayD Q with
  | false =>
    have HM := Lib.hid (refmay30_any _ Q w hq)
    rw [hm] at HM
    clear hq hva hm
    go_enter Try.func8, Try.ntmps8
    go_wp2_with fail
    refine HM.out.mono ?_
    rintro e w1 ⟨rfl, rfl⟩
    go_wp2_with fail
    refine (HLT.out _).mono ?_
    rintro e w1 ⟨rfl, hb⟩
    go_wp2
    go_ret
    exact ⟨rfl, hb⟩
  | true =>
    obtain ⟨hqa, hn0, hn16⟩ := mayD_iff.1 hm
    have HN := Lib.hid (dnew_any _ Q w hq hm)
    have OK0 := Lib.hid (new_ok hm)
    have HMT := Lib.hid (fun w1 (h : RInts w1 (.slice aq Q.length cq) Q) => by have := refmay30_any _ Q w1 h; rwa [hm] at this)
    have HNO := Lib.hid (show NilOk (.slice aq Q.length cq) by
      obtain ⟨b, off, x, hv, -⟩ := hq.at hn0
      subst hv
      exact NilOk.some)
    have HN0 := Lib.hid hn0
    have HN16 := Lib.hid hn16
    clear hq hva hm hqa hn0 hn16
    go_enter Try.func8, Try.ntmps8
    go_wp2_with fail
    refine (HMT.out _ HVQ.out).mono ?_
    rintro e w1 ⟨rfl, rfl⟩
    go_wp2_with fail
    refine HN.out.mono ?_
    rintro e w1 ⟨p, rq, rfl, ow1, vt, tb, qb, h1, hb1⟩
    have HB1 := Lib.hid hb1
    have HGR := Lib.hid (h1.grow (Below.refl _ _))
    clear h1 hb1 HN
    obtain ⟨ow, how⟩ : ∃ z, frO ow1 w1.heap.size 0 = z := ⟨_, rfl⟩
    have HZ := Lib.hid (show ∀ j, w1.heap.size ≤ j → ow j = 0 from fun j hj => by rw [← how]; exact frO_new hj)
    rw [how] at HGR
    clear how
    have HRN := Lib.hid (rnew30_any (fun j => ow j = 0) (.slice aq Q.length cq) Q w1 ⟨HVQ.out.below HB1.out, HNO.out, fun h0 g hg => by
      have h1 := rints_lt HVQ.out h0 g hg
      have h2 := HGR.out.1.lo g
      omega⟩ (by have := HN16.out; omega) HZ.out)
    go_wp2_with fail
    refine HRN.out.mono ?_
    rintro e w2 ⟨vc, vj, rfl, hg, hb2⟩
    have HP := Lib.hid (lb_start HB1.out.size HGR.out.1 HZ.out HB1.out hg hb2 OK0.out (Q := Q) (by unfold newS; simp))
    obtain ⟨a1, c1, rfl, -, -⟩ := hg.c.1.shape
    obtain ⟨a2, c2, rfl, -, -⟩ := hg.j.shape
    obtain ⟨n1, hn1⟩ : ∃ z, (newS Q Q.length).C.length = z := ⟨_, rfl⟩
    obtain ⟨n2, hn2⟩ : ∃ z, (newS Q Q.length).J.length = z := ⟨_, rfl⟩
    rw [hn1, hn2] at HP ⊢
    clear hg hb2 hn1 hn2 HRN HGR HZ HMT
    go_upto_region 5 with fail
    obtain ⟨b7, hb7⟩ : ∃ z, w2.heap.size = z := ⟨_, rfl⟩
    rw [hb7] at HP ⊢
    obtain ⟨w3, hw3⟩ : ∃ z, w2.alloc (.cells #[.slice aq Q.length cq, .slice a1 n1 c1, .slice a2 n2 c2, .slice none 0 0] 67 (0, 0)) = z := ⟨_, rfl⟩
    rw [hw3] at HP ⊢
    clear hb7 hw3
    go_wp2
    go_loopw [32] (fun iv wr => ∃ (k : Nat) (vc vj vr : Value) (s : Sch) (ow : Nat → Nat), k ≤ l.length ∧ iv = .int .i64 (k : Int) ∧ Hid (LB w.heap.size b7 p rq vt tb qb (.slice aq Q.length cq) vc vj vr s Q k ow w wr)) (fun iv _ => l.length - (intOf iv).toNat)
    case atStart => exact ⟨0, _, _, _, _, _, Nat.zero_le _, rfl, HP.out⟩
    case round =>
      obtain ⟨k, vc, vj, vr, s, ow, hk, rfl, HL⟩ := hrel
      clear HP OK0 HB1
      obtain ⟨a1, c1, rfl, -, -⟩ := HL.out.ls.g.c.1.shape
      obtain ⟨a2, c2, rfl, -, -⟩ := HL.out.ls.g.j.shape
      obtain ⟨a3, c3, rfl, -, -⟩ := HL.out.ls.g.r.1.shape
      obtain ⟨n1, hn1⟩ : ∃ z, s.C.length = z := ⟨_, rfl⟩
      obtain ⟨n2, hn2⟩ : ∃ z, s.J.length = z := ⟨_, rfl⟩
      obtain ⟨n3, hn3⟩ : ∃ z, s.R.length = z := ⟨_, rfl⟩
      rw [hn1, hn2, hn3] at HL
      clear hn1 hn2 hn3
      rcases Nat.lt_or_ge k l.length with hlt | hge
      · obtain ⟨ba, off, x, rfl, hbb, hx, hgx, hcx⟩ := (HVA.out.below (below_of HL.out.bel (Nat.le_refl _))).at hlt
        clear hx hbb
        obtain ⟨kind, ten, job, bud, used, lv, left, st⟩ := x
        have hlv := hgx.left.shape
        dsimp only at hlv
        obtain ⟨av, cv, hve, -, -⟩ := hlv
        subst hve
        obtain ⟨nv, hnv⟩ : ∃ z, left.length = z := ⟨_, rfl⟩
        have HNV := Lib.hid hnv
        rw [hnv] at hgx hcx
        clear hnv
        have HGX := Lib.hid hgx
        have c0 : wr.cell? ⟨ba, off + k * 7, none⟩ = some (.int .i64 kind) := hcx 0 _ rfl
        have c1x := hcx 1 (.int .i64 ten) rfl
        have c2x := hcx 2 (.int .i64 job) rfl
        have c3x := hcx 3 (.int .i64 bud) rfl
        have c4x := hcx 4 (.int .i64 used) rfl
        have c5x := hcx 5 (.slice av nv cv) rfl
        have c6x := hcx 6 (.bool st) rfl
        clear hgx hcx
        have HL9 := Lib.hid (HL.out.below (below_alloc wr (.cells #[.int .i64 kind, .int .i64 ten, .int .i64 job, .int .i64 bud, .int .i64 used, .slice av nv cv, .bool st] 70 (0, 0))))
        have HA9 := Lib.hid (Blk.new wr [.int .i64 kind, .int .i64 ten, .int .i64 job, .int .i64 bud, .int .i64 used, .slice av nv cv, .bool st] 70)
        go_upto_region 8 with fail
        obtain ⟨bA, hbA⟩ : ∃ z, wr.heap.size = z := ⟨_, rfl⟩
        rw [hbA] at HA9 ⊢
        obtain ⟨wA, hwA⟩ : ∃ z, wr.alloc (.cells #[.int .i64 kind, .int .i64 ten, .int .i64 job, .int .i64 bud, .int .i64 used, .slice av nv cv, .bool st] 70 (0, 0)) = z := ⟨_, rfl⟩
        rw [hwA] at HL9 HA9 ⊢
        clear hbA hwA HL
        clear c0 c1x c2x c3x c4x c5x c6x
        have u0 := HA9.out.cell (i := 0) (x := .int .i64 kind) rfl
        have u1 := HA9.out.cell (i := 1) (x := .int .i64 ten) rfl
        have u2 := HA9.out.cell (i := 2) (x := .int .i64 job) rfl
        have u3 := HA9.out.cell (i := 3) (x := .int .i64 bud) rfl
        have u4 := HA9.out.cell (i := 4) (x := .int .i64 used) rfl
        have u5 := HA9.out.cell (i := 5) (x := .slice av nv cv) rfl
        have u6 := HA9.out.cell (i := 6) (x := .bool st) rfl
        have k0 := HL9.out.bx.cell (i := 0) (x := .slice aq Q.length cq) rfl
        have k1 := HL9.out.bx.cell (i := 1) (x := .slice a1 n1 c1) rfl
        have k2 := HL9.out.bx.cell (i := 2) (x := .slice a2 n2 c2) rfl
        have k3 := HL9.out.bx.cell (i := 3) (x := .slice a3 n3 c3) rfl
        have HACT := Lib.hid (act30_any (K := k) (fun j => j ≠ b7) _ _ _ _ s ow ⟨kind, ten, job, bud, used, .slice av nv cv, left, st⟩ wA HL9.out.ls HL9.out.ok (by omega) (goodD_below HGX.out HL9.out.bel) (fun h0 g hg => Classical.byContradiction fun e => by
          have h1 := rints_lt HGX.out.left h0 g hg
          have h2 := HL9.out.ls.d.lo g e
          omega))
        unfold encD at HACT
        dsimp only at HACT
        go_wp2_with fail
        (with_reducible refine HACT.out.mono ?_)
        rintro e w5 ⟨vc2, vj2, vr2, s2, ow2, rfl, hl2, hok2, hq2, hf2⟩
        have HA2 := Lib.hid (HL9.out.acted hl2 hok2 hq2 hf2)
        clear hok2 hq2 hf2 HACT HL9 HA9 u0 u1 u2 u3 u4 u5 u6 k0 k1 k2 k3
        obtain ⟨b1, d1, rfl, -, -⟩ := hl2.g.c.1.shape
        obtain ⟨b2, d2, rfl, -, -⟩ := hl2.g.j.shape
        obtain ⟨b3, d3, rfl, -, -⟩ := hl2.g.r.1.shape
        obtain ⟨m1, hm1⟩ : ∃ z, s2.C.length = z := ⟨_, rfl⟩
        obtain ⟨m2, hm2⟩ : ∃ z, s2.J.length = z := ⟨_, rfl⟩
        obtain ⟨m3, hm3⟩ : ∃ z, s2.R.length = z := ⟨_, rfl⟩
        rw [hm1, hm2, hm3] at HA2 ⊢
        clear hm1 hm2 hm3
        clear hl2
        have k0 := HA2.out.bx.cell (i := 0) (x := .slice aq Q.length cq) rfl
        have k1 := HA2.out.bx.cell (i := 1) (x := .slice a1 n1 c1) rfl
        have k2 := HA2.out.bx.cell (i := 2) (x := .slice a2 n2 c2) rfl
        have k3 := HA2.out.bx.cell (i := 3) (x := .slice a3 n3 c3) rfl
        have z0 := HA2.out.bx.free 0
        have z1 := HA2.out.bx.free 1
        have z2 := HA2.out.bx.free 2
        have z3 := HA2.out.bx.free 3
        have hfd : ∀ w : World, (Instr.field 72 (.agg #[.slice aq Q.length cq, .slice b1 m1 d1, .slice b2 m2 d2, .slice b3 m3 d3, .bool true]) 0).run Try.prog w = .ok (.agg #[.slice aq Q.length cq, .slice b1 m1 d1, .slice b2 m2 d2, .slice b3 m3 d3]) w := fun _ => by kernel_rfl
        have HN := Lib.hid HA2.out.store
        go_upto_region 9 with fail
        obtain ⟨w8, hw8⟩ : ∃ z, ((((w5.setCell ⟨b7, 0, none⟩ (.slice aq Q.length cq)).setCell ⟨b7, 1, none⟩ (.slice b1 m1 d1)).setCell ⟨b7, 2, none⟩ (.slice b2 m2 d2)).setCell ⟨b7, 3, none⟩ (.slice b3 m3 d3)) = z := ⟨_, rfl⟩
        rw [hw8] at HN ⊢
        clear hw8 HA2 hfd k0 k1 k2 k3 z0 z1 z2 z3
        have HRG := Lib.hid (dring_any HN.out.ls.d (by have := HN.out.ok.rk; omega))
        go_wp2_with fail
        (with_reducible refine HRG.out.mono ?_)
        rintro e w9 ⟨vR, rfl, hr, -, hb⟩
        have HL9 := Lib.hid (HN.out.below hb)
        obtain ⟨aR, cR, rfl, -, -⟩ := hr.shape
        have HPL := Lib.hid (fun (W : World) (q : Below w9.heap.size w9 W) (n : Int) => place_any _ s2.R n W (hr.below q))
        have HJB := Lib.hid (fun (W : World) (q : Below w9.heap.size w9 W) (j : Nat) (hj : j < Q.length) => djobs_in j (HL9.out.below q).ls.d (by rw [HL9.out.q]; exact hj) (by have := HL9.out.ok.jk j (by rw [HL9.out.q]; exact hj); omega))
        have HCD := Lib.hid (fun (W : World) (q : Below w9.heap.size w9 W) (j : Nat) (hj : j < Q.length) => dcredit_in j (HL9.out.below q).ls.d (by rw [HL9.out.q]; exact hj))
        have HPR := Lib.hid (fun (j : Nat) (hj : j < Q.length) => place_ring HL9.out.ok (t := j) (by rw [HL9.out.q]; exact hj))
        have HCB := Lib.hid (fun (j : Nat) (hj : j < Q.length) => HL9.out.ok.c j (by rw [HL9.out.q]; exact hj))
        rw [HL9.out.q] at HCB
        have HCN := Lib.hid (cntS_ring HL9.out.ok)
        rw [HL9.out.q] at HCN
        have HQW := Lib.hid (fun (W : World) (q : Below w9.heap.size w9 W) => HVQ.out.below (HL9.out.below q).bel)
        obtain ⟨nR, hnR⟩ : ∃ z, s2.R.length = z := ⟨_, rfl⟩
        rw [hnR] at HPL HCN ⊢
        clear hr hb hnR HRG HN
        go_wp2
        go_loopw [11, 12, 13, 45] (fun nv _ _ iv wj => ∃ (j m : Nat), j ≤ Q.length ∧ m ≤ j ∧ nv = .int .i64 (m : Int) ∧ iv = .int .i64 (j : Int) ∧ Hid (m = cntS s2 j) ∧ Hid (Below w9.heap.size w9 wj)) (fun _ _ _ iv _ => Q.length - (intOf iv).toNat)
        case atStart => exact ⟨0, 0, Nat.zero_le _, Nat.le_refl _, rfl, rfl, rfl, Below.refl _ _⟩
        case round =>
          obtain ⟨j, m, hj, hmj, rfl, rfl, HM, HBJ⟩ := hrel
          rcases Nat.lt_or_ge j Q.length with hjl | hjl
          · obtain ⟨bq, oq, q, rfl, -, hx, hcx, -, -⟩ := (HQW.out _ HBJ.out).at hjl
            have hji : (j : Int) < (Q.length : Int) := by omega
            have hj0 : (0 : Int) ≤ (j : Int) := by omega
            have hj16 : j < 16 := by have := HN16.out; omega
            have hQj : Q.getD j 0 = q := by rw [List.getD_eq_getElem?_getD, hx]; rfl
            have hcb := HCB.out j hjl
            rw [hQj] at hcb
            have hpr := decide_eq_decide.1 (HPR.out j hjl)
            have HP1 := Lib.hid (HPL.out _ HBJ.out (j : Int))
            have HJ1 := Lib.hid (fun (W : World) (q : Below w9.heap.size w9 W) => HJB.out W q j hjl)
            have HC1 := Lib.hid (fun (W : World) (q : Below w9.heap.size w9 W) => HCD.out W q j hjl)
            have HMS := Lib.hid (cntS_succ s2 j)
            rw [← HM.out] at HMS
            obtain ⟨row, hrow⟩ : ∃ z, s2.J.getD j [] = z := ⟨_, rfl⟩
            obtain ⟨cj, hcj⟩ : ∃ z, s2.C.getD j 0 = z := ⟨_, rfl⟩
            obtain ⟨pl, hpl⟩ : ∃ z, placeI s2.R (j : Int) = z := ⟨_, rfl⟩
            rw [hrow] at hpr HJ1 HMS
            rw [hcj] at hcb HC1
            rw [hpl] at hpr HP1
            obtain ⟨nr, hnr⟩ : ∃ z, row.length = z := ⟨_, rfl⟩
            rw [hnr] at hpr HMS
            have HNR := Lib.hid hnr
            have d2 : decide (cj < 0) = false := decide_eq_false (by omega)
            have d3 : decide (q < cj) = false := decide_eq_false (by omega)
            clear hx hQj hrow hcj hpl hnr HM
            have hcase : (0 ≤ pl ∧ 0 < nr) ∨ (pl < 0 ∧ nr = 0) := by omega
            clear hpr
            rcases hcase with ⟨hp0, hn0⟩ | ⟨hp0, rfl⟩
            · have dP : decide (0 ≤ pl) = true := decide_eq_true hp0
              have dN : decide ((0 : Int) < (nr : Int)) = true := decide_eq_true (by omega)
              go_wp2_with fail
              (with_reducible refine HP1.out.mono ?_)
              rintro e wa ⟨rfl, rfl⟩
              go_wp2_with fail
              (with_reducible refine (HJ1.out _ HBJ.out).mono ?_)
              rintro e wb ⟨v1, rfl, hr1, -, hb1⟩
              obtain ⟨ar1, cr1, rfl, -, -⟩ := hr1.shape
              rw [HNR.out]
              have HB1 := Lib.hid (below_two HBJ.out hb1)
              clear hr1 hb1
              go_wp2_with fail
              (with_reducible refine (HC1.out _ HB1.out).mono ?_)
              rintro e wc ⟨rfl, rfl⟩
              go_wp2_with fail
              (with_reducible refine (HC1.out _ HB1.out).mono ?_)
              rintro e wc ⟨rfl, rfl⟩
              go_wp2_with fail
              (with_reducible refine (HJ1.out _ HB1.out).mono ?_)
              rintro e wd ⟨v2, rfl, hr2, -, hb2⟩
              obtain ⟨ar2, cr2, rfl, -, -⟩ := hr2.shape
              rw [HNR.out]
              have HB2 := Lib.hid (below_two HB1.out hb2)
              clear hr2 hb2
              go_wp2
              go_roundw
              case rel => exact ⟨j + 1, m + 1, hjl, by omega, by go_num, by go_num, by show m + 1 = cntS s2 (j + 1); rw [HMS.out, if_pos hn0], HB2.out⟩
              case measure => simp [intOf]; omega
            · have dP : decide (0 ≤ pl) = false := decide_eq_false (by omega)
              have dN : decide ((0 : Int) < ((0 : Nat) : Int)) = false := decide_eq_false (by omega)
              go_wp2_with fail
              (with_reducible refine HP1.out.mono ?_)
              rintro e wa ⟨rfl, rfl⟩
              go_wp2_with fail
              (with_reducible refine (HJ1.out _ HBJ.out).mono ?_)
              rintro e wb ⟨v1, rfl, hr1, -, hb1⟩
              obtain ⟨ar1, cr1, rfl, -, -⟩ := hr1.shape
              rw [HNR.out]
              have HB1 := Lib.hid (below_two HBJ.out hb1)
              clear hr1 hb1
              go_wp2_with fail
              (with_reducible refine (HC1.out _ HB1.out).mono ?_)
              rintro e wc ⟨rfl, rfl⟩
              go_wp2_with fail
              (with_reducible refine (HC1.out _ HB1.out).mono ?_)
              rintro e wc ⟨rfl, rfl⟩
              go_wp2_with fail
              (with_reducible refine (HJ1.out _ HB1.out).mono ?_)
              rintro e wd ⟨v2, rfl, hr2, -, hb2⟩
              obtain ⟨ar2, cr2, rfl, -, -⟩ := hr2.shape
              rw [HNR.out]
              have HB2 := Lib.hid (below_two HB1.out hb2)
              clear hr2 hb2
              go_wp2
              go_roundw
              case rel => exact ⟨j + 1, m, hjl, by omega, rfl, by go_num, by show m = cntS s2 (j + 1); rw [HMS.out, if_neg (Nat.lt_irrefl 0), Nat.add_zero], HB2.out⟩
              case measure => simp [intOf]; omega
          · obtain rfl : j = Q.length := by omega
            have hmR : m = nR := HM.out.trans HCN.out.symm
            subst hmR
            have hne : ((m : Int) != (m : Int)) = false := bne_self_eq_false _
            have HL10 := Lib.hid (HL9.out.below HBJ.out)
            clear HM HCN
            go_wp2
            go_roundw
            case rel => exact ⟨k + 1, _, _, _, s2, ow2, by omega, by go_num, HL10.out⟩
            case measure => simp [intOf]; omega
      · obtain rfl : k = l.length := by omega
        clear hk hge
        have k0 := HL.out.bx.cell (i := 0) (x := .slice aq Q.length cq) rfl
        have k1 := HL.out.bx.cell (i := 1) (x := .slice a1 n1 c1) rfl
        have k2 := HL.out.bx.cell (i := 2) (x := .slice a2 n2 c2) rfl
        have k3 := HL.out.bx.cell (i := 3) (x := .slice a3 n3 c3) rfl
        have HBW := Lib.hid HL.out.bel
        have HSB := Lib.hid HL.out.sz
        go_wp2_with fail
        (with_reducible refine (HLT.out _).mono ?_)
        rintro e w8 ⟨rfl, hb2⟩
        have HB9 := Lib.hid (HBW.out.trans (below_of hb2 HSB.out))
        clear hb2
        go_wp2
        go_ret
        exact ⟨rfl, HB9.out⟩
end Go.Proofs.Ytmgjmpmcadjemaa

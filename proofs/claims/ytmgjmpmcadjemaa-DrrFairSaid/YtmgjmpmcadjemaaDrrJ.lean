/- Package drr: the law DrrFair. -/
import Derived.Test.YtmgjmpmcadjemaaDrrI
namespace Go.Proofs.Ytmgjmpmcadjemaa
open Go.RowKit

theorem mulB {a b A B : Int} (h1 : 0 ≤ a) (h2 : a ≤ A) (h3 : 0 ≤ b) (h4 : b ≤ B) : 0 ≤ a * b ∧ a * b ≤ A * B :=
  ⟨Int.mul_nonneg h1 h3, Int.mul_le_mul h2 h4 h3 (Int.le_trans h1 h2)⟩
theorem FW.below {w0 w w' : World} {p rq gl gu : Nat} {vt : Value} {tb qb : Nat → Nat} {L U : List Int} {s : Sch} {ow : Nat → Nat} (h : FW w0 p rq vt tb qb gl gu L U s ow w) (k : Below w.heap.size w w') : FW w0 p rq vt tb qb gl gu L U s ow w' :=
  ⟨h.d.below k, h.l.below k, h.u.below k, h.zl, h.zu, h.ne, h.ll, h.lu, h.b.trans (below_of k h.d.hB)⟩
theorem cellD {w : World} {g : Nat} {l : List Int} {t : TypeId} (h : Blk w g (l.map (Value.int .i64)) t) {i : Nat} (hi : i < l.length) : w.cell? ⟨g, i, none⟩ = some (.int .i64 (l.getD i 0)) :=
  h.cell (by rw [List.getElem?_map, List.getElem?_eq_getElem hi, List.getD_eq_getElem?_getD, List.getElem?_eq_getElem hi]; rfl)
theorem getD_at {l : List Int} {i : Nat} {x : Int} (h : l[i]? = some x) : l.getD i 0 = x := by rw [List.getD_eq_getElem?_getD, h]; rfl

/-- the first jobs -/
def Ph1 (w0 : World) (p rq : Nat) (vt : Value) (tb qb : Nat → Nat) (gl gu : Nat) (Q : List Int) (t k : Nat) (d : Nat) (w : World) : Prop :=
  ∃ ow s L, FW w0 p rq vt tb qb gl gu L (List.replicate Q.length 0) s ow w ∧ Fill Q t k s ∧ Ok (4 * t + k) s ∧ L.length = Q.length ∧ (∀ i, i < t + d → L.getD i 0 = 1099511627776)
/-- the turns -/
def Ph2 (w0 : World) (p rq : Nat) (vt : Value) (tb qb : Nat → Nat) (gl gu : Nat) (Q : List Int) (j : Nat) (w : World) : Prop :=
  ∃ ow s L U r a b, FW w0 p rq vt tb qb gl gu L U s ow w ∧ Ok 64 s ∧ s.Q = Q ∧ FairAt r a b s U ∧ r ≤ j ∧ L.length = Q.length ∧ (∀ i, i < Q.length → L.getD i 0 = 1099511627776)

set_option maxHeartbeats 8000000 in
set_option maxRecDepth 100000 in
theorem lawDrrFair {vq vj vb : Value} {Q Jb Bs : List Int} {w : World} (hq : RInts w vq Q) (hj : RInts w vj Jb) (hb : RInts w vb Bs) :
    Calls Try.prog 6 #[vq, vj, vb] w fun e w' => e = .returned (.bool true) ∧ Below w.heap.size w w' := by
  have HLT := Lib.hid two_any
  have HM := Lib.hid (refmay30_any vq Q w hq)
  have HVQ := Lib.hid hq
  have HVJ := Lib.hid hj
  have HVB := Lib.hid hb
  obtain ⟨aq, cq, rfl, hcq1, hcq2⟩ := hq.shape
  obtain ⟨aj, cj, rfl, hcj1, hcj2⟩ := hj.shape
  obtain ⟨ab, cb, rfl, hcb1, hcb2⟩ := hb.shape
  cases hm : mayD Q with
  | false =>
    rw [hm] at HM
    clear hq hj hb hm
    go_enter Try.func6, Try.ntmps6
    go_wp2_with fail
    refine HM.out.mono ?_
    rintro e w1 ⟨rfl, rfl⟩
    go_wp2_with fail
    refine (HLT.out _).mono ?_
    rintro e w1 ⟨rfl, hb⟩
    go_wp2
    go_ret
    exact ⟨rfl, hb⟩
  | true =>
    rw [hm] at HM
    by_cases h100 : 100 < Bs.length
    · have t1 : decide (100 < Bs.length) = true := decide_eq_true h100
      have t1' : decide ((100 : Int) < (Bs.length : Int)) = true := decide_eq_true (by omega)
      clear hq hj hb hm h100
      go_enter Try.func6, Try.ntmps6
      go_wp2_with fail
      refine HM.out.mono ?_
      rintro e w1 ⟨rfl, rfl⟩
      go_wp2_with fail
      refine (HLT.out _).mono ?_
      rintro e w1 ⟨rfl, hb⟩
      go_wp2
      go_ret
      exact ⟨rfl, hb⟩
    have t1 : decide (100 < Bs.length) = false := decide_eq_false h100
    have t1' : decide ((100 : Int) < (Bs.length : Int)) = false := decide_eq_false (by omega)
    obtain ⟨hqa, hn0, hn16⟩ := mayD_iff.1 hm
    have HN := Lib.hid (dnew_any _ Q w hq hm)
    have OK0 := Lib.hid (new_ok hm)
    have HQA := Lib.hid hqa
    have hbl : Bs.length ≤ 100 := by omega
    clear hq hj hb hm h100 hqa
    go_enter Try.func6, Try.ntmps6
    go_wp2_with fail
    refine HM.out.mono ?_
    rintro e w1 ⟨rfl, rfl⟩
    go_wp2_with fail
    refine HN.out.mono ?_
    rintro e w1 ⟨p, rq, rfl, ow1, vt, tb, qb, h1, hb1⟩
    have H1 := Lib.hid h1
    have HB1 := Lib.hid hb1
    clear h1 hb1 HM HN
    go_wp2_with (at_make; refine wpList_make_blk _ rfl _ _ 28 rfl 3 (.int .i64 0) 8 Try.underlying28 intinfo rfl .i64 .i64 _ _ Q.length rfl rfl rfl rfl (by omega) (by unfold maxLen; omega) ?_)
    intro w2 hk2 hb2
    have HK2 := Lib.hid hk2
    have HB2 := Lib.hid hb2
    obtain ⟨gl, hgl⟩ : ∃ z, w1.heap.size = z := ⟨_, rfl⟩
    have HGL := Lib.hid hgl
    rw [hgl] at HK2 ⊢
    clear hk2 hb2 hgl
    go_wp2_with (at_make; refine wpList_make_blk _ rfl _ _ 28 rfl 3 (.int .i64 0) 8 Try.underlying28 intinfo rfl .i64 .i64 _ _ Q.length rfl rfl rfl rfl (by omega) (by unfold maxLen; omega) ?_)
    intro w3 hk3 hb3
    have HP := Lib.hid (show Ph1 w p rq vt tb qb gl w2.heap.size Q 0 0 0 w3 by
      obtain ⟨g1, e1⟩ := H1.out.grow HB2.out
      obtain ⟨g2, e2⟩ := g1.grow hb3
      have l1 := HK2.out.lt
      have hs1 := HB1.out.size
      have hs2 := HB2.out.size
      refine ⟨_, _, List.replicate Q.length 0, ⟨g2, ?_, ?_, ?_, frO_new (Nat.le_refl _), by omega, by have := HGL.out; omega, by omega, HB1.out.trans (below_of (below_two HB2.out hb3) HB1.out.size)⟩, fill_start Q, OK0.out, List.length_replicate, fun i hi => absurd hi (by omega)⟩
      · rw [List.map_replicate]; exact HK2.out.below hb3
      · rw [List.map_replicate]; exact hk3
      · rw [frO_old l1]; exact frO_new (by rw [HGL.out]; exact Nat.le_refl _))
    obtain ⟨gu, hgu⟩ : ∃ z, w2.heap.size = z := ⟨_, rfl⟩
    rw [hgu] at HP ⊢
    clear hk3 hb3 hgu H1 HB1 HK2 HB2 HGL OK0
    go_wp2
    go_loopw [45] (fun iv w4 => ∃ t : Nat, t ≤ Q.length ∧ iv = .int .i64 (t : Int) ∧ Hid (Ph1 w p rq vt tb qb gl gu Q t 0 0 w4 ∧ ∀ i, i < t → Q.getD i 0 ≤ 1000)) (fun iv _ => Q.length - (intOf iv).toNat)
    case atStart => exact ⟨0, Nat.zero_le _, rfl, HP.out, fun i hi => absurd hi (Nat.not_lt_zero _)⟩
    case round =>
      obtain ⟨t, ht, rfl, HP1⟩ := hrel
      clear HP
      rcases Nat.lt_or_ge t Q.length with hlt | hge
      · obtain ⟨⟨ow, s, L, hfw, hfill, hok, hLl, hLa⟩, hq1000⟩ := HP1.out
        obtain ⟨bq, oq, q, rfl, -, hx, hcx, -, -⟩ := (HVQ.out.below hfw.b).at hlt
        have hti : (t : Int) < (Q.length : Int) := by omega
        have ht0 : (0 : Int) ≤ (t : Int) := by omega
        have hQt := getD_at hx
        have BT := Lib.hid hfw.b
        by_cases hbig : 1000 < q
        · have d1 : decide (1000 < q) = true := decide_eq_true hbig
          clear hx hfw hfill hok hLl hLa hq1000 hbig hQt
          go_wp2_with fail
          refine (HLT.out _).mono ?_
          rintro e w5 ⟨rfl, hb⟩
          have HBE := Lib.hid (BT.out.trans (below_of hb BT.out.size))
          clear hb
          go_wp2
          go_ret
          exact ⟨rfl, HBE.out⟩
        have d1 : decide (1000 < q) = false := decide_eq_false hbig
        have HQ2 := Lib.hid (show ∀ i, i < t + 1 → Q.getD i 0 ≤ 1000 from fun i hi => by
          by_cases e : i = t
          · subst e; rw [hQt]; omega
          · exact hq1000 i (by omega))
        have c1 := cellD hfw.l (show t < L.length by omega)
        have f1 := hfw.l.free t
        have HS := Lib.hid (hfw.setL t 1099511627776)
        have HPS := Lib.hid (show Ph1 w p rq vt tb qb gl gu Q t 0 1 (wr.setCell ⟨gl, t, none⟩ (.int .i64 1099511627776)) from ⟨ow, s, _, hfw.setL t 1099511627776, hfill, hok, by rw [List.length_set]; exact hLl, fun i hi => by
          by_cases e : t = i
          · subst e; exact getD_set_eq (by omega) _ _
          · rw [getD_set_ne e]; exact hLa i (by omega)⟩)
        obtain ⟨wn, hwn⟩ : ∃ z, wr.setCell ⟨gl, t, none⟩ (.int .i64 1099511627776) = z := ⟨_, rfl⟩
        have HBN := Lib.hid HS.out.b
        rw [hwn] at HPS HBN
        have HWN := Lib.hid hwn
        clear hx hfw hfill hok hLl hLa hq1000 hbig hQt HS HP1 hwn BT
        have hcase : (∃ nn : Nat, 1 ≤ nn ∧ nn ≤ 4 ∧ t < Jb.length ∧ ((∃ y : Int, Jb[t]? = some y ∧ (nn : Int) = 1 + min (max y 0) 3))) ∨ Jb.length ≤ t := by
          by_cases e : t < Jb.length
          · left
            refine ⟨(1 + min (max (Jb.getD t 0) 0) 3).toNat, by omega, by omega, e, Jb.getD t 0, ?_, by omega⟩
            rw [List.getElem?_eq_getElem e, List.getD_eq_getElem?_getD, List.getElem?_eq_getElem e]; rfl
          · exact .inr (by omega)
        rcases hcase with ⟨nn, hn1, hn4, htj, y, hy, hyn⟩ | htj

        · have tj : (t : Int) < (Jb.length : Int) := by omega
          have tjd : decide ((t : Int) < (Jb.length : Int)) = true := decide_eq_true (by omega)
          obtain ⟨bj, oj, y', rfl, -, hy', hcy, -, -⟩ := (HVJ.out.below HBN.out).at htj
          obtain rfl : y = y' := by rw [hy] at hy'; exact Option.some.inj hy'
          obtain ⟨mx, hmx⟩ : ∃ z, (if (0 : Int) > y then 0 else y) = z := ⟨_, rfl⟩
          have hmx2 : (if y < 0 then (0 : Int) else y) = mx := by rw [← hmx]
          obtain ⟨mn, hmn⟩ : ∃ z, (if 3 < mx then (3 : Int) else mx) = z := ⟨_, rfl⟩
          have hmm : 1 + mn = (nn : Int) := by rw [hyn, ← hmn, ← hmx]; split <;> split <;> omega
          have hmw : IntKind.i64.wrap (1 + mn) = 1 + mn := IntWalk.i64_in _ (by omega)
          have hmw2 : IntKind.i64.wrap (nn : Int) = (nn : Int) := IntWalk.i64_in _ (by omega)
          clear hy hy' hyn
          rw [← HWN.out] at hcy
          go_wp2
          rw [HWN.out]
          clear hcy hmx hmx2 hmn hmm hmw c1 f1 HWN
          go_loopw [68] (fun kv w4 => ∃ k : Nat, k ≤ nn ∧ kv = .int .i64 (k : Int) ∧ Hid (Ph1 w p rq vt tb qb gl gu Q t k 1 w4)) (fun kv _ => nn - (intOf kv).toNat)
          case atStart => exact ⟨0, Nat.zero_le _, rfl, HPS.out⟩
          case round =>
            obtain ⟨k, hk, rfl, HPK⟩ := hrel
            clear HPS HBN
            rcases Nat.lt_or_ge k nn with hkn | hkn
            · obtain ⟨ow, s, L, hfw, hfill, hok, hLl, hLa⟩ := HPK.out
              have hki : (k : Int) < (nn : Int) := by omega
              obtain ⟨ea, hfill2⟩ := fill_add hfill hok hlt (by omega)
              have HA := Lib.hid (dadd_any (t : Int) (10 * (t : Int) + (k : Int)) hfw.d hok (by omega) (by omega) (by omega))
              have hok2 := hok.addM (t : Int) (10 * (t : Int) + (k : Int))
              rw [ea] at HA hok2
              have m1 : IntKind.i64.wrap (10 * (t : Int)) = 10 * (t : Int) := IntWalk.i64_in _ (by omega)
              have m2 : IntKind.i64.wrap (10 * (t : Int) + (k : Int)) = 10 * (t : Int) + (k : Int) := IntWalk.i64_in _ (by omega)
              have HNX := Lib.hid (fun (w5 : World) (hd : DDid ow w.heap.size p rq vt tb qb (addS s t (10 * (t : Int) + k)) wr w5) => (show Ph1 w p rq vt tb qb gl gu Q t (k + 1) 1 w5 from hd.elim fun ow5 h5 => ⟨ow5, _, L, hfw.act h5.1 h5.2, hfill2, hok2, hLl, hLa⟩))
              clear hfw hfill hok hLl hLa ea hfill2 hok2 HPK
              go_wp2_with fail
              refine HA.out.mono ?_
              rintro e w5 ⟨rfl, hd⟩
              have HP5 := Lib.hid (HNX.out w5 hd)
              clear hd HA HNX
              go_wp2
              go_roundw
              case rel => exact ⟨k + 1, hkn, by go_num, HP5.out⟩
              case measure => simp [intOf]; omega
            · obtain rfl : k = nn := by omega
              have HP5 := Lib.hid (show Ph1 w p rq vt tb qb gl gu Q (t + 1) 0 0 wr from by
                obtain ⟨ow, s, L, hfw, hfill, hok, hLl, hLa⟩ := HPK.out
                exact ⟨ow, s, L, hfw, fill_next hfill (by omega), hok.mono (by omega), hLl, fun i hi => hLa i (by omega)⟩)
              clear HPK
              go_wp2
              go_roundw
              case rel => exact ⟨t + 1, hlt, by go_num, HP5.out, HQ2.out⟩
              case measure => simp [intOf]; omega
        · have tjd : decide ((t : Int) < (Jb.length : Int)) = false := decide_eq_false (by omega)
          have tjd' : decide (t < Jb.length) = false := decide_eq_false (by omega)
          go_wp2
          rw [HWN.out]
          clear c1 f1 HWN
          go_loopw [68] (fun kv w4 => ∃ k : Nat, k ≤ 1 ∧ kv = .int .i64 (k : Int) ∧ Hid (Ph1 w p rq vt tb qb gl gu Q t k 1 w4)) (fun kv _ => 1 - (intOf kv).toNat)
          case atStart => exact ⟨0, Nat.zero_le _, rfl, HPS.out⟩
          case round =>
            obtain ⟨k, hk, rfl, HPK⟩ := hrel
            clear HPS HBN
            rcases Nat.lt_or_ge k 1 with hkn | hkn
            · obtain ⟨ow, s, L, hfw, hfill, hok, hLl, hLa⟩ := HPK.out
              have hki : (k : Int) < 1 := by omega
              obtain ⟨ea, hfill2⟩ := fill_add hfill hok hlt (by omega)
              have HA := Lib.hid (dadd_any (t : Int) (10 * (t : Int) + (k : Int)) hfw.d hok (by omega) (by omega) (by omega))
              have hok2 := hok.addM (t : Int) (10 * (t : Int) + (k : Int))
              rw [ea] at HA hok2
              have m1 : IntKind.i64.wrap (10 * (t : Int)) = 10 * (t : Int) := IntWalk.i64_in _ (by omega)
              have m2 : IntKind.i64.wrap (10 * (t : Int) + (k : Int)) = 10 * (t : Int) + (k : Int) := IntWalk.i64_in _ (by omega)
              have HNX := Lib.hid (fun (w5 : World) (hd : DDid ow w.heap.size p rq vt tb qb (addS s t (10 * (t : Int) + k)) wr w5) => (show Ph1 w p rq vt tb qb gl gu Q t (k + 1) 1 w5 from hd.elim fun ow5 h5 => ⟨ow5, _, L, hfw.act h5.1 h5.2, hfill2, hok2, hLl, hLa⟩))
              clear hfw hfill hok hLl hLa ea hfill2 hok2 HPK
              go_wp2_with fail
              refine HA.out.mono ?_
              rintro e w5 ⟨rfl, hd⟩
              have HP5 := Lib.hid (HNX.out w5 hd)
              clear hd HA HNX
              go_wp2
              go_roundw
              case rel => exact ⟨k + 1, hkn, by go_num, HP5.out⟩
              case measure => simp [intOf]; omega
            · obtain rfl : k = 1 := by omega
              have HP5 := Lib.hid (show Ph1 w p rq vt tb qb gl gu Q (t + 1) 0 0 wr from by
                obtain ⟨ow, s, L, hfw, hfill, hok, hLl, hLa⟩ := HPK.out
                exact ⟨ow, s, L, hfw, fill_next hfill (by omega), hok.mono (by omega), hLl, fun i hi => hLa i (by omega)⟩)
              clear HPK
              go_wp2
              go_roundw
              case rel => exact ⟨t + 1, hlt, by go_num, HP5.out, HQ2.out⟩
              case measure => simp [intOf]; omega
      · obtain rfl : t = Q.length := by omega
        have HP2 := Lib.hid (show Ph2 w p rq vt tb qb gl gu Q 0 wr by
          obtain ⟨⟨ow, s, L, hfw, hfill, hok, hLl, hLa⟩, -⟩ := HP1.out
          exact ⟨ow, s, L, _, 0, _, _, hfw, hok.mono (by omega), hfill.q, fill_fair hfill hok, Nat.le_refl _, hLl, fun i hi => hLa i (by omega)⟩)
        have HQ1 := Lib.hid HP1.out.2
        clear HP1
        go_wp2
        go_loopw [83] (fun jv w4 => ∃ j : Nat, j ≤ Bs.length ∧ jv = .int .i64 (j : Int) ∧ Hid (Ph2 w p rq vt tb qb gl gu Q j w4)) (fun jv _ => Bs.length - (intOf jv).toNat)
        case atStart => exact ⟨0, Nat.zero_le _, rfl, HP2.out⟩
        case round =>
          obtain ⟨j, hj, rfl, HPJ⟩ := hrel
          clear HP2
          rcases Nat.lt_or_ge j Bs.length with hjl | hjl
          · obtain ⟨ow, s, L, U, r, a, b, hfw, hok, hsq, hfair, hrj, hLl, hLa⟩ := HPJ.out
            obtain ⟨bb, ob, bud, rfl, -, hx, hcx, hx1, hx2⟩ := (HVB.out.below hfw.b).at hjl
            have hji : (j : Int) < (Bs.length : Int) := by omega
            have hj0 : (0 : Int) ≤ (j : Int) := by omega
            have hrl : RInts wr (.slice (some ⟨gl, 0, none⟩) Q.length Q.length) L := by
              have e := hfw.l.reads Q.length Q.length (Nat.le_refl _) (by unfold maxLen; omega)
              refine ⟨by rw [hLl]; exact e, fun x hx => ?_⟩
              obtain ⟨i, hi⟩ := List.mem_iff_getElem?.1 hx
              have h1 := (List.getElem?_eq_some_iff.1 hi).1
              have h2 := hLa i (by omega)
              rw [getD_at hi] at h2
              omega
            have HX := Lib.hid (dnext_any bud (.slice (some ⟨gl, 0, none⟩) Q.length Q.length) L hfw.d hok (by decide) hrl (fun _ g hg => by
              have e : gl = g := by simpa [Value.ownBlock] using hg
              rw [← e]; exact hfw.zl) hx1 hx2)
            clear hrl hx HPJ
            by_cases hb0 : bud < 1
            · have e1 : nextM s bud L = (s, none) := by unfold nextM; rw [if_pos (.inl hb0)]
              rw [e1] at HX
              have d1 : decide (0 < bud) = false := decide_eq_false (by omega)
              have HNX := Lib.hid (fun (w5 : World) (hd : DDid ow w.heap.size p rq vt tb qb s wr w5) => (show Ph2 w p rq vt tb qb gl gu Q (j + 1) (w5.alloc (.cells #[.int .i64 0, .int .i64 0, .int .i64 0] 59 (0, 0))) from hd.elim fun ow5 h5 => ⟨_, s, L, U, r, a, b, (hfw.act h5.1 h5.2).grow (below_alloc w5 _), hok, hsq, hfair, by omega, hLl, hLa⟩))
              unfold turnV at HX
              clear hfw hok hsq hfair hrj hLl hLa hb0 e1 hx1 hx2
              go_wp2_with fail
              refine HX.out.mono ?_
              rintro e w5 ⟨rfl, hd⟩
              have HP5 := Lib.hid (HNX.out w5 hd)
              clear hd HX HNX
              go_wp2
              go_roundw
              case rel => exact ⟨j + 1, hjl, by go_num, HP5.out⟩
              case measure => simp [intOf]; omega
            · have d1 : decide (0 < bud) = true := decide_eq_true (by omega)
              obtain ⟨i, jb, st, s2, tf, hs2q, r2, a2, b2, hr2, hfair2⟩ := fair_step (bud := bud) (left := L) hfair hok (fun i hi => by rw [hsq] at hi ⊢; exact HQ1.out i hi) (by omega) (by rw [hLl, hsq]) (fun i hi => hLa i (by omega))
              have e1 := tf.next
              rw [e1] at HX
              have hi : i < Q.length := by have := tf.hi; rwa [hsq] at this
              have hok2 : Ok 64 (fillS s i) := hok.fill tf.hi
              have hok3 : Ok 64 s2 := by have := hok2.spentM jb st false; rwa [tf.sp] at this
              have hUl : i < U.length := by rw [hfair.lu, hsq]; exact hi
              have hUb := hfair.between hok tf.hi
              have hqi := hok.q i tf.hi
              have hq1 : s.Q.getD i 0 ≤ 1000 := by rw [hsq]; exact HQ1.out i hi
              have hm1 := (mulB (a := (r : Int)) (b := s.Q.getD i 0) (A := 100) (B := 1000) (by omega) (by omega) (by omega) hq1)
              have hm2 : ((r : Int) + 1) * s.Q.getD i 0 = (r : Int) * s.Q.getD i 0 + s.Q.getD i 0 := by rw [Int.add_mul, Int.one_mul]
              obtain ⟨uo, huo⟩ : ∃ z, U.getD i 0 = z := ⟨_, rfl⟩
              have HUO := Lib.hid huo
              rw [huo] at hUb hfair2
              have hst1 := tf.s1
              have hst2 := tf.sb
              have hst3 := tf.sc
              have hsu : IntKind.i64.wrap (uo + st) = uo + st := IntWalk.i64_in _ (by omega)
              have g1 : decide ((i : Int) < 0) = false := decide_eq_false (by omega)
              have g2 : decide ((Q.length : Int) ≤ (i : Int)) = false := decide_eq_false (by omega)
              have g2' : decide (Q.length ≤ i) = false := decide_eq_false (by omega)
              have g3 : decide (st < 1) = false := decide_eq_false (by omega)
              have g4 : decide (bud < st) = false := decide_eq_false (by omega)
              have hii : (i : Int) < (Q.length : Int) := by omega
              have hi0 : (0 : Int) ≤ (i : Int) := by omega
              have HF := Lib.hid hfair2
              have OK3 := Lib.hid hok3
              have HSQ := Lib.hid (hs2q.trans hsq)
              have HR2 := Lib.hid (show r2 ≤ j + 1 by omega)
              have HLL := Lib.hid (And.intro hLl hLa)
              have HSP := Lib.hid tf.sp
              have OK2 := Lib.hid hok2
              have HFW := Lib.hid hfw
              have HUL := Lib.hid hUl
              unfold turnV at HX
              obtain ⟨sn, hsn⟩ : ∃ z, uo + st = z := ⟨_, rfl⟩
              rw [hsn] at HF
              have hsw : IntKind.i64.wrap sn = sn := by rw [← hsn]; exact hsu
              clear hfw hok hsq hfair hrj hLl hLa hb0 e1 hx1 hx2 tf hs2q hfair2 hr2 hok2 hok3 hUl hUb hqi hq1 hm1 hm2 huo hst1 hst2 hst3
              go_wp2_with fail
              refine HX.out.mono ?_
              rintro e w5 ⟨rfl, ow5, h5, f5⟩
              have hal := below_alloc w5 (.cells #[.int .i64 (i : Int), .int .i64 jb, .int .i64 st] 59 (0, 0))
              have k5 := (HFW.out.act h5 f5).grow hal
              have hT := Blk.new w5 [.int .i64 (i : Int), .int .i64 jb, .int .i64 st] 59
              have z5 : frO ow5 w5.heap.size 0 w5.heap.size = 0 := frO_new (Nat.le_refl _)
              have HS := Lib.hid (dspent_any jb st false k5.d OK2.out (by decide))
              rw [HSP.out] at HS
              have x0 := hT.cell (i := 0) (x := .int .i64 (i : Int)) rfl
              have x1 := hT.cell (i := 1) (x := .int .i64 jb) rfl
              have x2 := hT.cell (i := 2) (x := .int .i64 st) rfl
              have K5 := Lib.hid k5
              have HTT := Lib.hid (And.intro hT z5)
              clear h5 f5 hal k5 hT z5 HX HFW
              go_wp2_with fail
              refine HS.out.mono ?_
              rintro e w7 ⟨rfl, ow7, h7, f7⟩
              have K7 := Lib.hid (K5.out.act h7 f7)
              have hT7 := (f7.blk HTT.out.1 HTT.out.2).1
              have x0 := hT7.cell (i := 0) (x := .int .i64 (i : Int)) rfl
              have x1 := hT7.cell (i := 1) (x := .int .i64 jb) rfl
              have x2 := hT7.cell (i := 2) (x := .int .i64 st) rfl
              have y1 := cellD K7.out.u HUL.out
              rw [HUO.out] at y1
              have y2 := K7.out.u.free i
              have K8 := Lib.hid ((K7.out.setU i sn).below (below_drew1 _))
              clear h7 f7 hT7 HS K5 HTT K7
              go_wp2
              go_still_tail 12, (by kernel_rfl)
              change wpList _ _ _ _ _ (World.drew _)
              go_wp2
              obtain ⟨w8, hw8⟩ : ∃ z, (w7.setCell ⟨gu, i, none⟩ (.int .i64 sn)).drew = z := ⟨_, rfl⟩
              rw [hw8] at K8 ⊢
              clear hw8 x0 x1 x2 y1 y2 hsu hsn hsw
              obtain ⟨U2, hU2⟩ : ∃ z, U.set i sn = z := ⟨_, rfl⟩
              rw [hU2] at K8 HF
              clear hU2
              have HUB := Lib.hid (show ∀ x, x < Q.length → 0 ≤ U2.getD x 0 ∧ U2.getD x 0 ≤ 102000 from fun x hx => by
                have hx' : x < s2.Q.length := by rw [HSQ.out]; exact hx
                have b1 := HF.out.between OK3.out hx'
                have b2 := OK3.out.q x hx'
                have b3 : s2.Q.getD x 0 ≤ 1000 := by rw [HSQ.out]; exact HQ1.out x hx
                have b4 := HR2.out
                have b5 := (mulB (a := (r2 : Int)) (b := s2.Q.getD x 0) (A := 101) (B := 1000) (by omega) (by omega) (by omega) b3)
                have b6 : ((r2 : Int) + 1) * s2.Q.getD x 0 = (r2 : Int) * s2.Q.getD x 0 + s2.Q.getD x 0 := by rw [Int.add_mul, Int.one_mul]
                omega)
              have HUF := Lib.hid (show ∀ x y, x < Q.length → y < Q.length → U2.getD x 0 * Q.getD y 0 - U2.getD y 0 * Q.getD x 0 ≤ Q.getD x 0 * Q.getD y 0 from fun x y hx hy => by
                have := HF.out.fair OK3.out (i := x) (j := y) (by rw [HSQ.out]; exact hx) (by rw [HSQ.out]; exact hy)
                rwa [HSQ.out] at this)
              have HU2L := Lib.hid (show U2.length = Q.length by have := HF.out.lu; rwa [HSQ.out] at this)
              have HPN := Lib.hid (fun (w9 : World) (k : FW w p rq vt tb qb gl gu L U2 s2 ow7 w9) => (show Ph2 w p rq vt tb qb gl gu Q (j + 1) w9 from ⟨ow7, s2, L, U2, r2, a2, b2, k, OK3.out, HSQ.out, HF.out, HR2.out, HLL.out.1, HLL.out.2⟩))
              clear OK2 OK3 HF HSQ HR2 HLL HSP
              go_loopw [144] (fun av w9 => ∃ x : Nat, x ≤ Q.length ∧ av = .int .i64 (x : Int) ∧ Hid (FW w p rq vt tb qb gl gu L U2 s2 ow7 w9)) (fun av _ => Q.length - (intOf av).toNat)
              case atStart => exact ⟨0, Nat.zero_le _, rfl, K8.out⟩
              case round =>
                obtain ⟨x, hx, rfl, K9⟩ := hrel
                clear K8
                rcases Nat.lt_or_ge x Q.length with hxl | hxl
                · obtain ⟨bq, oq, q1, rfl, -, hq1, hcq, -, -⟩ := (HVQ.out.below K9.out.b).at hxl
                  have hxi : (x : Int) < (Q.length : Int) := by omega
                  have hx0 : (0 : Int) ≤ (x : Int) := by omega
                  have HQ1x := Lib.hid (And.intro (getD_at hq1) (HQA.out q1 (List.mem_of_getElem? hq1)))
                  clear hq1
                  go_wp2
                  go_loopw [151] (fun cv w9 => ∃ y : Nat, y ≤ Q.length ∧ cv = .int .i64 (y : Int) ∧ Hid (FW w p rq vt tb qb gl gu L U2 s2 ow7 w9)) (fun cv _ => Q.length - (intOf cv).toNat)
                  case atStart => exact ⟨0, Nat.zero_le _, rfl, K9.out⟩
                  case round =>
                    obtain ⟨y, hy, rfl, K10⟩ := hrel
                    clear K9
                    rcases Nat.lt_or_ge y Q.length with hyl | hyl
                    · obtain ⟨bq', oq', q2, hqq, -, hq2, hcq2, -, -⟩ := (HVQ.out.below K10.out.b).at hyl
                      obtain ⟨rfl, rfl⟩ : bq = bq' ∧ oq = oq' := by simpa using hqq
                      have hyi : (y : Int) < (Q.length : Int) := by omega
                      have hy0 : (0 : Int) ≤ (y : Int) := by omega
                      have c1 := cellD K10.out.u (show x < U2.length by rw [HU2L.out]; exact hxl)
                      have c2 := cellD K10.out.u (show y < U2.length by rw [HU2L.out]; exact hyl)
                      have hu1 := HUB.out x hxl
                      have hu2 := HUB.out y hyl
                      have hfr := HUF.out x y hxl hyl
                      have hQx := HQ1.out x hxl
                      have hQy := HQ1.out y hyl
                      have hq2a := HQA.out q2 (List.mem_of_getElem? hq2)
                      rw [getD_at hq2] at hQy hfr
                      rw [HQ1x.out.1] at hQx hfr
                      have hq1a := HQ1x.out.2
                      obtain ⟨u1, hu1e⟩ : ∃ z, U2.getD x 0 = z := ⟨_, rfl⟩
                      obtain ⟨u2, hu2e⟩ : ∃ z, U2.getD y 0 = z := ⟨_, rfl⟩
                      rw [hu1e] at c1 hu1 hfr
                      rw [hu2e] at c2 hu2 hfr
                      have b1 := mulB (a := u1) (b := q2) (A := 102000) (B := 1000) hu1.1 hu1.2 (by omega) hQy
                      have b2 := mulB (a := u2) (b := q1) (A := 102000) (B := 1000) hu2.1 hu2.2 (by omega) hQx
                      have b3 := mulB (a := q1) (b := q2) (A := 1000) (B := 1000) (by omega) hQx (by omega) hQy
                      have v1 : IntKind.i64.wrap (u1 * q2) = u1 * q2 := IntWalk.i64_in _ (by omega)
                      have v2 : IntKind.i64.wrap (u2 * q1) = u2 * q1 := IntWalk.i64_in _ (by omega)
                      have v3 : IntKind.i64.wrap (q1 * q2) = q1 * q2 := IntWalk.i64_in _ (by omega)
                      have v4 : IntKind.i64.wrap (u1 * q2 - u2 * q1) = u1 * q2 - u2 * q1 := IntWalk.i64_in _ (by omega)
                      have v5 : decide (q1 * q2 < u1 * q2 - u2 * q1) = false := decide_eq_false (by omega)
                      clear hqq hq2 hu1 hu2 hfr hQx hQy hq2a hq1a hu1e hu2e b1 b2 b3
                      go_wp2
                      go_quiet (fail)
                      have K11 := Lib.hid (K10.out.below (below_drawn ⟨_, rfl⟩ : Below wr.heap.size wr (wr.drewN nq)))
                      clear K10 c1 c2
                      go_wp2
                      go_roundw
                      case rel => exact ⟨y + 1, hyl, by go_num, K11.out⟩
                      case measure => simp [intOf]; omega
                    · obtain rfl : y = Q.length := by omega
                      go_wp2
                      go_roundw
                      case rel => exact ⟨x + 1, hxl, by go_num, K10.out⟩
                      case measure => simp [intOf]; omega
                · obtain rfl : x = Q.length := by omega
                  have HP9 := Lib.hid (HPN.out _ K9.out)
                  clear HPN K9 HUB HUF
                  go_wp2
                  go_roundw
                  case rel => exact ⟨j + 1, hjl, by go_num, HP9.out⟩
                  case measure => simp [intOf]; omega
          · obtain rfl : j = Bs.length := by omega
            have HBE := Lib.hid (show Below w.heap.size w wr from HPJ.out.elim fun _ h => h.elim fun _ h => h.elim fun _ h => h.elim fun _ h => h.elim fun _ h => h.elim fun _ h => h.elim fun _ h => h.1.b)
            clear HPJ
            go_wp2_with fail
            refine (HLT.out _).mono ?_
            rintro e w5 ⟨rfl, hb⟩
            have HBF := Lib.hid (HBE.out.trans (below_of hb HBE.out.size))
            clear hb
            go_wp2
            go_ret
            exact ⟨rfl, HBF.out⟩
end Go.Proofs.Ytmgjmpmcadjemaa

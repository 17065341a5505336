/- Package drr: the law's turn. -/
import Derived.Test.YtmgjmpmcadjemaaDrrUa
namespace Go.Proofs.Ytmgjmpmcadjemaa
open Go.RowKit

set_option maxHeartbeats 16000000 in
set_option maxRecDepth 100000 in
theorem turn30_any {K : Nat} {B : Nat} (X : Nat → Prop) {p rq : Nat} {vt : Value} {tb qb : Nat → Nat} (vq vc vj vr : Value) (s : Sch) (ow : Nat → Nat) (x : DA) (w : World) (h : LS B X p rq vt tb qb vq vc vj vr s s ow w) (ok : Ok K s) (hK : K ≤ 900) (hx : goodD w x) (hz : 0 < x.left.length → ∀ g, x.lv.ownBlock = some g → ow g = 0) :
    Calls Try.prog 67 #[.pointer (some ⟨p, 0, none⟩), .agg #[vq, vc, vj, vr], .agg (encD x).toArray] w (Acted30 B X p rq vt tb qb vq s K ow w) := by
  have hlv := hx.left.shape
  obtain ⟨av, cv, hve, -, -⟩ := hlv
  obtain ⟨kind, ten, job, bud, used, lv, left, st⟩ := x
  dsimp only at hve hz hx
  subst hve
  obtain ⟨a0, c0, rfl, -, -⟩ := h.g.q.1.shape
  obtain ⟨a1, c1, rfl, -, -⟩ := h.g.c.1.shape
  obtain ⟨a2, c2, rfl, -, -⟩ := h.g.j.shape
  obtain ⟨a3, c3, rfl, -, -⟩ := h.g.r.1.shape
  obtain ⟨n0, hn0⟩ : ∃ z, s.Q.length = z := ⟨_, rfl⟩
  obtain ⟨n1, hn1⟩ : ∃ z, s.C.length = z := ⟨_, rfl⟩
  obtain ⟨n2, hn2⟩ : ∃ z, s.J.length = z := ⟨_, rfl⟩
  obtain ⟨n3, hn3⟩ : ∃ z, s.R.length = z := ⟨_, rfl⟩
  obtain ⟨nv, hnv⟩ : ∃ z, left.length = z := ⟨_, rfl⟩
  have HN0 := Lib.hid hn0
  have HNV := Lib.hid hnv
  have hxk : i64B kind := hx.kind
  have hxt : i64B ten := hx.ten
  have hxj : i64B job := hx.job
  have hxb : i64B bud := hx.bud
  have hxu : i64B used := hx.used
  have hxl : RInts w (.slice av left.length cv) left := hx.left
  rw [hnv] at hz hxl
  rw [hn0, hn1, hn2, hn3] at h
  unfold encD at *
  dsimp only at *
  rw [hn0, hn1, hn2, hn3, hnv]
  have HZ := Lib.hid hz
  have HXK := Lib.hid hxk
  have HXT := Lib.hid hxt
  have HXJ := Lib.hid hxj
  have HXB := Lib.hid hxb
  have HXU := Lib.hid hxu
  have HXL := Lib.hid hxl
  have HOK := Lib.hid ok
  obtain ⟨W1, hW1⟩ : ∃ z, ((w.alloc (.cells #[.slice a0 n0 c0, .slice a1 n1 c1, .slice a2 n2 c2, .slice a3 n3 c3] 67 (0, 0))).alloc (.cells #[.int .i64 kind, .int .i64 ten, .int .i64 job, .int .i64 bud, .int .i64 used, .slice av nv cv, .bool st] 70 (0, 0))).alloc (.cells #[.slice none 0 0, .slice none 0 0, .slice none 0 0, .slice none 0 0, .bool false] 72 (0, 0)) = z := ⟨_, rfl⟩
  have HAL := Lib.hid (show Below w.heap.size w W1 by rw [← hW1]; exact below_two (alloc2 _ _ _) (below_alloc _ _))
  have HSZ := Lib.hid (show W1.heap.size = w.heap.size + 3 by rw [← hW1]; simp)
  have HAB := Lib.hid (show AB w (.slice a0 n0 c0) (.slice a1 n1 c1) (.slice a2 n2 c2) (.slice a3 n3 c3) ⟨kind, ten, job, bud, used, .slice av nv cv, left, st⟩ ow W1 from
    ⟨by rw [← hW1]; exact (blk1st _ _ _ _).below (below_alloc _ _), by rw [← hW1]; exact (blk2nd w _ [.int .i64 kind, .int .i64 ten, .int .i64 job, .int .i64 bud, .int .i64 used, .slice av nv cv, .bool st] 70).below (below_alloc _ _), by
      rw [← hW1]
      have hq := Blk.new ((w.alloc (.cells #[.slice a0 n0 c0, .slice a1 n1 c1, .slice a2 n2 c2, .slice a3 n3 c3] 67 (0, 0))).alloc (.cells #[.int .i64 kind, .int .i64 ten, .int .i64 job, .int .i64 bud, .int .i64 used, .slice av nv cv, .bool st] 70 (0, 0))) Z5 72
      have hs : ((w.alloc (.cells #[.slice a0 n0 c0, .slice a1 n1 c1, .slice a2 n2 c2, .slice a3 n3 c3] 67 (0, 0))).alloc (.cells #[.int .i64 kind, .int .i64 ten, .int .i64 job, .int .i64 bud, .int .i64 used, .slice av nv cv, .bool st] 70 (0, 0))).heap.size = w.heap.size + 1 + 1 := by simp
      rwa [hs] at hq, h.z _ (Nat.le_refl _), h.z _ (by omega), h.z _ (by omega), by rw [HSZ.out]; exact Nat.le_refl _⟩)
  have HL := Lib.hid (h.off HAL.out)
  have HF := Lib.hid (show Fr ow ow w W1 from Fr.of_below HAL.out)
  have HW1 := Lib.hid hW1
  have k0 := HAB.out.st.cell (i := 0) (x := .slice a0 n0 c0) rfl
  have k1 := HAB.out.st.cell (i := 1) (x := .slice a1 n1 c1) rfl
  have k2 := HAB.out.st.cell (i := 2) (x := .slice a2 n2 c2) rfl
  have k3 := HAB.out.st.cell (i := 3) (x := .slice a3 n3 c3) rfl
  have u0 := HAB.out.ac.cell (i := 0) (x := .int .i64 kind) rfl
  have u1 := HAB.out.ac.cell (i := 1) (x := .int .i64 ten) rfl
  have u2 := HAB.out.ac.cell (i := 2) (x := .int .i64 job) rfl
  have u3 := HAB.out.ac.cell (i := 3) (x := .int .i64 bud) rfl
  have u4 := HAB.out.ac.cell (i := 4) (x := .int .i64 used) rfl
  have u5 := HAB.out.ac.cell (i := 5) (x := .slice av nv cv) rfl
  have u6 := HAB.out.ac.cell (i := 6) (x := .bool st) rfl
  clear h hz hx hxk hxt hxj hxb hxu hxl hW1 ok hn0 hn1 hn2 hn3 hnv
  have HNX := Lib.hid (dnext_any bud (.slice av nv cv) left HL.out.d HOK.out (by omega) (HXL.out.below HAL.out) (by rw [HNV.out]; exact HZ.out) HXB.out.1 HXB.out.2)
  rw [turnV_eq] at HNX
  have HTS := Lib.hid (fun (i j n : Int) (h : (nextM s bud left).2 = some (i, j, n)) => turn_spent HOK.out bud left h st)
  have HOKN := Lib.hid (HOK.out.next bud left)
  have HQN := Lib.hid (nextM_Q s bud left)
  have HRN := Lib.hid (fun (G : Nat → Prop) (W : World) (h : GS G W (.slice a0 n0 c0) (.slice a1 n1 c1) (.slice a2 n2 c2) (.slice a3 n3 c3) s) (hv : RInts W (.slice av nv cv) left) (hG : ∀ j, W.heap.size ≤ j → G j) => rnext30_any G _ _ _ _ (.slice av nv cv) s bud left W h HOK.out (by omega) hv HXB.out.1 HXB.out.2 hG)
  obtain ⟨NX, hNX⟩ : ∃ z, nextM s bud left = z := ⟨_, rfl⟩
  rw [hNX] at HNX HTS HOKN HQN HRN
  clear hNX
  have HSM := Lib.hid (show ∀ h : NX.2.isSome = true, NX.2 = some ((NX.2.getD (0, 0, 0)).1, (NX.2.getD (0, 0, 0)).2.1, (NX.2.getD (0, 0, 0)).2.2) from fun h => by
    cases hc : NX.2 with
    | none => rw [hc] at h; cases h
    | some v => rfl)
  obtain ⟨ti, hti⟩ : ∃ z, (NX.2.getD (0, 0, 0)).1 = z := ⟨_, rfl⟩
  obtain ⟨tj, htj⟩ : ∃ z, (NX.2.getD (0, 0, 0)).2.1 = z := ⟨_, rfl⟩
  obtain ⟨tn, htn⟩ : ∃ z, (NX.2.getD (0, 0, 0)).2.2 = z := ⟨_, rfl⟩
  obtain ⟨tb2, htb⟩ : ∃ z, NX.2.isSome = z := ⟨_, rfl⟩
  rw [hti, htj, htn, htb] at HNX HRN HSM
  obtain ⟨s2, hs2⟩ : ∃ z, NX.1 = z := ⟨_, rfl⟩
  rw [hs2] at HNX HRN HTS HOKN HQN
  clear hti htj htn htb hs2
  go_enter Try.func67, Try.ntmps67
  go_upto_region 1 with fail
  rw [HW1.out]
  clear HW1
  go_wp2_with fail
  refine HNX.out.mono ?_
  rintro e y1 ⟨rfl, hdd⟩
  obtain ⟨ow1, hl1, hf1⟩ := HL.out.act hdd
  have HL1 := Lib.hid (hl1.below (below_alloc y1 (.cells #[.int .i64 ti, .int .i64 tj, .int .i64 tn] 59 (0, 0))))
  have HF1 := Lib.hid ((HF.out.trans hf1).trans (Fr.of_below (ow := ow1) (below_alloc y1 (.cells #[.int .i64 ti, .int .i64 tj, .int .i64 tn] 59 (0, 0)))))
  have HAB1 := Lib.hid ((HAB.out.act hf1).below (below_alloc y1 (.cells #[.int .i64 ti, .int .i64 tj, .int .i64 tn] 59 (0, 0))))
  have HT7 := Lib.hid (show Blk (y1.alloc (.cells #[.int .i64 ti, .int .i64 tj, .int .i64 tn] 59 (0, 0))) y1.heap.size [.int .i64 ti, .int .i64 tj, .int .i64 tn] 59 from Blk.new y1 _ _)
  have HO7 := Lib.hid (hl1.z _ (Nat.le_refl _))
  have HXL1 := Lib.hid ((rints_off (HXL.out.below HAL.out) hf1.1 (fun h0 g hg => by
    rw [HNV.out] at h0
    have := HZ.out h0 g hg
    omega)).below (below_alloc y1 (.cells #[.int .i64 ti, .int .i64 tj, .int .i64 tn] 59 (0, 0))))
  have HS7 := Lib.hid (show w.heap.size + 3 ≤ y1.heap.size by have h1 := hf1.1.size; have h2 := HSZ.out; omega)
  clear hl1 hf1 hdd HNX k0 k1 k2 k3 u0 u1 u2 u3 u4 u5 u6 HAB HL HF HXL HZ
  go_upto_region 2 with fail
  obtain ⟨b7, hb7⟩ : ∃ z, y1.heap.size = z := ⟨_, rfl⟩
  rw [hb7] at HT7 HO7 HS7 ⊢
  obtain ⟨w2, hw2⟩ : ∃ z, y1.alloc (.cells #[.int .i64 ti, .int .i64 tj, .int .i64 tn] 59 (0, 0)) = z := ⟨_, rfl⟩
  rw [hw2] at HL1 HF1 HAB1 HT7 HXL1 ⊢
  clear hb7 hw2
  have k0 := HAB1.out.st.cell (i := 0) (x := .slice a0 n0 c0) rfl
  have k1 := HAB1.out.st.cell (i := 1) (x := .slice a1 n1 c1) rfl
  have k2 := HAB1.out.st.cell (i := 2) (x := .slice a2 n2 c2) rfl
  have k3 := HAB1.out.st.cell (i := 3) (x := .slice a3 n3 c3) rfl
  have u3 := HAB1.out.ac.cell (i := 3) (x := .int .i64 bud) rfl
  have u5 := HAB1.out.ac.cell (i := 5) (x := .slice av nv cv) rfl
  have HRX := Lib.hid (HRN.out _ w2 HL1.out.g HXL1.out HL1.out.hG)
  go_wp2_with fail
  refine HRX.out.mono ?_
  rintro e w3 ⟨v1, v2, v3, rfl, hg, hb⟩
  obtain ⟨a1n, c1n, rfl, -, -⟩ := hg.c.1.shape
  obtain ⟨a2n, c2n, rfl, -, -⟩ := hg.j.shape
  obtain ⟨a3n, c3n, rfl, -, -⟩ := hg.r.1.shape
  obtain ⟨m1, hm1⟩ : ∃ z, s2.C.length = z := ⟨_, rfl⟩
  obtain ⟨m2, hm2⟩ : ∃ z, s2.J.length = z := ⟨_, rfl⟩
  obtain ⟨m3, hm3⟩ : ∃ z, s2.R.length = z := ⟨_, rfl⟩
  rw [hm1, hm2, hm3] at hg ⊢
  have hba := below_two hb (below_alloc w3 (.cells #[.slice a0 n0 c0, .slice a1n m1 c1n, .slice a2n m2 c2n, .slice a3n m3 c3n, .int .i64 ti, .int .i64 tj, .int .i64 tn, .bool tb2] 127 (0, 0)))
  have HL2 := Lib.hid ((HL1.out.ref hb hg).below (below_alloc w3 (.cells #[.slice a0 n0 c0, .slice a1n m1 c1n, .slice a2n m2 c2n, .slice a3n m3 c3n, .int .i64 ti, .int .i64 tj, .int .i64 tn, .bool tb2] 127 (0, 0))))
  have HF2 := Lib.hid (HF1.out.trans (Fr.of_below (ow := ow1) hba))
  have HAB2 := Lib.hid (HAB1.out.below hba)
  have HT72 := Lib.hid (HT7.out.below hba)
  have HT9 := Lib.hid (show Blk (w3.alloc (.cells #[.slice a0 n0 c0, .slice a1n m1 c1n, .slice a2n m2 c2n, .slice a3n m3 c3n, .int .i64 ti, .int .i64 tj, .int .i64 tn, .bool tb2] 127 (0, 0))) w3.heap.size [.slice a0 n0 c0, .slice a1n m1 c1n, .slice a2n m2 c2n, .slice a3n m3 c3n, .int .i64 ti, .int .i64 tj, .int .i64 tn, .bool tb2] 127 from Blk.new w3 _ _)
  have HO9 := Lib.hid (HL1.out.z w3.heap.size hb.size)
  clear hg hb hm1 hm2 hm3 HRX HL1 HF1 HAB1 HT7 HXL1 k0 k1 k2 k3 u3 u5 hba HRN
  go_upto_region 3 with fail
  obtain ⟨b9, hb9⟩ : ∃ z, w3.heap.size = z := ⟨_, rfl⟩
  rw [hb9] at HT9 HO9 ⊢
  obtain ⟨w4, hw4⟩ : ∃ z, w3.alloc (.cells #[.slice a0 n0 c0, .slice a1n m1 c1n, .slice a2n m2 c2n, .slice a3n m3 c3n, .int .i64 ti, .int .i64 tj, .int .i64 tn, .bool tb2] 127 (0, 0)) = z := ⟨_, rfl⟩
  rw [hw4] at HL2 HF2 HAB2 HT72 HT9 ⊢
  clear hb9 hw4
  have u0 := HAB2.out.ac.cell (i := 0) (x := .int .i64 kind) rfl
  have u4 := HAB2.out.ac.cell (i := 4) (x := .int .i64 used) rfl
  have u6 := HAB2.out.ac.cell (i := 6) (x := .bool st) rfl
  have p0 := HT72.out.cell (i := 0) (x := .int .i64 ti) rfl
  have p1 := HT72.out.cell (i := 1) (x := .int .i64 tj) rfl
  have p2 := HT72.out.cell (i := 2) (x := .int .i64 tn) rfl
  have q0 := HT9.out.cell (i := 0) (x := .slice a0 n0 c0) rfl
  have q1 := HT9.out.cell (i := 1) (x := .slice a1n m1 c1n) rfl
  have q2 := HT9.out.cell (i := 2) (x := .slice a2n m2 c2n) rfl
  have q3 := HT9.out.cell (i := 3) (x := .slice a3n m3 c3n) rfl
  have q4 := HT9.out.cell (i := 4) (x := .int .i64 ti) rfl
  have q5 := HT9.out.cell (i := 5) (x := .int .i64 tj) rfl
  have q6 := HT9.out.cell (i := 6) (x := .int .i64 tn) rfl
  have q7 := HT9.out.cell (i := 7) (x := .bool tb2) rfl
  have e1 : (ti != ti) = false := bne_self_eq_false _
  have e2 : (tj != tj) = false := bne_self_eq_false _
  have e3 : (tn != tn) = false := bne_self_eq_false _
  have e4 : (tb2 != tb2) = false := bne_self_eq_false _
  by_cases hk2 : kind = 2
  · subst hk2
    go_upto_region 6 with fail
    have r0 := HAB2.out.rs.cell (i := 0) (x := .slice none 0 0) rfl
    have r1 := HAB2.out.rs.cell (i := 1) (x := .slice none 0 0) rfl
    have r2 := HAB2.out.rs.cell (i := 2) (x := .slice none 0 0) rfl
    have r3 := HAB2.out.rs.cell (i := 3) (x := .slice none 0 0) rfl
    have r4 := HAB2.out.rs.cell (i := 4) (x := .bool false) rfl
    have s0 := HAB2.out.rs.free 0
    have s1 := HAB2.out.rs.free 1
    have s2 := HAB2.out.rs.free 2
    have s3 := HAB2.out.rs.free 3
    have s4 := HAB2.out.rs.free 4
    have HFN := Lib.hid (act_fin (rb := w.heap.size + 1 + 1) HL2.out (fun j hj => ⟨hj.1, by have h1 := hj.2; have h2 := HSZ.out; omega⟩) (by omega) HAB2.out.o2 HF2.out (keep5 (.slice a0 n0 c0) (.slice a1n m1 c1n) (.slice a2n m2 c2n) (.slice a3n m3 c3n) (.bool true)))
    have HB5 := Lib.hid (set5 (.slice a0 n0 c0) (.slice a1n m1 c1n) (.slice a2n m2 c2n) (.slice a3n m3 c3n) (.bool true) HAB2.out.rs rfl)
    go_wp2
    obtain ⟨w5, hw5⟩ : ∃ z, (((((w4.setCell ⟨w.heap.size + 1 + 1, 0, none⟩ (.slice a0 n0 c0)).setCell ⟨w.heap.size + 1 + 1, 1, none⟩ (.slice a1n m1 c1n)).setCell ⟨w.heap.size + 1 + 1, 2, none⟩ (.slice a2n m2 c2n)).setCell ⟨w.heap.size + 1 + 1, 3, none⟩ (.slice a3n m3 c3n)).setCell ⟨w.heap.size + 1 + 1, 4, none⟩ (.bool true)) = z := ⟨_, rfl⟩
    rw [hw5] at HFN HB5 ⊢
    have y0 := HB5.out.cell (i := 0) (x := .slice a0 n0 c0) rfl
    have y1 := HB5.out.cell (i := 1) (x := .slice a1n m1 c1n) rfl
    have y2 := HB5.out.cell (i := 2) (x := .slice a2n m2 c2n) rfl
    have y3 := HB5.out.cell (i := 3) (x := .slice a3n m3 c3n) rfl
    have y4 := HB5.out.cell (i := 4) (x := .bool true) rfl
    refine bodyPost_ret (v := .agg #[.slice a0 n0 c0, .slice a1n m1 c1n, .slice a2n m2 c2n, .slice a3n m3 c3n, .bool true]) (by simp [results, Try.results67, go_sem, y0, y1, y2, y3, y4]) rfl ?_
    exact ⟨_, _, _, _, _, rfl, HFN.out.1, (HOKN.out.mono (by omega)), HQN.out, HFN.out.2⟩
  · have dk : (kind == 2) = false := beq_eq_false_iff_ne.2 hk2
    clear hk2
    cases tb2 with
    | false =>
      go_upto_region 6 with fail
      have r0 := HAB2.out.rs.cell (i := 0) (x := .slice none 0 0) rfl
      have r1 := HAB2.out.rs.cell (i := 1) (x := .slice none 0 0) rfl
      have r2 := HAB2.out.rs.cell (i := 2) (x := .slice none 0 0) rfl
      have r3 := HAB2.out.rs.cell (i := 3) (x := .slice none 0 0) rfl
      have r4 := HAB2.out.rs.cell (i := 4) (x := .bool false) rfl
      have s0 := HAB2.out.rs.free 0
      have s1 := HAB2.out.rs.free 1
      have s2 := HAB2.out.rs.free 2
      have s3 := HAB2.out.rs.free 3
      have s4 := HAB2.out.rs.free 4
      have HFN := Lib.hid (act_fin (rb := w.heap.size + 1 + 1) HL2.out (fun j hj => ⟨hj.1, by have h1 := hj.2; have h2 := HSZ.out; omega⟩) (by omega) HAB2.out.o2 HF2.out (keep5 (.slice a0 n0 c0) (.slice a1n m1 c1n) (.slice a2n m2 c2n) (.slice a3n m3 c3n) (.bool true)))
      have HB5 := Lib.hid (set5 (.slice a0 n0 c0) (.slice a1n m1 c1n) (.slice a2n m2 c2n) (.slice a3n m3 c3n) (.bool true) HAB2.out.rs rfl)
      go_wp2
      obtain ⟨w5, hw5⟩ : ∃ z, (((((w4.setCell ⟨w.heap.size + 1 + 1, 0, none⟩ (.slice a0 n0 c0)).setCell ⟨w.heap.size + 1 + 1, 1, none⟩ (.slice a1n m1 c1n)).setCell ⟨w.heap.size + 1 + 1, 2, none⟩ (.slice a2n m2 c2n)).setCell ⟨w.heap.size + 1 + 1, 3, none⟩ (.slice a3n m3 c3n)).setCell ⟨w.heap.size + 1 + 1, 4, none⟩ (.bool true)) = z := ⟨_, rfl⟩
      rw [hw5] at HFN HB5 ⊢
      have y0 := HB5.out.cell (i := 0) (x := .slice a0 n0 c0) rfl
      have y1 := HB5.out.cell (i := 1) (x := .slice a1n m1 c1n) rfl
      have y2 := HB5.out.cell (i := 2) (x := .slice a2n m2 c2n) rfl
      have y3 := HB5.out.cell (i := 3) (x := .slice a3n m3 c3n) rfl
      have y4 := HB5.out.cell (i := 4) (x := .bool true) rfl
      refine bodyPost_ret (v := .agg #[.slice a0 n0 c0, .slice a1n m1 c1n, .slice a2n m2 c2n, .slice a3n m3 c3n, .bool true]) (by simp [results, Try.results67, go_sem, y0, y1, y2, y3, y4]) rfl ?_
      exact ⟨_, _, _, _, _, rfl, HFN.out.1, (HOKN.out.mono (by omega)), HQN.out, HFN.out.2⟩
    | true =>
      obtain ⟨hn0, hn40, hsp⟩ := HTS.out ti tj tn (HSM.out rfl)
      have HSP := Lib.hid hsp
      have HNN := Lib.hid (And.intro hn0 hn40)
      clear hsp hn0 hn40
      go_upto_region 8 with fail
      obtain ⟨mx, hmx⟩ : ∃ z, (if used < 0 then 0 else used) = z := ⟨_, rfl⟩
      rw [hmx]
      obtain ⟨ux, hux⟩ : ∃ z, (if tn < mx then tn else mx) = z := ⟨_, rfl⟩
      have hu : 0 ≤ ux ∧ ux ≤ tn := by
        have h1 := HNN.out
        have h2 : 0 ≤ mx := by rw [← hmx]; split <;> omega
        rw [← hux]
        split <;> omega
      rw [hux]
      clear hux hmx
      have hcd := HSP.out ux hu.1 hu.2
      have HRA := Lib.hid (rspent30_any (K := K) _ _ _ _ _ s2 tj ux st w4 HL2.out.g HOKN.out (by omega) HL2.out.hG)
      have HDX := Lib.hid (fun (ow1 : Nat → Nat) (W : World) (h : DAt ow1 B W p rq vt tb qb s2) => dspent_any (K := K) tj ux st h HOKN.out (by omega))
      have HOK3 := Lib.hid ((HOKN.out.spentM tj ux st).mono (Nat.le_add_right K 1))
      have HQ3 := Lib.hid ((spentM_Q s2 tj ux st).trans HQN.out)
      obtain ⟨s3, hs3⟩ : ∃ z, (spentM s2 tj ux st).2 = z := ⟨_, rfl⟩
      rw [hcd, hs3] at HRA HDX
      rw [hs3] at HOK3 HQ3
      clear hcd hs3 hu HSP HNN
      go_wp2_with fail
      (with_reducible refine HRA.out.mono ?_)
      rintro e w5 ⟨v1, v2, v3, rfl, hg, hb⟩
      obtain ⟨a1s, c1s, rfl, -, -⟩ := hg.c.1.shape
      obtain ⟨a2s, c2s, rfl, -, -⟩ := hg.j.shape
      obtain ⟨a3s, c3s, rfl, -, -⟩ := hg.r.1.shape
      obtain ⟨l1, hl1⟩ : ∃ z, s3.C.length = z := ⟨_, rfl⟩
      obtain ⟨l2, hl2⟩ : ∃ z, s3.J.length = z := ⟨_, rfl⟩
      obtain ⟨l3, hl3⟩ : ∃ z, s3.R.length = z := ⟨_, rfl⟩
      rw [hl1, hl2, hl3] at hg ⊢
      have hba := below_two hb (below_alloc w5 (.cells #[.slice a0 n0 c0, .slice a1s l1 c1s, .slice a2s l2 c2s, .slice a3s l3 c3s, .int .i64 0] 109 (0, 0)))
      have HL5 := Lib.hid ((HL2.out.ref hb hg).below (below_alloc w5 (.cells #[.slice a0 n0 c0, .slice a1s l1 c1s, .slice a2s l2 c2s, .slice a3s l3 c3s, .int .i64 0] 109 (0, 0))))
      have HF5 := Lib.hid (HF2.out.trans (Fr.of_below (ow := ow1) hba))
      have HAB5 := Lib.hid (HAB2.out.below hba)
      have HT75 := Lib.hid (HT72.out.below hba)
      have HT11 := Lib.hid (show Blk (w5.alloc (.cells #[.slice a0 n0 c0, .slice a1s l1 c1s, .slice a2s l2 c2s, .slice a3s l3 c3s, .int .i64 0] 109 (0, 0))) w5.heap.size [.slice a0 n0 c0, .slice a1s l1 c1s, .slice a2s l2 c2s, .slice a3s l3 c3s, .int .i64 0] 109 from Blk.new w5 _ _)
      have HO11 := Lib.hid (HL2.out.z w5.heap.size hb.size)
      have HNE := Lib.hid (show w5.heap.size ≠ w.heap.size + 1 + 1 by have h1 := hb.size; have h2 := HAB2.out.sz; omega)
      have HN7 := Lib.hid (show b7 ≠ w.heap.size + 1 + 1 by have h2 := HS7.out; omega)
      clear hg hb hl1 hl2 hl3 hba HRA HL2 HF2 HAB2 HT72 HT9 HO9 u0 u4 u6 p0 p1 p2 q0 q1 q2 q3 q4 q5 q6 q7 e1 e2 e3 e4
      go_upto_region 9 with fail
      obtain ⟨b11, hb11⟩ : ∃ z, w5.heap.size = z := ⟨_, rfl⟩
      rw [hb11] at HT11 HO11 HNE ⊢
      obtain ⟨w6, hw6⟩ : ∃ z, w5.alloc (.cells #[.slice a0 n0 c0, .slice a1s l1 c1s, .slice a2s l2 c2s, .slice a3s l3 c3s, .int .i64 0] 109 (0, 0)) = z := ⟨_, rfl⟩
      rw [hw6] at HL5 HF5 HAB5 HT75 HT11 ⊢
      clear hb11 hw6
      have HDA := Lib.hid (HDX.out _ _ (HL5.out.below (below_drew1 w6)).d)
      clear HDX
      have hbd := HT11.out.below (below_drew1 w6)
      have had := (HAB5.out.below (below_drew1 w6)).ac
      have h7d := HT75.out.below (below_drew1 w6)
      have q0 := hbd.cell (i := 0) (x := .slice a0 n0 c0) rfl
      have q1 := hbd.cell (i := 1) (x := .slice a1s l1 c1s) rfl
      have q2 := hbd.cell (i := 2) (x := .slice a2s l2 c2s) rfl
      have q3 := hbd.cell (i := 3) (x := .slice a3s l3 c3s) rfl
      have q4 := hbd.cell (i := 4) (x := .int .i64 0) rfl
      have p1 := h7d.cell (i := 1) (x := .int .i64 tj) rfl
      have u6 := had.cell (i := 6) (x := .bool st) rfl
      clear hbd had h7d
      go_region_held3 (fun w' => w'.cell? ⟨b11, 0, none⟩ = some (.slice a0 n0 c0) ∧ w'.cell? ⟨b11, 1, none⟩ = some (.slice a1s l1 c1s) ∧ w'.cell? ⟨b11, 2, none⟩ = some (.slice a2s l2 c2s) ∧ w'.cell? ⟨b11, 3, none⟩ = some (.slice a3s l3 c3s) ∧ w'.cell? ⟨b11, 4, none⟩ = some (.int .i64 0) ∧ w'.cell? ⟨b7, 1, none⟩ = some (.int .i64 tj) ∧ w'.cell? ⟨w.heap.size + 1, 6, none⟩ = some (.bool st))
        (first | (with_reducible exact ⟨q0, q1, q2, q3, q4, p1, u6⟩) | (with_reducible exact ⟨z0, z1, z2, z3, z4, x1, x6⟩) | (with_reducible exact ⟨Z0.out, Z1.out, Z2.out, Z3.out, Z4.out, X1.out, X6.out⟩))
        (first | (go_at_call 31; (with_reducible refine HDA.out.mono ?_); rintro e y ⟨rfl, hdd⟩; obtain ⟨ow2, hl, hf⟩ := (HL5.out.below (below_drew1 w6)).act hdd; have HL6 := Lib.hid hl; have HF6 := Lib.hid ((HF5.out.trans (Fr.of_below (ow := ow1) (below_drew1 w6))).trans hf); have HAB6 := Lib.hid ((HAB5.out.below (below_drew1 w6)).act hf); have htx := (hf.blk (HT11.out.below (below_drew1 w6)) HO11.out).1; have ht7 := (hf.blk (HT75.out.below (below_drew1 w6)) HO7.out).1; have z0 := htx.cell (i := 0) (x := .slice a0 n0 c0) rfl; have z1 := htx.cell (i := 1) (x := .slice a1s l1 c1s) rfl; have z2 := htx.cell (i := 2) (x := .slice a2s l2 c2s) rfl; have z3 := htx.cell (i := 3) (x := .slice a3s l3 c3s) rfl; have z4 := htx.cell (i := 4) (x := .int .i64 0) rfl; have x1 := ht7.cell (i := 1) (x := .int .i64 tj) rfl; have x6 := HAB6.out.ac.cell (i := 6) (x := .bool st) rfl; have r0 := HAB6.out.rs.cell (i := 0) (x := .slice none 0 0) rfl; have r1 := HAB6.out.rs.cell (i := 1) (x := .slice none 0 0) rfl; have r2 := HAB6.out.rs.cell (i := 2) (x := .slice none 0 0) rfl; have r3 := HAB6.out.rs.cell (i := 3) (x := .slice none 0 0) rfl; have r4 := HAB6.out.rs.cell (i := 4) (x := .bool false) rfl; have f0 := HAB6.out.rs.free 0; have f1 := HAB6.out.rs.free 1; have f2 := HAB6.out.rs.free 2; have f3 := HAB6.out.rs.free 3; have f4 := HAB6.out.rs.free 4; have hk9 := htx.keep (keep5 (w := y) (rb := w.heap.size + 1 + 1) (.slice a0 n0 c0) (.slice a1s l1 c1s) (.slice a2s l2 c2s) (.slice a3s l3 c3s) (.bool true)) (fun e => HNE.out e); have hk7 := ht7.keep (keep5 (w := y) (rb := w.heap.size + 1 + 1) (.slice a0 n0 c0) (.slice a1s l1 c1s) (.slice a2s l2 c2s) (.slice a3s l3 c3s) (.bool true)) (fun e => HN7.out e); have hka := HAB6.out.ac.keep (keep5 (w := y) (rb := w.heap.size + 1 + 1) (.slice a0 n0 c0) (.slice a1s l1 c1s) (.slice a2s l2 c2s) (.slice a3s l3 c3s) (.bool true)) (fun e => absurd (show w.heap.size + 1 = w.heap.size + 1 + 1 from e) (by omega)); have Z0 := Lib.hid (hk9.cell (i := 0) (x := .slice a0 n0 c0) rfl); have Z1 := Lib.hid (hk9.cell (i := 1) (x := .slice a1s l1 c1s) rfl); have Z2 := Lib.hid (hk9.cell (i := 2) (x := .slice a2s l2 c2s) rfl); have Z3 := Lib.hid (hk9.cell (i := 3) (x := .slice a3s l3 c3s) rfl); have Z4 := Lib.hid (hk9.cell (i := 4) (x := .int .i64 0) rfl); have X1 := Lib.hid (hk7.cell (i := 1) (x := .int .i64 tj) rfl); have X6 := Lib.hid (hka.cell (i := 6) (x := .bool st) rfl); clear hl hf hdd htx ht7 hk9 hk7 hka) | fail)
      all_goals
        clear q0 z0 r0 f0 Z0 q1 z1 r1 f1 Z1 q2 z2 r2 f2 Z2 q3 z3 r3 f3 Z3 q4 z4 r4 f4 Z4 p1 u6 x1 x6 X1 X6
        have HFN := Lib.hid (act_fin (rb := w.heap.size + 1 + 1) HL6.out (fun j hj => ⟨hj.1, by have h1 := hj.2; have h2 := HSZ.out; omega⟩) (by omega) HAB6.out.o2 HF6.out (keep5 (.slice a0 n0 c0) (.slice a1s l1 c1s) (.slice a2s l2 c2s) (.slice a3s l3 c3s) (.bool true)))
        have HB5 := Lib.hid (set5 (.slice a0 n0 c0) (.slice a1s l1 c1s) (.slice a2s l2 c2s) (.slice a3s l3 c3s) (.bool true) HAB6.out.rs rfl)
        obtain ⟨w7, hw7⟩ : ∃ z, (((((y.setCell ⟨w.heap.size + 1 + 1, 0, none⟩ (.slice a0 n0 c0)).setCell ⟨w.heap.size + 1 + 1, 1, none⟩ (.slice a1s l1 c1s)).setCell ⟨w.heap.size + 1 + 1, 2, none⟩ (.slice a2s l2 c2s)).setCell ⟨w.heap.size + 1 + 1, 3, none⟩ (.slice a3s l3 c3s)).setCell ⟨w.heap.size + 1 + 1, 4, none⟩ (.bool true)) = z := ⟨_, rfl⟩
        rw [hw7] at HFN HB5 ⊢
        have y0 := HB5.out.cell (i := 0) (x := .slice a0 n0 c0) rfl
        have y1 := HB5.out.cell (i := 1) (x := .slice a1s l1 c1s) rfl
        have y2 := HB5.out.cell (i := 2) (x := .slice a2s l2 c2s) rfl
        have y3 := HB5.out.cell (i := 3) (x := .slice a3s l3 c3s) rfl
        have y4 := HB5.out.cell (i := 4) (x := .bool true) rfl
        go_wp2
        refine bodyPost_ret (v := .agg #[.slice a0 n0 c0, .slice a1s l1 c1s, .slice a2s l2 c2s, .slice a3s l3 c3s, .bool true]) (by simp [results, Try.results67, go_sem, y0, y1, y2, y3, y4]) rfl ?_
        exact ⟨_, _, _, _, _, rfl, HFN.out.1, HOK3.out, HQ3.out, HFN.out.2⟩
end Go.Proofs.Ytmgjmpmcadjemaa

/- Package drr: the law's act: Spent. -/
import Derived.Test.YtmgjmpmcadjemaaDrrUa
namespace Go.Proofs.Ytmgjmpmcadjemaa
open Go.RowKit

set_option maxHeartbeats 16000000 in
set_option maxRecDepth 100000 in
theorem act30_spent {K : Nat} {B : Nat} (X : Nat → Prop) {p rq : Nat} {vt : Value} {tb qb : Nat → Nat} (vq vc vj vr : Value) (s : Sch) (ow : Nat → Nat) (x : DA) (w : World) (h : LS B X p rq vt tb qb vq vc vj vr s s ow w) (ok : Ok K s) (hK : K ≤ 900) (hx : goodD w x) (hz : 0 < x.left.length → ∀ g, x.lv.ownBlock = some g → ow g = 0) (h0 : x.kind ≠ 0) (h1 : x.kind ≠ 1) (h2 : x.kind ≠ 2) (h3 : x.kind ≠ 3) :
    Calls Try.prog 33 #[.pointer (some ⟨p, 0, none⟩), .agg #[vq, vc, vj, vr], .agg (encD x).toArray] w (Acted30 B X p rq vt tb qb vq s K ow w) := by
  have hlv := hx.left.shape
  obtain ⟨av, cv, hve, -, -⟩ := hlv
  obtain ⟨kind, ten, job, bud, used, lv, left, st⟩ := x
  dsimp only at hve hz hx
  dsimp only at h0
  dsimp only at h1
  dsimp only at h2
  dsimp only at h3
  subst hve
  obtain ⟨a0, c0, rfl, -, -⟩ := h.g.q.1.shape
  obtain ⟨a1, c1, rfl, -, -⟩ := h.g.c.1.shape
  obtain ⟨a2, c2, rfl, -, -⟩ := h.g.j.shape
  obtain ⟨a3, c3, rfl, -, -⟩ := h.g.r.1.shape
  obtain ⟨n0, hn0⟩ : ∃ z, s.Q.length = z := ⟨_, rfl⟩
  obtain ⟨n1, hn1⟩ : ∃ z, s.C.length = z := ⟨_, rfl⟩
  obtain ⟨n2, hn2⟩ : ∃ z, s.J.length = z := ⟨_, rfl⟩
  obtain ⟨n3, hn3⟩ : ∃ z, s.R.length = z := ⟨_, rfl⟩
  obtain ⟨nv, hnv⟩ : ∃ z, left.length = z := ⟨_, rfl⟩
  have HN0 := Lib.hid hn0
  have HNV := Lib.hid hnv
  have hxk : i64B kind := hx.kind
  have hxt : i64B ten := hx.ten
  have hxj : i64B job := hx.job
  have hxb : i64B bud := hx.bud
  have hxu : i64B used := hx.used
  have hxl : RInts w (.slice av left.length cv) left := hx.left
  rw [hnv] at hz hxl
  rw [hn0, hn1, hn2, hn3] at h
  unfold encD at *
  dsimp only at *
  rw [hn0, hn1, hn2, hn3, hnv]
  have HZ := Lib.hid hz
  have HXK := Lib.hid hxk
  have HXT := Lib.hid hxt
  have HXJ := Lib.hid hxj
  have HXB := Lib.hid hxb
  have HXU := Lib.hid hxu
  have HXL := Lib.hid hxl
  have HOK := Lib.hid ok
  obtain ⟨W1, hW1⟩ : ∃ z, ((w.alloc (.cells #[.slice a0 n0 c0, .slice a1 n1 c1, .slice a2 n2 c2, .slice a3 n3 c3] 67 (0, 0))).alloc (.cells #[.int .i64 kind, .int .i64 ten, .int .i64 job, .int .i64 bud, .int .i64 used, .slice av nv cv, .bool st] 70 (0, 0))).alloc (.cells #[.slice none 0 0, .slice none 0 0, .slice none 0 0, .slice none 0 0, .bool false] 72 (0, 0)) = z := ⟨_, rfl⟩
  have HAL := Lib.hid (show Below w.heap.size w W1 by rw [← hW1]; exact below_two (alloc2 _ _ _) (below_alloc _ _))
  have HSZ := Lib.hid (show W1.heap.size = w.heap.size + 3 by rw [← hW1]; simp)
  have HAB := Lib.hid (show AB w (.slice a0 n0 c0) (.slice a1 n1 c1) (.slice a2 n2 c2) (.slice a3 n3 c3) ⟨kind, ten, job, bud, used, .slice av nv cv, left, st⟩ ow W1 from
    ⟨by rw [← hW1]; exact (blk1st _ _ _ _).below (below_alloc _ _), by rw [← hW1]; exact (blk2nd w _ [.int .i64 kind, .int .i64 ten, .int .i64 job, .int .i64 bud, .int .i64 used, .slice av nv cv, .bool st] 70).below (below_alloc _ _), by
      rw [← hW1]
      have hq := Blk.new ((w.alloc (.cells #[.slice a0 n0 c0, .slice a1 n1 c1, .slice a2 n2 c2, .slice a3 n3 c3] 67 (0, 0))).alloc (.cells #[.int .i64 kind, .int .i64 ten, .int .i64 job, .int .i64 bud, .int .i64 used, .slice av nv cv, .bool st] 70 (0, 0))) Z5 72
      have hs : ((w.alloc (.cells #[.slice a0 n0 c0, .slice a1 n1 c1, .slice a2 n2 c2, .slice a3 n3 c3] 67 (0, 0))).alloc (.cells #[.int .i64 kind, .int .i64 ten, .int .i64 job, .int .i64 bud, .int .i64 used, .slice av nv cv, .bool st] 70 (0, 0))).heap.size = w.heap.size + 1 + 1 := by simp
      rwa [hs] at hq, h.z _ (Nat.le_refl _), h.z _ (by omega), h.z _ (by omega), by rw [HSZ.out]; exact Nat.le_refl _⟩)
  have HL := Lib.hid (h.off HAL.out)
  have HF := Lib.hid (show Fr ow ow w W1 from Fr.of_below HAL.out)
  have HW1 := Lib.hid hW1
  have k0 := HAB.out.st.cell (i := 0) (x := .slice a0 n0 c0) rfl
  have k1 := HAB.out.st.cell (i := 1) (x := .slice a1 n1 c1) rfl
  have k2 := HAB.out.st.cell (i := 2) (x := .slice a2 n2 c2) rfl
  have k3 := HAB.out.st.cell (i := 3) (x := .slice a3 n3 c3) rfl
  have u0 := HAB.out.ac.cell (i := 0) (x := .int .i64 kind) rfl
  have u1 := HAB.out.ac.cell (i := 1) (x := .int .i64 ten) rfl
  have u2 := HAB.out.ac.cell (i := 2) (x := .int .i64 job) rfl
  have u3 := HAB.out.ac.cell (i := 3) (x := .int .i64 bud) rfl
  have u4 := HAB.out.ac.cell (i := 4) (x := .int .i64 used) rfl
  have u5 := HAB.out.ac.cell (i := 5) (x := .slice av nv cv) rfl
  have u6 := HAB.out.ac.cell (i := 6) (x := .bool st) rfl
  clear h hz hx hxk hxt hxj hxb hxu hxl hW1 ok hn0 hn1 hn2 hn3 hnv
  have dk0 : (kind == 0) = false := beq_eq_false_iff_ne.2 h0
  have dk1 : (kind == 1) = false := beq_eq_false_iff_ne.2 h1
  have dk2 : (kind == 2) = false := beq_eq_false_iff_ne.2 h2
  have dk3 : (kind == 3) = false := beq_eq_false_iff_ne.2 h3
  clear h0 h1 h2 h3
  have HRA := Lib.hid (rspent30_any (K := K) _ _ _ _ _ s job used st W1 HL.out.g HOK.out (by omega) HL.out.hG)
  obtain ⟨cd, hcd⟩ : ∃ z, (spentM s job used st).1 = z := ⟨_, rfl⟩
  obtain ⟨s2, hs2⟩ : ∃ z, (spentM s job used st).2 = z := ⟨_, rfl⟩
  have HDX := Lib.hid (fun (ow1 : Nat → Nat) (W : World) (h : DAt ow1 B W p rq vt tb qb s) => dspent_any (K := K) job used st h HOK.out (by omega))
  have HOKN := Lib.hid ((HOK.out.spentM job used st).mono (Nat.le_add_right K 1))
  have HQN := Lib.hid (spentM_Q s job used st)
  rw [hcd, hs2] at HRA HDX
  rw [hs2] at HOKN HQN
  clear hcd hs2
  have ecd : (cd == cd) = true := beq_self_eq_true cd
  go_enter Try.func33, Try.ntmps33
  go_upto_region 1 with fail
  rw [HW1.out]
  clear HW1
  go_upto_region 11 with fail
  go_wp2_with fail
  (with_reducible refine HRA.out.mono ?_)
  rintro e w3 ⟨v1, v2, v3, rfl, hg, hb⟩
  obtain ⟨a1n, c1n, rfl, -, -⟩ := hg.c.1.shape
  obtain ⟨a2n, c2n, rfl, -, -⟩ := hg.j.shape
  obtain ⟨a3n, c3n, rfl, -, -⟩ := hg.r.1.shape
  obtain ⟨m1, hm1⟩ : ∃ z, s2.C.length = z := ⟨_, rfl⟩
  obtain ⟨m2, hm2⟩ : ∃ z, s2.J.length = z := ⟨_, rfl⟩
  obtain ⟨m3, hm3⟩ : ∃ z, s2.R.length = z := ⟨_, rfl⟩
  rw [hm1, hm2, hm3] at hg ⊢
  have hba := below_two hb (below_alloc w3 (.cells #[.slice a0 n0 c0, .slice a1n m1 c1n, .slice a2n m2 c2n, .slice a3n m3 c3n, .int .i64 cd] 109 (0, 0)))
  have HL2 := Lib.hid ((HL.out.ref hb hg).below (below_alloc w3 (.cells #[.slice a0 n0 c0, .slice a1n m1 c1n, .slice a2n m2 c2n, .slice a3n m3 c3n, .int .i64 cd] 109 (0, 0))))
  have HF2 := Lib.hid (HF.out.trans (Fr.of_below (ow := ow) hba))
  have HAB2 := Lib.hid (HAB.out.below hba)
  have HT9 := Lib.hid (show Blk (w3.alloc (.cells #[.slice a0 n0 c0, .slice a1n m1 c1n, .slice a2n m2 c2n, .slice a3n m3 c3n, .int .i64 cd] 109 (0, 0))) w3.heap.size [.slice a0 n0 c0, .slice a1n m1 c1n, .slice a2n m2 c2n, .slice a3n m3 c3n, .int .i64 cd] 109 from Blk.new w3 _ _)
  have HO9 := Lib.hid (HL.out.z w3.heap.size hb.size)
  have HNE := Lib.hid (show w3.heap.size ≠ w.heap.size + 1 + 1 by have h1 := hb.size; have h2 := HAB.out.sz; omega)
  clear hg hb hm1 hm2 hm3 hba HRA k0 k1 k2 k3 u0 u1 u2 u3 u4 u5 u6
  go_upto_region 12 with fail
  obtain ⟨b9, hb9⟩ : ∃ z, w3.heap.size = z := ⟨_, rfl⟩
  rw [hb9] at HT9 HO9 HNE ⊢
  obtain ⟨w4, hw4⟩ : ∃ z, w3.alloc (.cells #[.slice a0 n0 c0, .slice a1n m1 c1n, .slice a2n m2 c2n, .slice a3n m3 c3n, .int .i64 cd] 109 (0, 0)) = z := ⟨_, rfl⟩
  rw [hw4] at HL2 HF2 HAB2 HT9 ⊢
  clear hb9 hw4
  have HDA := Lib.hid (HDX.out _ _ (HL2.out.below (below_drew1 w4)).d)
  clear HDX
  have hbd := HT9.out.below (below_drew1 w4)
  have had := HAB2.out.below (below_drew1 w4)
  have q0 := hbd.cell (i := 0) (x := .slice a0 n0 c0) rfl
  have q1 := hbd.cell (i := 1) (x := .slice a1n m1 c1n) rfl
  have q2 := hbd.cell (i := 2) (x := .slice a2n m2 c2n) rfl
  have q3 := hbd.cell (i := 3) (x := .slice a3n m3 c3n) rfl
  have q4 := hbd.cell (i := 4) (x := .int .i64 cd) rfl
  have u2 := had.ac.cell (i := 2) (x := .int .i64 job) rfl
  have u4 := had.ac.cell (i := 4) (x := .int .i64 used) rfl
  have u6 := had.ac.cell (i := 6) (x := .bool st) rfl
  clear hbd had
  go_region_held3 (fun w' => w'.cell? ⟨b9, 0, none⟩ = some (.slice a0 n0 c0) ∧ w'.cell? ⟨b9, 1, none⟩ = some (.slice a1n m1 c1n) ∧ w'.cell? ⟨b9, 2, none⟩ = some (.slice a2n m2 c2n) ∧ w'.cell? ⟨b9, 3, none⟩ = some (.slice a3n m3 c3n) ∧ w'.cell? ⟨b9, 4, none⟩ = some (.int .i64 cd) ∧ w'.cell? ⟨w.heap.size + 1, 2, none⟩ = some (.int .i64 job) ∧ w'.cell? ⟨w.heap.size + 1, 4, none⟩ = some (.int .i64 used) ∧ w'.cell? ⟨w.heap.size + 1, 6, none⟩ = some (.bool st))
    (first | (with_reducible exact ⟨q0, q1, q2, q3, q4, u2, u4, u6⟩) | (with_reducible exact ⟨z0, z1, z2, z3, z4, x2, x4, x6⟩) | (with_reducible exact ⟨Z0.out, Z1.out, Z2.out, Z3.out, Z4.out, X2.out, X4.out, X6.out⟩))
    (first | (go_at_call 31; (with_reducible refine HDA.out.mono ?_); rintro e y ⟨rfl, hdd⟩; obtain ⟨ow2, hl, hf⟩ := (HL2.out.below (below_drew1 w4)).act hdd; have HL3 := Lib.hid hl; have HF3 := Lib.hid ((HF2.out.trans (Fr.of_below (ow := ow) (below_drew1 w4))).trans hf); have HAB3 := Lib.hid ((HAB2.out.below (below_drew1 w4)).act hf); have htx := (hf.blk (HT9.out.below (below_drew1 w4)) HO9.out).1; have z0 := htx.cell (i := 0) (x := .slice a0 n0 c0) rfl; have z1 := htx.cell (i := 1) (x := .slice a1n m1 c1n) rfl; have z2 := htx.cell (i := 2) (x := .slice a2n m2 c2n) rfl; have z3 := htx.cell (i := 3) (x := .slice a3n m3 c3n) rfl; have z4 := htx.cell (i := 4) (x := .int .i64 cd) rfl; have x2 := HAB3.out.ac.cell (i := 2) (x := .int .i64 job) rfl; have x4 := HAB3.out.ac.cell (i := 4) (x := .int .i64 used) rfl; have x6 := HAB3.out.ac.cell (i := 6) (x := .bool st) rfl; have r0 := HAB3.out.rs.cell (i := 0) (x := .slice none 0 0) rfl; have r1 := HAB3.out.rs.cell (i := 1) (x := .slice none 0 0) rfl; have r2 := HAB3.out.rs.cell (i := 2) (x := .slice none 0 0) rfl; have r3 := HAB3.out.rs.cell (i := 3) (x := .slice none 0 0) rfl; have r4 := HAB3.out.rs.cell (i := 4) (x := .bool false) rfl; have f0 := HAB3.out.rs.free 0; have f1 := HAB3.out.rs.free 1; have f2 := HAB3.out.rs.free 2; have f3 := HAB3.out.rs.free 3; have f4 := HAB3.out.rs.free 4; have hk9 := htx.keep (keep5 (w := y) (rb := w.heap.size + 1 + 1) (.slice a0 n0 c0) (.slice a1n m1 c1n) (.slice a2n m2 c2n) (.slice a3n m3 c3n) (.bool true)) (fun e => HNE.out e); have hka := HAB3.out.ac.keep (keep5 (w := y) (rb := w.heap.size + 1 + 1) (.slice a0 n0 c0) (.slice a1n m1 c1n) (.slice a2n m2 c2n) (.slice a3n m3 c3n) (.bool true)) (fun e => absurd (show w.heap.size + 1 = w.heap.size + 1 + 1 from e) (by omega)); have Z0 := Lib.hid (hk9.cell (i := 0) (x := .slice a0 n0 c0) rfl); have Z1 := Lib.hid (hk9.cell (i := 1) (x := .slice a1n m1 c1n) rfl); have Z2 := Lib.hid (hk9.cell (i := 2) (x := .slice a2n m2 c2n) rfl); have Z3 := Lib.hid (hk9.cell (i := 3) (x := .slice a3n m3 c3n) rfl); have Z4 := Lib.hid (hk9.cell (i := 4) (x := .int .i64 cd) rfl); have X2 := Lib.hid (hka.cell (i := 2) (x := .int .i64 job) rfl); have X4 := Lib.hid (hka.cell (i := 4) (x := .int .i64 used) rfl); have X6 := Lib.hid (hka.cell (i := 6) (x := .bool st) rfl); clear hl hf hdd htx hk9 hka) | fail)
  all_goals
    clear q0 z0 r0 f0 Z0 q1 z1 r1 f1 Z1 q2 z2 r2 f2 Z2 q3 z3 r3 f3 Z3 q4 z4 r4 f4 Z4 u2 x2 X2 u4 x4 X4 u6 x6 X6
    have HFN := Lib.hid (act_fin (rb := w.heap.size + 1 + 1) HL3.out (fun j hj => ⟨hj.1, by have h1 := hj.2; have h2 := HSZ.out; omega⟩) (by omega) HAB3.out.o2 HF3.out (keep5 (.slice a0 n0 c0) (.slice a1n m1 c1n) (.slice a2n m2 c2n) (.slice a3n m3 c3n) (.bool true)))
    have HB5 := Lib.hid (set5 (.slice a0 n0 c0) (.slice a1n m1 c1n) (.slice a2n m2 c2n) (.slice a3n m3 c3n) (.bool true) HAB3.out.rs rfl)
    obtain ⟨w5, hw5⟩ : ∃ z, (((((y.setCell ⟨w.heap.size + 1 + 1, 0, none⟩ (.slice a0 n0 c0)).setCell ⟨w.heap.size + 1 + 1, 1, none⟩ (.slice a1n m1 c1n)).setCell ⟨w.heap.size + 1 + 1, 2, none⟩ (.slice a2n m2 c2n)).setCell ⟨w.heap.size + 1 + 1, 3, none⟩ (.slice a3n m3 c3n)).setCell ⟨w.heap.size + 1 + 1, 4, none⟩ (.bool true)) = z := ⟨_, rfl⟩
    rw [hw5] at HFN HB5 ⊢
    have y0 := HB5.out.cell (i := 0) (x := .slice a0 n0 c0) rfl
    have y1 := HB5.out.cell (i := 1) (x := .slice a1n m1 c1n) rfl
    have y2 := HB5.out.cell (i := 2) (x := .slice a2n m2 c2n) rfl
    have y3 := HB5.out.cell (i := 3) (x := .slice a3n m3 c3n) rfl
    have y4 := HB5.out.cell (i := 4) (x := .bool true) rfl
    go_wp2
    refine bodyPost_ret (v := .agg #[.slice a0 n0 c0, .slice a1n m1 c1n, .slice a2n m2 c2n, .slice a3n m3 c3n, .bool true]) (by simp [results, Try.results33, go_sem, y0, y1, y2, y3, y4]) rfl ?_
    exact ⟨_, _, _, _, _, rfl, HFN.out.1, (HOKN.out.mono (by omega)), HQN.out, HFN.out.2⟩
end Go.Proofs.Ytmgjmpmcadjemaa

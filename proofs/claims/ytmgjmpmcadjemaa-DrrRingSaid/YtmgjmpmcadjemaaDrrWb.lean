/- Package drr: the law's act: a turn; any act. -/
import Derived.Test.YtmgjmpmcadjemaaDrrU
import Derived.Test.YtmgjmpmcadjemaaDrrWa
import Derived.Test.YtmgjmpmcadjemaaDrrWr
import Derived.Test.YtmgjmpmcadjemaaDrrWs
namespace Go.Proofs.Ytmgjmpmcadjemaa
open Go.RowKit

set_option maxHeartbeats 16000000 in
set_option maxRecDepth 100000 in
theorem act30_turn {K : Nat} {B : Nat} (X : Nat → Prop) {p rq : Nat} {vt : Value} {tb qb : Nat → Nat} (vq vc vj vr : Value) (s : Sch) (ow : Nat → Nat) (x : DA) (w : World) (h : LS B X p rq vt tb qb vq vc vj vr s s ow w) (ok : Ok K s) (hK : K ≤ 900) (hx : goodD w x) (hz : 0 < x.left.length → ∀ g, x.lv.ownBlock = some g → ow g = 0) (hk : x.kind = 2 ∨ x.kind = 3) :
    Calls Try.prog 33 #[.pointer (some ⟨p, 0, none⟩), .agg #[vq, vc, vj, vr], .agg (encD x).toArray] w (Acted30 B X p rq vt tb qb vq s K ow w) := by
  have hlv := hx.left.shape
  obtain ⟨av, cv, hve, -, -⟩ := hlv
  obtain ⟨kind, ten, job, bud, used, lv, left, st⟩ := x
  dsimp only at hve hz hx hk
  subst hve
  obtain ⟨a0, c0, rfl, -, -⟩ := h.g.q.1.shape
  obtain ⟨a1, c1, rfl, -, -⟩ := h.g.c.1.shape
  obtain ⟨a2, c2, rfl, -, -⟩ := h.g.j.shape
  obtain ⟨a3, c3, rfl, -, -⟩ := h.g.r.1.shape
  obtain ⟨n0, hn0⟩ : ∃ z, s.Q.length = z := ⟨_, rfl⟩
  obtain ⟨n1, hn1⟩ : ∃ z, s.C.length = z := ⟨_, rfl⟩
  obtain ⟨n2, hn2⟩ : ∃ z, s.J.length = z := ⟨_, rfl⟩
  obtain ⟨n3, hn3⟩ : ∃ z, s.R.length = z := ⟨_, rfl⟩
  obtain ⟨nv, hnv⟩ : ∃ z, left.length = z := ⟨_, rfl⟩
  have HN0 := Lib.hid hn0
  have HNV := Lib.hid hnv
  have hxk : i64B kind := hx.kind
  have hxt : i64B ten := hx.ten
  have hxj : i64B job := hx.job
  have hxb : i64B bud := hx.bud
  have hxu : i64B used := hx.used
  have hxl : RInts w (.slice av left.length cv) left := hx.left
  rw [hnv] at hz hxl
  rw [hn0, hn1, hn2, hn3] at h
  unfold encD at *
  dsimp only at *
  rw [hn0, hn1, hn2, hn3, hnv]
  have HZ := Lib.hid hz
  have HXK := Lib.hid hxk
  have HXT := Lib.hid hxt
  have HXJ := Lib.hid hxj
  have HXB := Lib.hid hxb
  have HXU := Lib.hid hxu
  have HXL := Lib.hid hxl
  have HOK := Lib.hid ok
  obtain ⟨W1, hW1⟩ : ∃ z, ((w.alloc (.cells #[.slice a0 n0 c0, .slice a1 n1 c1, .slice a2 n2 c2, .slice a3 n3 c3] 67 (0, 0))).alloc (.cells #[.int .i64 kind, .int .i64 ten, .int .i64 job, .int .i64 bud, .int .i64 used, .slice av nv cv, .bool st] 70 (0, 0))).alloc (.cells #[.slice none 0 0, .slice none 0 0, .slice none 0 0, .slice none 0 0, .bool false] 72 (0, 0)) = z := ⟨_, rfl⟩
  have HAL := Lib.hid (show Below w.heap.size w W1 by rw [← hW1]; exact below_two (alloc2 _ _ _) (below_alloc _ _))
  have HSZ := Lib.hid (show W1.heap.size = w.heap.size + 3 by rw [← hW1]; simp)
  have HAB := Lib.hid (show AB w (.slice a0 n0 c0) (.slice a1 n1 c1) (.slice a2 n2 c2) (.slice a3 n3 c3) ⟨kind, ten, job, bud, used, .slice av nv cv, left, st⟩ ow W1 from
    ⟨by rw [← hW1]; exact (blk1st _ _ _ _).below (below_alloc _ _), by rw [← hW1]; exact (blk2nd w _ [.int .i64 kind, .int .i64 ten, .int .i64 job, .int .i64 bud, .int .i64 used, .slice av nv cv, .bool st] 70).below (below_alloc _ _), by
      rw [← hW1]
      have hq := Blk.new ((w.alloc (.cells #[.slice a0 n0 c0, .slice a1 n1 c1, .slice a2 n2 c2, .slice a3 n3 c3] 67 (0, 0))).alloc (.cells #[.int .i64 kind, .int .i64 ten, .int .i64 job, .int .i64 bud, .int .i64 used, .slice av nv cv, .bool st] 70 (0, 0))) Z5 72
      have hs : ((w.alloc (.cells #[.slice a0 n0 c0, .slice a1 n1 c1, .slice a2 n2 c2, .slice a3 n3 c3] 67 (0, 0))).alloc (.cells #[.int .i64 kind, .int .i64 ten, .int .i64 job, .int .i64 bud, .int .i64 used, .slice av nv cv, .bool st] 70 (0, 0))).heap.size = w.heap.size + 1 + 1 := by simp
      rwa [hs] at hq, h.z _ (Nat.le_refl _), h.z _ (by omega), h.z _ (by omega), by rw [HSZ.out]; exact Nat.le_refl _⟩)
  have HL := Lib.hid (h.off HAL.out)
  have HF := Lib.hid (show Fr ow ow w W1 from Fr.of_below HAL.out)
  have HW1 := Lib.hid hW1
  have k0 := HAB.out.st.cell (i := 0) (x := .slice a0 n0 c0) rfl
  have k1 := HAB.out.st.cell (i := 1) (x := .slice a1 n1 c1) rfl
  have k2 := HAB.out.st.cell (i := 2) (x := .slice a2 n2 c2) rfl
  have k3 := HAB.out.st.cell (i := 3) (x := .slice a3 n3 c3) rfl
  have u0 := HAB.out.ac.cell (i := 0) (x := .int .i64 kind) rfl
  have u1 := HAB.out.ac.cell (i := 1) (x := .int .i64 ten) rfl
  have u2 := HAB.out.ac.cell (i := 2) (x := .int .i64 job) rfl
  have u3 := HAB.out.ac.cell (i := 3) (x := .int .i64 bud) rfl
  have u4 := HAB.out.ac.cell (i := 4) (x := .int .i64 used) rfl
  have u5 := HAB.out.ac.cell (i := 5) (x := .slice av nv cv) rfl
  have u6 := HAB.out.ac.cell (i := 6) (x := .bool st) rfl
  clear h hz hx hxk hxt hxj hxb hxu hxl hW1 ok hn0 hn1 hn2 hn3 hnv
  have HRA := Lib.hid (turn30_any (K := K) (fun j => X j ∧ (j < w.heap.size ∨ W1.heap.size ≤ j)) _ _ _ _ s ow ⟨kind, ten, job, bud, used, .slice av nv cv, left, st⟩ W1 HL.out HOK.out hK ⟨HXK.out, HXT.out, HXJ.out, HXB.out, HXU.out, HXL.out.below HAL.out⟩ (by rw [HNV.out]; exact HZ.out))
  unfold encD at HRA
  dsimp only at HRA
  have eK : (kind == 0) = false ∧ (kind == 1) = false ∧ ((kind == 2) = true ∨ ((kind == 2) = false ∧ (kind == 3) = true)) := by
    rcases hk with rfl | rfl
    · exact ⟨rfl, rfl, .inl rfl⟩
    · exact ⟨rfl, rfl, .inr ⟨rfl, rfl⟩⟩
  obtain ⟨d0, d1, d2⟩ := eK
  clear hk
  have HD2 := Lib.hid d2
  clear d2
  go_enter Try.func33, Try.ntmps33
  go_upto_region 1 with fail
  rw [HW1.out]
  clear HW1
  rcases HD2.out with d2 | ⟨d2, d3⟩
  all_goals
    clear HD2
    go_upto_region 10 with fail
    go_wp2_with fail
    (with_reducible refine HRA.out.mono ?_)
    rintro e y ⟨v1, v2, v3, s2, ow2, rfl, hl, hok, hq, hf⟩
    have HAB2 := Lib.hid (HAB.out.act hf)
    have HF2 := Lib.hid (HF.out.trans hf)
    have HOK2 := Lib.hid hok
    have HQ2 := Lib.hid hq
    obtain ⟨a1n, c1n, rfl, -, -⟩ := hl.g.c.1.shape
    obtain ⟨a2n, c2n, rfl, -, -⟩ := hl.g.j.shape
    obtain ⟨a3n, c3n, rfl, -, -⟩ := hl.g.r.1.shape
    obtain ⟨m1, hm1⟩ : ∃ z, s2.C.length = z := ⟨_, rfl⟩
    obtain ⟨m2, hm2⟩ : ∃ z, s2.J.length = z := ⟨_, rfl⟩
    obtain ⟨m3, hm3⟩ : ∃ z, s2.R.length = z := ⟨_, rfl⟩
    rw [hm1, hm2, hm3] at hl ⊢
    have HL2 := Lib.hid hl
    clear hl hf hok hq hm1 hm2 hm3 HRA k0 k1 k2 k3 u0 u1 u2 u3 u4 u5 u6
    have r0 := HAB2.out.rs.cell (i := 0) (x := .slice none 0 0) rfl
    have r1 := HAB2.out.rs.cell (i := 1) (x := .slice none 0 0) rfl
    have r2 := HAB2.out.rs.cell (i := 2) (x := .slice none 0 0) rfl
    have r3 := HAB2.out.rs.cell (i := 3) (x := .slice none 0 0) rfl
    have r4 := HAB2.out.rs.cell (i := 4) (x := .bool false) rfl
    have s0 := HAB2.out.rs.free 0
    have s1 := HAB2.out.rs.free 1
    have s2 := HAB2.out.rs.free 2
    have s3 := HAB2.out.rs.free 3
    have s4 := HAB2.out.rs.free 4
    have HFN := Lib.hid (act_fin (rb := w.heap.size + 1 + 1) HL2.out (fun j hj => ⟨hj.1, by have h1 := hj.2; have h2 := HSZ.out; omega⟩) (by omega) HAB2.out.o2 HF2.out (keep5 (.slice a0 n0 c0) (.slice a1n m1 c1n) (.slice a2n m2 c2n) (.slice a3n m3 c3n) (.bool true)))
    have HB5 := Lib.hid (set5 (.slice a0 n0 c0) (.slice a1n m1 c1n) (.slice a2n m2 c2n) (.slice a3n m3 c3n) (.bool true) HAB2.out.rs rfl)
    go_wp2
    obtain ⟨w5, hw5⟩ : ∃ z, (((((y.setCell ⟨w.heap.size + 1 + 1, 0, none⟩ (.slice a0 n0 c0)).setCell ⟨w.heap.size + 1 + 1, 1, none⟩ (.slice a1n m1 c1n)).setCell ⟨w.heap.size + 1 + 1, 2, none⟩ (.slice a2n m2 c2n)).setCell ⟨w.heap.size + 1 + 1, 3, none⟩ (.slice a3n m3 c3n)).setCell ⟨w.heap.size + 1 + 1, 4, none⟩ (.bool true)) = z := ⟨_, rfl⟩
    rw [hw5] at HFN HB5 ⊢
    have y0 := HB5.out.cell (i := 0) (x := .slice a0 n0 c0) rfl
    have y1 := HB5.out.cell (i := 1) (x := .slice a1n m1 c1n) rfl
    have y2 := HB5.out.cell (i := 2) (x := .slice a2n m2 c2n) rfl
    have y3 := HB5.out.cell (i := 3) (x := .slice a3n m3 c3n) rfl
    have y4 := HB5.out.cell (i := 4) (x := .bool true) rfl
    refine bodyPost_ret (v := .agg #[.slice a0 n0 c0, .slice a1n m1 c1n, .slice a2n m2 c2n, .slice a3n m3 c3n, .bool true]) (by simp [results, Try.results33, go_sem, y0, y1, y2, y3, y4]) rfl ?_
    exact ⟨_, _, _, _, _, rfl, HFN.out.1, HOK2.out, HQ2.out, HFN.out.2⟩

theorem act30_any {K : Nat} {B : Nat} (X : Nat → Prop) {p rq : Nat} {vt : Value} {tb qb : Nat → Nat} (vq vc vj vr : Value) (s : Sch) (ow : Nat → Nat) (x : DA) (w : World) (h : LS B X p rq vt tb qb vq vc vj vr s s ow w) (ok : Ok K s) (hK : K ≤ 900) (hx : goodD w x) (hz : 0 < x.left.length → ∀ g, x.lv.ownBlock = some g → ow g = 0) :
    Calls Try.prog 33 #[.pointer (some ⟨p, 0, none⟩), .agg #[vq, vc, vj, vr], .agg (encD x).toArray] w (Acted30 B X p rq vt tb qb vq s K ow w) := by
  by_cases h0 : x.kind = 0
  · exact act30_add X vq vc vj vr s ow x w h ok hK hx hz h0
  by_cases h1 : x.kind = 1
  · exact act30_rem X vq vc vj vr s ow x w h ok hK hx hz h1
  by_cases h2 : x.kind = 2
  · exact act30_turn X vq vc vj vr s ow x w h ok hK hx hz (.inl h2)
  by_cases h3 : x.kind = 3
  · exact act30_turn X vq vc vj vr s ow x w h ok hK hx hz (.inr h3)
  exact act30_spent X vq vc vj vr s ow x w h ok hK hx hz h0 h1 h2 h3
end Go.Proofs.Ytmgjmpmcadjemaa

/- Package drr: the reference's Spent. -/
import Derived.Test.YtmgjmpmcadjemaaDrrQ
namespace Go.Proofs.Ytmgjmpmcadjemaa
open Go.RowKit

/-- within Spent: the state's box, the use's, the result's block -/
structure R0 (G : Nat → Prop) (w w2 : World) (vq vc vj vr : Value) (job used : Int) (st : Bool) (s : Sch) : Prop where
  box : Blk w2 w.heap.size [vq, vc, vj, vr] 67
  use : Blk w2 (w.heap.size + 1) [.int .i64 job, .int .i64 used, .bool st] 114
  res : Blk w2 (w.heap.size + 1 + 1) B0 109
  gs : GS (fun j => G j ∧ (j < w.heap.size ∨ w.heap.size + 3 ≤ j)) w2 vq vc vj vr s
  bel : Below w.heap.size w w2
  sz : w.heap.size + 3 ≤ w2.heap.size
theorem R0.below {G : Nat → Prop} {w w2 w3 : World} {vq vc vj vr : Value} {job used : Int} {st : Bool} {s : Sch} (h : R0 G w w2 vq vc vj vr job used st s) (k : Below w2.heap.size w2 w3) : R0 G w w3 vq vc vj vr job used st s :=
  ⟨h.box.below k, h.use.below k, h.res.below k, h.gs.below k, below_two h.bel k, Nat.le_trans h.sz k.size⟩
/-- .. and the next state's block -/
structure RM (G : Nat → Prop) (w w2 : World) (vq vc vj vr : Value) (job used : Int) (st : Bool) (s : Sch) (nb : Nat) (vc' vj' vr' : Value) (s' : Sch) : Prop where
  r0 : R0 G w w2 vq vc vj vr job used st s
  off : GS (fun j => (G j ∧ (j < w.heap.size ∨ w.heap.size + 3 ≤ j)) ∧ j ≠ nb) w2 vq vc vj vr s
  nxt : Blk w2 nb [vq, vc', vj', vr'] 67
  nbs : w.heap.size + 3 ≤ nb
  gs : GS (fun j => (G j ∧ (j < w.heap.size ∨ w.heap.size + 3 ≤ j)) ∧ j ≠ nb) w2 vq vc' vj' vr' s'
theorem RM.below {G : Nat → Prop} {w w2 w3 : World} {vq vc vj vr vc' vj' vr' : Value} {job used : Int} {st : Bool} {nb : Nat} {s s' : Sch} (h : RM G w w2 vq vc vj vr job used st s nb vc' vj' vr' s') (k : Below w2.heap.size w2 w3) : RM G w w3 vq vc vj vr job used st s nb vc' vj' vr' s' :=
  ⟨h.r0.below k, h.off.below k, h.nxt.below k, h.nbs, h.gs.below k⟩
theorem RM.store {G : Nat → Prop} {w w2 w3 : World} {vq vc vj vr vc' vj' vr' vc2 vj2 vr2 : Value} {job used : Int} {st : Bool} {nb : Nat} {s s' s2 : Sch} (h : RM G w w2 vq vc vj vr job used st s nb vc' vj' vr' s') (k : Below w2.heap.size w2 w3)
    (g : GS (fun j => (G j ∧ (j < w.heap.size ∨ w.heap.size + 3 ≤ j)) ∧ j ≠ nb) w3 vq vc2 vj2 vr2 s2) : RM G w ((((w3.setCell ⟨nb, 0, none⟩ vq).setCell ⟨nb, 1, none⟩ vc2).setCell ⟨nb, 2, none⟩ vj2).setCell ⟨nb, 3, none⟩ vr2) vq vc vj vr job used st s nb vc2 vj2 vr2 s2 := by
  have hk := keep4 (w := w3) (rb := nb) vq vc2 vj2 vr2
  have h3 := h.below k
  have hn := h.nbs
  exact ⟨⟨h3.r0.box.keep hk (fun e => absurd (show w.heap.size = nb from e) (by omega)), h3.r0.use.keep hk (fun e => absurd (show w.heap.size + 1 = nb from e) (by omega)), h3.r0.res.keep hk (fun e => absurd (show w.heap.size + 1 + 1 = nb from e) (by omega)),
    (h3.off.keep hk (fun j e q => q.2 e)).imp (fun j hj => hj.1), h3.r0.bel.trans (hk.below (B := w.heap.size) h3.r0.bel.size (fun j hj e => absurd (show j = nb from e) (by omega))), by have := hk.size; have := h3.r0.sz; omega⟩,
    h3.off.keep hk (fun j e q => q.2 e), set4 vq vc2 vj2 vr2 h3.nxt rfl, hn, g.keep hk (fun j e q => q.2 e)⟩
theorem R0.next {G : Nat → Prop} {w w2 w3 : World} {vq vc vj vr vc2 vj2 vr2 : Value} {job used : Int} {st : Bool} {s s2 : Sch} (h : R0 G w w2 vq vc vj vr job used st s) (k : Below w2.heap.size w2 w3)
    (g : GS (fun j => G j ∧ (j < w.heap.size ∨ w.heap.size + 3 ≤ j)) w3 vq vc2 vj2 vr2 s2) : RM G w (w3.alloc (.cells #[vq, vc2, vj2, vr2] 67 (0, 0))) vq vc vj vr job used st s w3.heap.size vc2 vj2 vr2 s2 := by
  have h3 := h.below k
  have ha := below_alloc w3 (.cells #[vq, vc2, vj2, vr2] 67 (0, 0))
  exact ⟨h3.below ha, h3.gs.off ha w3.heap.size (Nat.le_refl _), Blk.new w3 [vq, vc2, vj2, vr2] _, h3.sz, g.off ha w3.heap.size (Nat.le_refl _)⟩
/-- the result -/
theorem fin5 {G : Nat → Prop} {w W : World} {vq vc vj vr : Value} {s : Sch} (hr : Blk W (w.heap.size + 1 + 1) B0 109) (g : GS (fun j => G j ∧ (j < w.heap.size ∨ w.heap.size + 3 ≤ j)) W vq vc vj vr s) (b : Below w.heap.size w W) (e : Value) :
    GS G (((((W.setCell ⟨w.heap.size + 1 + 1, 0, none⟩ vq).setCell ⟨w.heap.size + 1 + 1, 1, none⟩ vc).setCell ⟨w.heap.size + 1 + 1, 2, none⟩ vj).setCell ⟨w.heap.size + 1 + 1, 3, none⟩ vr).setCell ⟨w.heap.size + 1 + 1, 4, none⟩ e) vq vc vj vr s ∧ Below w.heap.size w (((((W.setCell ⟨w.heap.size + 1 + 1, 0, none⟩ vq).setCell ⟨w.heap.size + 1 + 1, 1, none⟩ vc).setCell ⟨w.heap.size + 1 + 1, 2, none⟩ vj).setCell ⟨w.heap.size + 1 + 1, 3, none⟩ vr).setCell ⟨w.heap.size + 1 + 1, 4, none⟩ e) ∧ Blk (((((W.setCell ⟨w.heap.size + 1 + 1, 0, none⟩ vq).setCell ⟨w.heap.size + 1 + 1, 1, none⟩ vc).setCell ⟨w.heap.size + 1 + 1, 2, none⟩ vj).setCell ⟨w.heap.size + 1 + 1, 3, none⟩ vr).setCell ⟨w.heap.size + 1 + 1, 4, none⟩ e) (w.heap.size + 1 + 1) [vq, vc, vj, vr, e] 109 := by
  have hk := keep5 (w := W) (rb := w.heap.size + 2) vq vc vj vr e
  exact ⟨(g.keep hk (fun j e q => by have e' : j = w.heap.size + 1 + 1 := e; have := q.2; omega)).imp (fun j hj => hj.1), b.trans (hk.below (B := w.heap.size) b.size (fun j hj e => absurd (show j = w.heap.size + 1 + 1 from e) (by omega))), set5 vq vc vj vr e hr rfl⟩
theorem bel_drawn (w : World) (n : Nat) : Below w.heap.size w { w with drawn := n } := ⟨rfl, rfl, rfl, Nat.le_refl _, fun _ _ => rfl⟩
theorem restS_left {s s2 : Sch} {i : Nat} {used : Int} {job : Int} {st : Bool} (hC : i < s.C.length) (h2 : s2 = midS (useS s i used) i job st) :
    restS s2 i = if s.C.getD i 0 - used = 0 ∧ s2.J.getD i [] ≠ [] then { s2 with R := rotL s2.R } else s2 := by
  have h0 : (useS s i used).C.getD i 0 = s.C.getD i 0 - used := by unfold useS; exact getD_set_eq hC _ _
  have key : s2.J.getD i [] ≠ [] → s2.C.getD i 0 = s.C.getD i 0 - used := by
    intro hJ
    subst h2
    revert hJ
    unfold midS
    split
    · unfold outM
      split
      · rename_i he
        intro hJ
        exfalso
        apply hJ
        dsimp only
        by_cases hlt : i < (useS s i used).J.length
        · rw [getD_set_eq hlt]; exact he
        · rw [List.getD_eq_getElem?_getD, List.getElem?_eq_none (by rw [List.length_set]; omega)]; rfl
      · intro _; exact h0
    · split
      · intro _; exact h0
      · intro _; exact h0
  unfold restS
  by_cases hJ : s2.J.getD i [] ≠ []
  · rw [key hJ]
  · rw [if_neg (fun q => hJ q.2), if_neg (fun q => hJ q.2)]

set_option maxHeartbeats 16000000 in
set_option maxRecDepth 100000 in
theorem rspent30_any {K : Nat} (G : Nat → Prop) (vq vc vj vr : Value) (s : Sch) (job used : Int) (st : Bool) (w : World) (h : GS G w vq vc vj vr s) (ok : Ok K s) (hK : K ≤ 1000) (hG : ∀ j, w.heap.size ≤ j → G j) :
    Calls Try.prog 68 #[.agg #[vq, vc, vj, vr], .agg #[.int .i64 job, .int .i64 used, .bool st]] w fun e w' => ∃ vc' vj' vr', e = .returned (.agg #[vq, vc', vj', vr', .int .i64 (spentM s job used st).1]) ∧ GS G w' vq vc' vj' vr' (spentM s job used st).2 ∧ Below w.heap.size w w' := by
  obtain ⟨a0, c0, rfl, -, -⟩ := h.q.1.shape
  obtain ⟨a1, c1, rfl, -, -⟩ := h.c.1.shape
  obtain ⟨a2, c2, rfl, -, -⟩ := h.j.shape
  obtain ⟨a3, c3, rfl, -, -⟩ := h.r.1.shape
  obtain ⟨n0, hn0⟩ : ∃ z, s.Q.length = z := ⟨_, rfl⟩
  obtain ⟨n1, hn1⟩ : ∃ z, s.C.length = z := ⟨_, rfl⟩
  obtain ⟨n2, hn2⟩ : ∃ z, s.J.length = z := ⟨_, rfl⟩
  obtain ⟨n3, hn3⟩ : ∃ z, s.R.length = z := ⟨_, rfl⟩
  have HN0 := Lib.hid hn0
  have HN1 := Lib.hid (show n1 = n0 by rw [← hn1, ← hn0]; exact ok.lc)
  have HN2 := Lib.hid (show n2 = n0 by rw [← hn2, ← hn0]; exact ok.lj)
  have HN3 := Lib.hid hn3
  have HC1 := Lib.hid hn1
  have HJ2 := Lib.hid hn2
  have hn16 : n0 ≤ 16 := by rw [← hn0]; exact ok.n16
  have hn31 : n3 ≤ 1000 := by rw [← hn3]; exact Nat.le_trans ok.rk hK
  rw [hn0, hn1, hn2, hn3] at h
  rw [hn0, hn1, hn2, hn3]
  have HOK := Lib.hid ok
  obtain ⟨W1, hW1⟩ : ∃ z, ((w.alloc (.cells #[.slice a0 n0 c0, .slice a1 n1 c1, .slice a2 n2 c2, .slice a3 n3 c3] 67 (0, 0))).alloc (.cells #[.int .i64 job, .int .i64 used, .bool st] 114 (0, 0))).alloc (.cells #[.slice none 0 0, .slice none 0 0, .slice none 0 0, .slice none 0 0, .int .i64 0] 109 (0, 0)) = z := ⟨_, rfl⟩
  have HAL := Lib.hid (show Below w.heap.size w W1 by rw [← hW1]; exact below_two (alloc2 _ _ _) (below_alloc _ _))
  have HSZ := Lib.hid (show W1.heap.size = w.heap.size + 3 by rw [← hW1]; simp)
  have HR0 := Lib.hid (show R0 G w W1 (.slice a0 n0 c0) (.slice a1 n1 c1) (.slice a2 n2 c2) (.slice a3 n3 c3) job used st s from
    ⟨by rw [← hW1]; exact (blk1st _ _ _ _).below (below_alloc _ _), by rw [← hW1]; exact (blk2nd w _ [.int .i64 job, .int .i64 used, .bool st] 114).below (below_alloc _ _), by
      rw [← hW1]
      have hq := Blk.new ((w.alloc (.cells #[.slice a0 n0 c0, .slice a1 n1 c1, .slice a2 n2 c2, .slice a3 n3 c3] 67 (0, 0))).alloc (.cells #[.int .i64 job, .int .i64 used, .bool st] 114 (0, 0))) B0 109
      have hs : ((w.alloc (.cells #[.slice a0 n0 c0, .slice a1 n1 c1, .slice a2 n2 c2, .slice a3 n3 c3] 67 (0, 0))).alloc (.cells #[.int .i64 job, .int .i64 used, .bool st] 114 (0, 0))).heap.size = w.heap.size + 1 + 1 := by simp
      rwa [hs] at hq, (h.live.below HAL.out).imp (fun j hj => ⟨hj.1, .inl hj.2⟩), HAL.out, by rw [HSZ.out]; exact Nat.le_refl _⟩)
  have HGG := Lib.hid hG
  have HW1 := Lib.hid hW1
  have k0 := HR0.out.box.cell (i := 0) (x := .slice a0 n0 c0) rfl
  have k1 := HR0.out.box.cell (i := 1) (x := .slice a1 n1 c1) rfl
  have k2 := HR0.out.box.cell (i := 2) (x := .slice a2 n2 c2) rfl
  have k3 := HR0.out.box.cell (i := 3) (x := .slice a3 n3 c3) rfl
  have u0 := HR0.out.use.cell (i := 0) (x := .int .i64 job) rfl
  have u1 := HR0.out.use.cell (i := 1) (x := .int .i64 used) rfl
  have u2 := HR0.out.use.cell (i := 2) (x := .bool st) rfl
  obtain ⟨SP, hSP⟩ : ∃ z, spentM s job used st = z := ⟨_, rfl⟩
  rw [hSP]
  unfold spentM at hSP
  clear h hG hW1
  by_cases hr : s.R = []
  · rw [if_pos hr] at hSP
    have HSP := Lib.hid hSP.symm
    have hz : ((n3 : Int) == 0) = true := by
      have : n3 = 0 := by rw [← hn3, hr]; rfl
      rw [this]; rfl
    clear hr hSP ok hn0 hn1 hn2 hn3
    go_enter Try.func68, Try.ntmps68
    go_upto_region 2 with fail
    rw [HW1.out]
    clear HW1
    have hrx := HR0.out.res
    have r0 := hrx.cell (i := 0) (x := .slice none 0 0) rfl
    have r1 := hrx.cell (i := 1) (x := .slice none 0 0) rfl
    have r2 := hrx.cell (i := 2) (x := .slice none 0 0) rfl
    have r3 := hrx.cell (i := 3) (x := .slice none 0 0) rfl
    have r4 := hrx.cell (i := 4) (x := .int .i64 0) rfl
    have s0 := hrx.free 0
    have s1 := hrx.free 1
    have s2 := hrx.free 2
    have s3 := hrx.free 3
    have s4 := hrx.free 4
    have HFN := Lib.hid (fin5 hrx (HR0.out.gs) (HR0.out.bel) (.int .i64 6))
    clear hrx
    go_wp2
    obtain ⟨w5, hw5⟩ : ∃ z, (((((W1.setCell ⟨w.heap.size + 1 + 1, 0, none⟩ (.slice a0 n0 c0)).setCell ⟨w.heap.size + 1 + 1, 1, none⟩ (.slice a1 n1 c1)).setCell ⟨w.heap.size + 1 + 1, 2, none⟩ (.slice a2 n2 c2)).setCell ⟨w.heap.size + 1 + 1, 3, none⟩ (.slice a3 n3 c3)).setCell ⟨w.heap.size + 1 + 1, 4, none⟩ (.int .i64 6)) = z := ⟨_, rfl⟩
    rw [hw5] at HFN ⊢
    have y0 := HFN.out.2.2.cell (i := 0) (x := .slice a0 n0 c0) rfl
    have y1 := HFN.out.2.2.cell (i := 1) (x := .slice a1 n1 c1) rfl
    have y2 := HFN.out.2.2.cell (i := 2) (x := .slice a2 n2 c2) rfl
    have y3 := HFN.out.2.2.cell (i := 3) (x := .slice a3 n3 c3) rfl
    have y4 := HFN.out.2.2.cell (i := 4) (x := .int .i64 6) rfl
    refine bodyPost_ret (v := .agg #[.slice a0 n0 c0, .slice a1 n1 c1, .slice a2 n2 c2, .slice a3 n3 c3, .int .i64 6]) (by simp [results, Try.results68, go_sem, y0, y1, y2, y3, y4]) rfl ?_
    rw [HSP.out]
    exact ⟨_, _, _, rfl, HFN.out.1, HFN.out.2.1⟩
  rw [if_neg hr] at hSP
  obtain ⟨i, hi, hi2, hne⟩ := ok.head hr
  have e1 : (s.R.headD 0).toNat = i := by rw [hi]; rfl
  rw [e1] at hSP
  have hi3 : i < n0 := by rw [← hn0]; exact hi2
  have hn30 : 0 < n3 := by rw [← hn3]; exact List.length_pos_iff.2 hr
  have h03 : (0 : Int) < (n3 : Int) := by omega
  have hz : ((n3 : Int) == 0) = false := beq_eq_false_iff_ne.2 (by omega)
  have hii : (i : Int) < (n0 : Int) := by omega
  have hi0 : (0 : Int) ≤ (i : Int) := by omega
  have hii1 : (i : Int) < (n1 : Int) := by have := HN1.out; omega
  have hii2 : (i : Int) < (n2 : Int) := by have := HN2.out; omega
  have hiJ : i < s.J.length := by rw [ok.lj]; exact hi2
  have hiC : i < s.C.length := by rw [ok.lc]; exact hi2
  obtain ⟨br, or, xr, rfl, -, hxr, hcr, -, -⟩ := HR0.out.gs.r.1.at (k := 0) hn30
  obtain rfl : xr = (i : Int) := by
    cases hc : s.R with
    | nil => exact absurd hc hr
    | cons y l => rw [hc] at hxr hi; simp at hxr hi; omega
  rw [Nat.add_zero] at hcr
  obtain ⟨b1, o1, cq, rfl, -, hcq, hcc, -, -⟩ := HR0.out.gs.c.1.at (k := i) (by have := HN1.out; omega)
  have hcg : s.C.getD i 0 = cq := by rw [List.getD_eq_getElem?_getD, hcq]; rfl
  have hcb := ok.c i hi2
  have hqb := ok.q i hi2
  have HCG := Lib.hid hcg
  rw [hcg] at hSP hcb
  obtain ⟨b2, o2, cj', vi, hvv, hcj, hgi⟩ := HR0.out.gs.j.at hiJ
  rw [HJ2.out] at hvv
  obtain ⟨rfl, rfl⟩ : a2 = some ⟨b2, o2, none⟩ ∧ c2 = cj' := by simpa using hvv
  obtain ⟨ai, ci, rfl, -, -⟩ := hgi.1.shape
  obtain ⟨nl, hnl⟩ : ∃ z, (s.J.getD i []).length = z := ⟨_, rfl⟩
  have hnl0 : 0 < nl := by rw [← hnl]; exact List.length_pos_iff.2 hne
  have hnli : (0 : Int) < (nl : Int) := by omega
  have hjk : (s.J.getD i []).length ≤ 1000 := Nat.le_trans (ok.jk i hi2) hK
  rw [hnl] at hgi hcj
  obtain ⟨bf, of, jf, rfl, -, hjf, hcf, -, -⟩ := hgi.1.at (k := 0) hnl0
  rw [Nat.add_zero] at hcf
  have hjg : (s.J.getD i []).headD 0 = jf := by
    cases hc : s.J.getD i [] with
    | nil => exact absurd hc hne
    | cons y l => rw [hc] at hjf; simpa using hjf
  rw [hjg] at hSP
  have HGI := Lib.hid hgi
  have HNL := Lib.hid hnl
  have HNE := Lib.hid hne
  clear hvv hgi hnl hxr hcq hjf hjg hr hi e1 hn0 hn1 hn2 hn3 hcg
  by_cases hjb : jf ≠ job
  · rw [if_pos hjb] at hSP
    have HSP := Lib.hid hSP.symm
    have dj : (jf != job) = true := bne_iff_ne.2 hjb
    have dj2 : (jf == job) = false := beq_eq_false_iff_ne.2 hjb
    clear hSP hjb ok hne hcb hqb hjk
    go_enter Try.func68, Try.ntmps68
    go_upto_region 3 with fail
    rw [HW1.out]
    clear HW1
    go_wp2
    go_quiet (fail)
    have HR2 := Lib.hid (HR0.out.below (below_drawn ⟨nq, rfl⟩))
    obtain ⟨w2, hw2⟩ : ∃ z, W1.drewN nq = z := ⟨_, rfl⟩
    rw [hw2] at HR2 ⊢
    have k0 := HR2.out.box.cell (i := 0) (x := .slice a0 n0 c0) rfl
    have k1 := HR2.out.box.cell (i := 1) (x := .slice (some ⟨b1, o1, none⟩) n1 c1) rfl
    have k2 := HR2.out.box.cell (i := 2) (x := .slice (some ⟨b2, o2, none⟩) n2 c2) rfl
    have k3 := HR2.out.box.cell (i := 3) (x := .slice (some ⟨br, or, none⟩) n3 c3) rfl
    have u0 := HR2.out.use.cell (i := 0) (x := .int .i64 job) rfl
    have u1 := HR2.out.use.cell (i := 1) (x := .int .i64 used) rfl
    have u2 := HR2.out.use.cell (i := 2) (x := .bool st) rfl
    have hrx := HR2.out.res
    have r0 := hrx.cell (i := 0) (x := .slice none 0 0) rfl
    have r1 := hrx.cell (i := 1) (x := .slice none 0 0) rfl
    have r2 := hrx.cell (i := 2) (x := .slice none 0 0) rfl
    have r3 := hrx.cell (i := 3) (x := .slice none 0 0) rfl
    have r4 := hrx.cell (i := 4) (x := .int .i64 0) rfl
    have s0 := hrx.free 0
    have s1 := hrx.free 1
    have s2 := hrx.free 2
    have s3 := hrx.free 3
    have s4 := hrx.free 4
    have HFN := Lib.hid (fin5 hrx (HR2.out.gs) (HR2.out.bel) (.int .i64 6))
    clear hrx
    go_wp2
    obtain ⟨w5, hw5⟩ : ∃ z, (((((w2.setCell ⟨w.heap.size + 1 + 1, 0, none⟩ (.slice a0 n0 c0)).setCell ⟨w.heap.size + 1 + 1, 1, none⟩ (.slice (some ⟨b1, o1, none⟩) n1 c1)).setCell ⟨w.heap.size + 1 + 1, 2, none⟩ (.slice (some ⟨b2, o2, none⟩) n2 c2)).setCell ⟨w.heap.size + 1 + 1, 3, none⟩ (.slice (some ⟨br, or, none⟩) n3 c3)).setCell ⟨w.heap.size + 1 + 1, 4, none⟩ (.int .i64 6)) = z := ⟨_, rfl⟩
    rw [hw5] at HFN ⊢
    have y0 := HFN.out.2.2.cell (i := 0) (x := .slice a0 n0 c0) rfl
    have y1 := HFN.out.2.2.cell (i := 1) (x := .slice (some ⟨b1, o1, none⟩) n1 c1) rfl
    have y2 := HFN.out.2.2.cell (i := 2) (x := .slice (some ⟨b2, o2, none⟩) n2 c2) rfl
    have y3 := HFN.out.2.2.cell (i := 3) (x := .slice (some ⟨br, or, none⟩) n3 c3) rfl
    have y4 := HFN.out.2.2.cell (i := 4) (x := .int .i64 6) rfl
    refine bodyPost_ret (v := .agg #[.slice a0 n0 c0, .slice (some ⟨b1, o1, none⟩) n1 c1, .slice (some ⟨b2, o2, none⟩) n2 c2, .slice (some ⟨br, or, none⟩) n3 c3, .int .i64 6]) (by simp [results, Try.results68, go_sem, y0, y1, y2, y3, y4]) rfl ?_
    rw [HSP.out]
    exact ⟨_, _, _, rfl, HFN.out.1, HFN.out.2.1⟩
  rw [if_neg hjb] at hSP
  obtain rfl : job = jf := (Classical.not_not.1 hjb).symm
  have dj : (job != job) = false := bne_self_eq_false _
  have hcI : ((cq : Int) < used) ∨ ¬ (cq < used) := by omega
  have hcI : cq ≤ 1099511627776 := by omega
  have du0 : used < 0 ∨ 0 ≤ used := by omega
  have dcu : cq < used ∨ used ≤ cq := by omega
  have hcs : (used < 0 ∧ SP = (1, s)) ∨ ((0 ≤ used ∧ cq < used) ∧ SP = (1, s)) ∨ ((0 ≤ used ∧ used ≤ cq) ∧ SP = (0, restS (midS (useS s i used) i job st) i)) := by
    rcases du0 with h1 | h1
    · left
      rw [if_pos (.inl h1)] at hSP
      exact ⟨h1, hSP.symm⟩
    · rcases dcu with h2 | h2
      · right; left
        rw [if_pos (.inr h2)] at hSP
        exact ⟨⟨h1, h2⟩, hSP.symm⟩
      · right; right
        rw [if_neg (by omega)] at hSP
        exact ⟨⟨h1, h2⟩, hSP.symm⟩
  have HCS := Lib.hid hcs
  have HJK := Lib.hid hjk
  have HQB := Lib.hid hqb
  have HCB := Lib.hid hcb
  clear hSP hcs du0 dcu ok hne hcb hqb hjk hjb hcI
  go_enter Try.func68, Try.ntmps68
  go_upto_region 1 with fail
  rw [HW1.out]
  clear HW1
  go_wp2
  go_quiet (fail)
  have HR2 := Lib.hid (HR0.out.below (below_drawn ⟨nq, rfl⟩))
  have hcc := cellB hcc (below_drawn (w := W1) ⟨nq, rfl⟩)
  obtain ⟨w2, hw⟩ : ∃ z, W1.drewN nq = z := ⟨_, rfl⟩
  rw [hw] at HR2 hcc ⊢
  clear hw k0 k1 k2 k3 u0 u1 u2
  have k0 := HR2.out.box.cell (i := 0) (x := .slice a0 n0 c0) rfl
  have k1 := HR2.out.box.cell (i := 1) (x := .slice (some ⟨b1, o1, none⟩) n1 c1) rfl
  have k2 := HR2.out.box.cell (i := 2) (x := .slice (some ⟨b2, o2, none⟩) n2 c2) rfl
  have k3 := HR2.out.box.cell (i := 3) (x := .slice (some ⟨br, or, none⟩) n3 c3) rfl
  have u0 := HR2.out.use.cell (i := 0) (x := .int .i64 job) rfl
  have u1 := HR2.out.use.cell (i := 1) (x := .int .i64 used) rfl
  have u2 := HR2.out.use.cell (i := 2) (x := .bool st) rfl
  clear hcr hcj hcf
  rcases HCS.out with ⟨h1, HSPx⟩ | ⟨⟨h1, h2⟩, HSPx⟩ | ⟨⟨h1, h2⟩, HSPx⟩
  · have HSP := Lib.hid HSPx
    have du : decide (used < 0) = true := decide_eq_true h1
    clear h1 HSPx HCS
    go_wp2_with fail
    go_quiet (fail)
    have HR3 := Lib.hid (HR2.out.below (below_drawn ⟨nq, rfl⟩))
    obtain ⟨w3, hw⟩ : ∃ z, w2.drewN nq = z := ⟨_, rfl⟩
    rw [hw] at HR3  ⊢
    clear hw k0 k1 k2 k3 u0 u1 u2
    have k0 := HR3.out.box.cell (i := 0) (x := .slice a0 n0 c0) rfl
    have k1 := HR3.out.box.cell (i := 1) (x := .slice (some ⟨b1, o1, none⟩) n1 c1) rfl
    have k2 := HR3.out.box.cell (i := 2) (x := .slice (some ⟨b2, o2, none⟩) n2 c2) rfl
    have k3 := HR3.out.box.cell (i := 3) (x := .slice (some ⟨br, or, none⟩) n3 c3) rfl
    have u0 := HR3.out.use.cell (i := 0) (x := .int .i64 job) rfl
    have u1 := HR3.out.use.cell (i := 1) (x := .int .i64 used) rfl
    have u2 := HR3.out.use.cell (i := 2) (x := .bool st) rfl
    have hrx := HR3.out.res
    have r0 := hrx.cell (i := 0) (x := .slice none 0 0) rfl
    have r1 := hrx.cell (i := 1) (x := .slice none 0 0) rfl
    have r2 := hrx.cell (i := 2) (x := .slice none 0 0) rfl
    have r3 := hrx.cell (i := 3) (x := .slice none 0 0) rfl
    have r4 := hrx.cell (i := 4) (x := .int .i64 0) rfl
    have s0 := hrx.free 0
    have s1 := hrx.free 1
    have s2 := hrx.free 2
    have s3 := hrx.free 3
    have s4 := hrx.free 4
    have HFN := Lib.hid (fin5 hrx (HR3.out.gs) (HR3.out.bel) (.int .i64 1))
    clear hrx
    go_wp2
    obtain ⟨w5, hw5⟩ : ∃ z, (((((w3.setCell ⟨w.heap.size + 1 + 1, 0, none⟩ (.slice a0 n0 c0)).setCell ⟨w.heap.size + 1 + 1, 1, none⟩ (.slice (some ⟨b1, o1, none⟩) n1 c1)).setCell ⟨w.heap.size + 1 + 1, 2, none⟩ (.slice (some ⟨b2, o2, none⟩) n2 c2)).setCell ⟨w.heap.size + 1 + 1, 3, none⟩ (.slice (some ⟨br, or, none⟩) n3 c3)).setCell ⟨w.heap.size + 1 + 1, 4, none⟩ (.int .i64 1)) = z := ⟨_, rfl⟩
    rw [hw5] at HFN ⊢
    have y0 := HFN.out.2.2.cell (i := 0) (x := .slice a0 n0 c0) rfl
    have y1 := HFN.out.2.2.cell (i := 1) (x := .slice (some ⟨b1, o1, none⟩) n1 c1) rfl
    have y2 := HFN.out.2.2.cell (i := 2) (x := .slice (some ⟨b2, o2, none⟩) n2 c2) rfl
    have y3 := HFN.out.2.2.cell (i := 3) (x := .slice (some ⟨br, or, none⟩) n3 c3) rfl
    have y4 := HFN.out.2.2.cell (i := 4) (x := .int .i64 1) rfl
    refine bodyPost_ret (v := .agg #[.slice a0 n0 c0, .slice (some ⟨b1, o1, none⟩) n1 c1, .slice (some ⟨b2, o2, none⟩) n2 c2, .slice (some ⟨br, or, none⟩) n3 c3, .int .i64 1]) (by simp [results, Try.results68, go_sem, y0, y1, y2, y3, y4]) rfl ?_
    rw [HSP.out]
    exact ⟨_, _, _, rfl, HFN.out.1, HFN.out.2.1⟩
  · have HSP := Lib.hid HSPx
    have du : decide (used < 0) = false := decide_eq_false (by omega)
    have dc : decide (cq < used) = true := decide_eq_true h2
    clear h1 h2 HSPx HCS
    go_wp2_with fail
    go_quiet (fail)
    have HR3 := Lib.hid (HR2.out.below (below_drawn ⟨nq, rfl⟩))
    obtain ⟨w3, hw⟩ : ∃ z, w2.drewN nq = z := ⟨_, rfl⟩
    rw [hw] at HR3  ⊢
    clear hw k0 k1 k2 k3 u0 u1 u2
    have k0 := HR3.out.box.cell (i := 0) (x := .slice a0 n0 c0) rfl
    have k1 := HR3.out.box.cell (i := 1) (x := .slice (some ⟨b1, o1, none⟩) n1 c1) rfl
    have k2 := HR3.out.box.cell (i := 2) (x := .slice (some ⟨b2, o2, none⟩) n2 c2) rfl
    have k3 := HR3.out.box.cell (i := 3) (x := .slice (some ⟨br, or, none⟩) n3 c3) rfl
    have u0 := HR3.out.use.cell (i := 0) (x := .int .i64 job) rfl
    have u1 := HR3.out.use.cell (i := 1) (x := .int .i64 used) rfl
    have u2 := HR3.out.use.cell (i := 2) (x := .bool st) rfl
    have hrx := HR3.out.res
    have r0 := hrx.cell (i := 0) (x := .slice none 0 0) rfl
    have r1 := hrx.cell (i := 1) (x := .slice none 0 0) rfl
    have r2 := hrx.cell (i := 2) (x := .slice none 0 0) rfl
    have r3 := hrx.cell (i := 3) (x := .slice none 0 0) rfl
    have r4 := hrx.cell (i := 4) (x := .int .i64 0) rfl
    have s0 := hrx.free 0
    have s1 := hrx.free 1
    have s2 := hrx.free 2
    have s3 := hrx.free 3
    have s4 := hrx.free 4
    have HFN := Lib.hid (fin5 hrx (HR3.out.gs) (HR3.out.bel) (.int .i64 1))
    clear hrx
    go_wp2
    obtain ⟨w5, hw5⟩ : ∃ z, (((((w3.setCell ⟨w.heap.size + 1 + 1, 0, none⟩ (.slice a0 n0 c0)).setCell ⟨w.heap.size + 1 + 1, 1, none⟩ (.slice (some ⟨b1, o1, none⟩) n1 c1)).setCell ⟨w.heap.size + 1 + 1, 2, none⟩ (.slice (some ⟨b2, o2, none⟩) n2 c2)).setCell ⟨w.heap.size + 1 + 1, 3, none⟩ (.slice (some ⟨br, or, none⟩) n3 c3)).setCell ⟨w.heap.size + 1 + 1, 4, none⟩ (.int .i64 1)) = z := ⟨_, rfl⟩
    rw [hw5] at HFN ⊢
    have y0 := HFN.out.2.2.cell (i := 0) (x := .slice a0 n0 c0) rfl
    have y1 := HFN.out.2.2.cell (i := 1) (x := .slice (some ⟨b1, o1, none⟩) n1 c1) rfl
    have y2 := HFN.out.2.2.cell (i := 2) (x := .slice (some ⟨b2, o2, none⟩) n2 c2) rfl
    have y3 := HFN.out.2.2.cell (i := 3) (x := .slice (some ⟨br, or, none⟩) n3 c3) rfl
    have y4 := HFN.out.2.2.cell (i := 4) (x := .int .i64 1) rfl
    refine bodyPost_ret (v := .agg #[.slice a0 n0 c0, .slice (some ⟨b1, o1, none⟩) n1 c1, .slice (some ⟨b2, o2, none⟩) n2 c2, .slice (some ⟨br, or, none⟩) n3 c3, .int .i64 1]) (by simp [results, Try.results68, go_sem, y0, y1, y2, y3, y4]) rfl ?_
    rw [HSP.out]
    exact ⟨_, _, _, rfl, HFN.out.1, HFN.out.2.1⟩
  · have HSP := Lib.hid HSPx
    have du : decide (used < 0) = false := decide_eq_false (by omega)
    have dc : decide (cq < used) = false := decide_eq_false (by omega)
    obtain ⟨left, hleft⟩ : ∃ z, cq - used = z := ⟨_, rfl⟩
    have hwr : IntKind.i64.wrap (cq - used) = left := by
      rw [← hleft]
      have := HCB.out
      have := HQB.out
      exact IntWalk.i64_in _ (by omega)
    have HLE := Lib.hid (show s.C.getD i 0 - used = left by rw [HCG.out, hleft])
    have HLB := Lib.hid (show 0 ≤ left ∧ left ≤ s.Q.getD i 0 by have := HCB.out; omega)
    clear h1 h2 HSPx HCS hleft
    go_wp2_with fail
    go_quiet (fail)
    have HR3 := Lib.hid (HR2.out.below (below_drawn ⟨nq, rfl⟩))
    have hcc := cellB hcc (below_drawn (w := w2) ⟨nq, rfl⟩)
    obtain ⟨w3, hw⟩ : ∃ z, w2.drewN nq = z := ⟨_, rfl⟩
    rw [hw] at HR3 hcc ⊢
    clear hw k0 k1 k2 k3 u0 u1 u2
    have k0 := HR3.out.box.cell (i := 0) (x := .slice a0 n0 c0) rfl
    have k1 := HR3.out.box.cell (i := 1) (x := .slice (some ⟨b1, o1, none⟩) n1 c1) rfl
    have k2 := HR3.out.box.cell (i := 2) (x := .slice (some ⟨b2, o2, none⟩) n2 c2) rfl
    have k3 := HR3.out.box.cell (i := 3) (x := .slice (some ⟨br, or, none⟩) n3 c3) rfl
    have u0 := HR3.out.use.cell (i := 0) (x := .int .i64 job) rfl
    have u1 := HR3.out.use.cell (i := 1) (x := .int .i64 used) rfl
    have u2 := HR3.out.use.cell (i := 2) (x := .bool st) rfl
    go_wp2_with fail
    go_quiet (fail)
    have HR4 := Lib.hid (HR3.out.below (below_drawn ⟨nq, rfl⟩))
    obtain ⟨w4, hw⟩ : ∃ z, w3.drewN nq = z := ⟨_, rfl⟩
    rw [hw] at HR4  ⊢
    clear hw k0 k1 k2 k3 u0 u1 u2
    have k0 := HR4.out.box.cell (i := 0) (x := .slice a0 n0 c0) rfl
    have k1 := HR4.out.box.cell (i := 1) (x := .slice (some ⟨b1, o1, none⟩) n1 c1) rfl
    have k2 := HR4.out.box.cell (i := 2) (x := .slice (some ⟨b2, o2, none⟩) n2 c2) rfl
    have k3 := HR4.out.box.cell (i := 3) (x := .slice (some ⟨br, or, none⟩) n3 c3) rfl
    have u0 := HR4.out.use.cell (i := 0) (x := .int .i64 job) rfl
    have u1 := HR4.out.use.cell (i := 1) (x := .int .i64 used) rfl
    have u2 := HR4.out.use.cell (i := 2) (x := .bool st) rfl
    clear hcc
    have HCR := Lib.hid (rcredit_any (fun j => G j ∧ (j < w.heap.size ∨ w.heap.size + 3 ≤ j)) _ _ _ _ s i left w4 HR4.out.gs hiC (by have := HC1.out; have := HN1.out; omega) (by have := HLB.out; omega) (by have := HLB.out; have := HQB.out; omega) (fun j hj => ⟨HGG.out j (by have := HR4.out.sz; omega), .inr (Nat.le_trans HR4.out.sz hj)⟩))
    go_wp2_with fail
    refine HCR.out.mono ?_
    rintro e y ⟨v3, rfl, hg3, hb3⟩
    obtain ⟨a3n, c3n, rfl, -, -⟩ := hg3.1.shape
    rw [List.length_set, HC1.out] at hg3 ⊢
    clear HCR
    have HM0 := Lib.hid (HR4.out.next hb3 (vc2 := .slice a3n n1 c3n) (vj2 := .slice (some ⟨b2, o2, none⟩) n2 c2) (vr2 := .slice (some ⟨br, or, none⟩) n3 c3) (s2 := useS s i used) (by
      unfold useS
      rw [HLE.out]
      exact ⟨HR4.out.gs.q.below hb3, hg3, HR4.out.gs.j.below hb3, HR4.out.gs.r.below hb3⟩))
    have HOK1 := Lib.hid (show Ok K (useS s i used) by
      unfold useS
      rw [HLE.out]
      exact HOK.out.setC i left HLB.out)
    have HRS := Lib.hid (fun s2 h2 => restS_left (s := s) (s2 := s2) (i := i) (used := used) (job := job) (st := st) hiC h2)
    rw [HLE.out] at HRS
    clear hg3 hb3 HR2 HR3 HR4 k0 k1 k2 k3 u0 u1 u2 hwr
    go_upto_region 10 with fail
    obtain ⟨nb, hnb⟩ : ∃ z, y.heap.size = z := ⟨_, rfl⟩
    rw [hnb] at HM0 ⊢
    obtain ⟨w5, hw5⟩ : ∃ z, (y.alloc (.cells #[.slice a0 n0 c0, .slice a3n n1 c3n, .slice (some ⟨b2, o2, none⟩) n2 c2, .slice (some ⟨br, or, none⟩) n3 c3] 67 (0, 0))) = z := ⟨_, rfl⟩
    rw [hw5] at HM0 ⊢
    clear hw5 hnb
    have HNB := Lib.hid HM0.out.nbs
    have mm0 := HM0.out.nxt.cell (i := 0) (x := .slice a0 n0 c0) rfl
    have mm1 := HM0.out.nxt.cell (i := 1) (x := .slice a3n n1 c3n) rfl
    have mm2 := HM0.out.nxt.cell (i := 2) (x := .slice (some ⟨b2, o2, none⟩) n2 c2) rfl
    have mm3 := HM0.out.nxt.cell (i := 3) (x := .slice (some ⟨br, or, none⟩) n3 c3) rfl
    have u0 := HM0.out.r0.use.cell (i := 0) (x := .int .i64 job) rfl
    have u1 := HM0.out.r0.use.cell (i := 1) (x := .int .i64 used) rfl
    have u2 := HM0.out.r0.use.cell (i := 2) (x := .bool st) rfl
    have hle0 : left = 0 ∨ left ≠ 0 := by omega
    obtain ⟨s1, hs1⟩ : ∃ z, useS s i used = z := ⟨_, rfl⟩
    have HS1 := Lib.hid hs1
    rw [hs1] at HM0 HOK1 HSP HRS
    have hi1 : i < s1.Q.length := by rw [← hs1]; exact hi2
    have hJ1 : s1.J = s.J := by rw [← hs1]; rfl
    have HR1L := Lib.hid (show s1.R.length = n3 by rw [← hs1]; exact HN3.out)
    have HC1L := Lib.hid (show s1.C.getD i 0 = left by rw [← hs1, ← HLE.out]; unfold useS; exact getD_set_eq hiC _ _)
    clear hs1
    cases st with
    | true =>
      have hOU := rout_any (fun j => (G j ∧ (j < w.heap.size ∨ w.heap.size + 3 ≤ j)) ∧ j ≠ nb) _ _ _ _ s1 i job w5 HM0.out.gs hi1 HOK1.out.lc HOK1.out.lj HOK1.out.n16 (Nat.le_trans (HOK1.out.jk i hi1) hK) (Nat.le_trans HOK1.out.rk hK) (HOK1.out.jn i hi1) HOK1.out.rn (fun j hj => by
        have h1 := HM0.out.r0.sz
        have h2 := HM0.out.nxt.lt
        exact ⟨⟨HGG.out j (by omega), .inr (by omega)⟩, by omega⟩)
      obtain ⟨s2, hs2⟩ : ∃ z, outM s1 i job = z := ⟨_, rfl⟩
      have hRS := HRS.out s2 (by unfold midS; rw [if_pos rfl]; exact hs2.symm)
      have HSP2 := Lib.hid (show SP = (0, restS s2 i) by
        rw [HSP.out]
        unfold midS
        rw [if_pos rfl, hs2])
      have hiJ2 : i < s2.J.length := by rw [← hs2]; unfold outM; split <;> (dsimp only; rw [List.length_set, hJ1]; exact hiJ)
      have HR2K := Lib.hid (show s2.R.length ≤ 1000 by
        have h1 := (HOK1.out.out hi1 job).rk
        rw [hs2] at h1
        omega)
      rw [hs2] at hOU
      have HOU := Lib.hid hOU
      have HRS2 := Lib.hid hRS
      clear hOU hRS HRS hs2 HSP
      go_wp2_with fail
      refine HOU.out.mono ?_
      rintro e y2 ⟨v1, v2, v3, rfl, hg, hb⟩
      obtain ⟨a1n, c1n, rfl, -, -⟩ := hg.c.1.shape
      obtain ⟨a2n, c2n, rfl, -, -⟩ := hg.j.shape
      obtain ⟨a4n, c4n, rfl, -, -⟩ := hg.r.1.shape
      obtain ⟨m1, hm1⟩ : ∃ z, s2.C.length = z := ⟨_, rfl⟩
      obtain ⟨m2, hm2⟩ : ∃ z, s2.J.length = z := ⟨_, rfl⟩
      obtain ⟨m3, hm3⟩ : ∃ z, s2.R.length = z := ⟨_, rfl⟩
      have HM2L := Lib.hid hm2
      have HM3L := Lib.hid hm3
      rw [hm1, hm2, hm3] at hg ⊢
      have HM1 := Lib.hid (HM0.out.store hb hg)
      have hNX := HM0.out.nxt.below hb
      have e0 := hNX.cell (i := 0) (x := .slice a0 n0 c0) rfl
      have e1 := hNX.cell (i := 1) (x := .slice a3n n1 c3n) rfl
      have e2 := hNX.cell (i := 2) (x := .slice (some ⟨b2, o2, none⟩) n2 c2) rfl
      have e3 := hNX.cell (i := 3) (x := .slice (some ⟨br, or, none⟩) n3 c3) rfl
      have g0 := hNX.free 0
      have g1 := hNX.free 1
      have g2 := hNX.free 2
      have g3 := hNX.free 3
      have him : i < m2 := by rw [← hm2]; exact hiJ2
      clear HOU hg hb hm1 hm2 hm3 hNX HM0 mm0 mm1 mm2 mm3 u0 u1 u2
      go_upto_region 14 with fail
      obtain ⟨w6, hw6⟩ : ∃ z, ((((y2.setCell ⟨nb, 0, none⟩ (.slice a0 n0 c0)).setCell ⟨nb, 1, none⟩ (.slice a1n m1 c1n)).setCell ⟨nb, 2, none⟩ (.slice a2n m2 c2n)).setCell ⟨nb, 3, none⟩ (.slice a4n m3 c4n)) = z := ⟨_, rfl⟩
      rw [hw6] at HM1 ⊢
      clear hw6 e0 e1 e2 e3 g0 g1 g2 g3
      rcases hle0 with hl | hl
      · have dl : (left == 0) = true := by rw [hl]; rfl
        have HL0 := Lib.hid hl
        obtain ⟨b2n, o2n, cjn, vi, hvv, hcj, hgi⟩ := HM1.out.gs.j.at hiJ2
        rw [HM2L.out] at hvv
        obtain ⟨rfl, rfl⟩ : a2n = some ⟨b2n, o2n, none⟩ ∧ c2n = cjn := by simpa using hvv
        obtain ⟨ain, cin, rfl, -, -⟩ := hgi.1.shape
        obtain ⟨nln, hnln⟩ : ∃ z, (s2.J.getD i []).length = z := ⟨_, rfl⟩
        rw [hnln] at hcj
        have him2 : (i : Int) < (m2 : Int) := by omega
        clear hvv hgi hl
        by_cases hJ : s2.J.getD i [] = []
        · obtain rfl : nln = 0 := by rw [← hnln, hJ]; rfl
          have HSP := Lib.hid (show SP = (0, s2) by rw [HSP2.out, HRS2.out, if_neg (fun q => q.2 hJ)])
          clear hnln hJ
          have qq0 := HM1.out.nxt.cell (i := 0) (x := .slice a0 n0 c0) rfl
          have qq1 := HM1.out.nxt.cell (i := 1) (x := .slice a1n m1 c1n) rfl
          have qq2 := HM1.out.nxt.cell (i := 2) (x := .slice (some ⟨b2n, o2n, none⟩) m2 c2n) rfl
          have qq3 := HM1.out.nxt.cell (i := 3) (x := .slice a4n m3 c4n) rfl
          have hrx := HM1.out.r0.res
          have r0 := hrx.cell (i := 0) (x := .slice none 0 0) rfl
          have r1 := hrx.cell (i := 1) (x := .slice none 0 0) rfl
          have r2 := hrx.cell (i := 2) (x := .slice none 0 0) rfl
          have r3 := hrx.cell (i := 3) (x := .slice none 0 0) rfl
          have r4 := hrx.cell (i := 4) (x := .int .i64 0) rfl
          have s0 := hrx.free 0
          have s1 := hrx.free 1
          have s2 := hrx.free 2
          have s3 := hrx.free 3
          have s4 := hrx.free 4
          have HFN := Lib.hid (fin5 hrx (HM1.out.gs.imp (fun j hj => hj.1)) (HM1.out.r0.bel) (.int .i64 0))
          clear hrx
          go_wp2
          obtain ⟨w5, hw5⟩ : ∃ z, (((((w6.setCell ⟨w.heap.size + 1 + 1, 0, none⟩ (.slice a0 n0 c0)).setCell ⟨w.heap.size + 1 + 1, 1, none⟩ (.slice a1n m1 c1n)).setCell ⟨w.heap.size + 1 + 1, 2, none⟩ (.slice (some ⟨b2n, o2n, none⟩) m2 c2n)).setCell ⟨w.heap.size + 1 + 1, 3, none⟩ (.slice a4n m3 c4n)).setCell ⟨w.heap.size + 1 + 1, 4, none⟩ (.int .i64 0)) = z := ⟨_, rfl⟩
          rw [hw5] at HFN ⊢
          have y0 := HFN.out.2.2.cell (i := 0) (x := .slice a0 n0 c0) rfl
          have y1 := HFN.out.2.2.cell (i := 1) (x := .slice a1n m1 c1n) rfl
          have y2 := HFN.out.2.2.cell (i := 2) (x := .slice (some ⟨b2n, o2n, none⟩) m2 c2n) rfl
          have y3 := HFN.out.2.2.cell (i := 3) (x := .slice a4n m3 c4n) rfl
          have y4 := HFN.out.2.2.cell (i := 4) (x := .int .i64 0) rfl
          refine bodyPost_ret (v := .agg #[.slice a0 n0 c0, .slice a1n m1 c1n, .slice (some ⟨b2n, o2n, none⟩) m2 c2n, .slice a4n m3 c4n, .int .i64 0]) (by simp [results, Try.results68, go_sem, y0, y1, y2, y3, y4]) rfl ?_
          rw [HSP.out]
          exact ⟨_, _, _, rfl, HFN.out.1, HFN.out.2.1⟩
        · have hnl1 : 0 < nln := by rw [← hnln]; exact List.length_pos_iff.2 hJ
          have hnl2 : (0 : Int) < (nln : Int) := by omega
          have HJNE := Lib.hid hJ
          clear hnln hJ
          have qq0 := HM1.out.nxt.cell (i := 0) (x := .slice a0 n0 c0) rfl
          have qq1 := HM1.out.nxt.cell (i := 1) (x := .slice a1n m1 c1n) rfl
          have qq2 := HM1.out.nxt.cell (i := 2) (x := .slice (some ⟨b2n, o2n, none⟩) m2 c2n) rfl
          have qq3 := HM1.out.nxt.cell (i := 3) (x := .slice a4n m3 c4n) rfl
          have HRT := Lib.hid (fun (W : World) (k : Below w6.heap.size w6 W) => refrot_any (.slice a4n m3 c4n) s2.R W HR2K.out ((HM1.out.gs.below k).r.1))
          have HLR := Lib.hid (show (rotL s2.R).length = m3 by rw [rotL_len]; exact HM3L.out)
          obtain ⟨re, hre⟩ : ∃ z, rotL s2.R = z := ⟨_, rfl⟩
          have HRE := Lib.hid hre
          rw [hre] at HRT HLR
          clear hre
          go_wp2
          go_region_with (first
            | (go_at_call 86; (with_reducible refine (HRT.out w6.drew (below_drew1 w6)).mono ?_); rintro e y4 ⟨v4, rfl, hr4, hz4, hf4, hb4⟩; obtain ⟨a4x, c4x, rfl, -, -⟩ := hr4.shape; rw [HLR.out] at hr4 hz4 hf4 ⊢; have hA4 := below_two (below_drew1 w6) hb4; have p0 := cellB qq0 hA4; have p1 := cellB qq1 hA4; have p2 := cellB qq2 hA4; have p3 := cellB qq3 hA4)
            | (go_at_call 82; (with_reducible refine (rring_any y4 _ _ _ _ _ _ _ _ _ _ _ _ _ _ _).mono ?_); rintro e y5 ⟨rfl, hb5⟩; have hA5 := below_two hA4 hb5; have hN5 := HM1.out.nxt.below hA5; have e0 := hN5.cell (i := 0) (x := .slice a0 n0 c0) rfl; have e1 := hN5.cell (i := 1) (x := .slice a1n m1 c1n) rfl; have e2 := hN5.cell (i := 2) (x := .slice (some ⟨b2n, o2n, none⟩) m2 c2n) rfl; have e3 := hN5.cell (i := 3) (x := .slice a4n m3 c4n) rfl; have g0 := hN5.free 0; have g1 := hN5.free 1; have g2 := hN5.free 2; have g3 := hN5.free 3)
            | fail)
          all_goals
            have HM7 := Lib.hid (HM1.out.store (s2 := { s2 with R := re }) hA5 (by
              exact ⟨HM1.out.gs.q.below hA5, HM1.out.gs.c.below hA5, HM1.out.gs.j.below hA5, (GI.fresh hr4 hz4 hf4 (fun j hj => by
                have h1 := HM1.out.r0.sz
                have h2 := HM1.out.nxt.lt
                have h3 : w6.heap.size ≤ j := hj
                have h4 := HNB.out
                exact ⟨⟨HGG.out j (by omega), .inr (by omega)⟩, by omega⟩)).below hb5⟩))
            obtain ⟨w7, hw7⟩ : ∃ z, ((((y5.setCell ⟨nb, 0, none⟩ (.slice a0 n0 c0)).setCell ⟨nb, 1, none⟩ (.slice a1n m1 c1n)).setCell ⟨nb, 2, none⟩ (.slice (some ⟨b2n, o2n, none⟩) m2 c2n)).setCell ⟨nb, 3, none⟩ (.slice a4x m3 c4x)) = z := ⟨_, rfl⟩
            rw [hw7] at HM7 ⊢
            have HSP := Lib.hid (show SP = (0, { s2 with R := re }) by rw [HSP2.out, HRS2.out, if_pos ⟨HL0.out, HJNE.out⟩, HRE.out])
            clear hw7 e0 e1 e2 e3 g0 g1 g2 g3 hN5 hr4 hz4 hf4 hb4 hb5 hA4 hA5 p0 p1 p2 p3 qq0 qq1 qq2 qq3
            have mm0 := HM7.out.nxt.cell (i := 0) (x := .slice a0 n0 c0) rfl
            have mm1 := HM7.out.nxt.cell (i := 1) (x := .slice a1n m1 c1n) rfl
            have mm2 := HM7.out.nxt.cell (i := 2) (x := .slice (some ⟨b2n, o2n, none⟩) m2 c2n) rfl
            have mm3 := HM7.out.nxt.cell (i := 3) (x := .slice a4x m3 c4x) rfl
            have hrx := HM7.out.r0.res
            have r0 := hrx.cell (i := 0) (x := .slice none 0 0) rfl
            have r1 := hrx.cell (i := 1) (x := .slice none 0 0) rfl
            have r2 := hrx.cell (i := 2) (x := .slice none 0 0) rfl
            have r3 := hrx.cell (i := 3) (x := .slice none 0 0) rfl
            have r4 := hrx.cell (i := 4) (x := .int .i64 0) rfl
            have s0 := hrx.free 0
            have s1 := hrx.free 1
            have s2 := hrx.free 2
            have s3 := hrx.free 3
            have s4 := hrx.free 4
            have HFN := Lib.hid (fin5 hrx (HM7.out.gs.imp (fun j hj => hj.1)) (HM7.out.r0.bel) (.int .i64 0))
            clear hrx
            go_wp2
            obtain ⟨w5, hw5⟩ : ∃ z, (((((w7.setCell ⟨w.heap.size + 1 + 1, 0, none⟩ (.slice a0 n0 c0)).setCell ⟨w.heap.size + 1 + 1, 1, none⟩ (.slice a1n m1 c1n)).setCell ⟨w.heap.size + 1 + 1, 2, none⟩ (.slice (some ⟨b2n, o2n, none⟩) m2 c2n)).setCell ⟨w.heap.size + 1 + 1, 3, none⟩ (.slice a4x m3 c4x)).setCell ⟨w.heap.size + 1 + 1, 4, none⟩ (.int .i64 0)) = z := ⟨_, rfl⟩
            rw [hw5] at HFN ⊢
            have y0 := HFN.out.2.2.cell (i := 0) (x := .slice a0 n0 c0) rfl
            have y1 := HFN.out.2.2.cell (i := 1) (x := .slice a1n m1 c1n) rfl
            have y2 := HFN.out.2.2.cell (i := 2) (x := .slice (some ⟨b2n, o2n, none⟩) m2 c2n) rfl
            have y3 := HFN.out.2.2.cell (i := 3) (x := .slice a4x m3 c4x) rfl
            have y4 := HFN.out.2.2.cell (i := 4) (x := .int .i64 0) rfl
            refine bodyPost_ret (v := .agg #[.slice a0 n0 c0, .slice a1n m1 c1n, .slice (some ⟨b2n, o2n, none⟩) m2 c2n, .slice a4x m3 c4x, .int .i64 0]) (by simp [results, Try.results68, go_sem, y0, y1, y2, y3, y4]) rfl ?_
            rw [HSP.out]
            exact ⟨_, _, _, rfl, HFN.out.1, HFN.out.2.1⟩
      · have dl : (left == 0) = false := beq_eq_false_iff_ne.2 hl
        have HSP := Lib.hid (show SP = (0, s2) by rw [HSP2.out, HRS2.out, if_neg (fun q => hl q.1)])
        clear hl
        have qq0 := HM1.out.nxt.cell (i := 0) (x := .slice a0 n0 c0) rfl
        have qq1 := HM1.out.nxt.cell (i := 1) (x := .slice a1n m1 c1n) rfl
        have qq2 := HM1.out.nxt.cell (i := 2) (x := .slice a2n m2 c2n) rfl
        have qq3 := HM1.out.nxt.cell (i := 3) (x := .slice a4n m3 c4n) rfl
        have hrx := HM1.out.r0.res
        have r0 := hrx.cell (i := 0) (x := .slice none 0 0) rfl
        have r1 := hrx.cell (i := 1) (x := .slice none 0 0) rfl
        have r2 := hrx.cell (i := 2) (x := .slice none 0 0) rfl
        have r3 := hrx.cell (i := 3) (x := .slice none 0 0) rfl
        have r4 := hrx.cell (i := 4) (x := .int .i64 0) rfl
        have s0 := hrx.free 0
        have s1 := hrx.free 1
        have s2 := hrx.free 2
        have s3 := hrx.free 3
        have s4 := hrx.free 4
        have HFN := Lib.hid (fin5 hrx (HM1.out.gs.imp (fun j hj => hj.1)) (HM1.out.r0.bel) (.int .i64 0))
        clear hrx
        go_wp2
        obtain ⟨w5, hw5⟩ : ∃ z, (((((w6.setCell ⟨w.heap.size + 1 + 1, 0, none⟩ (.slice a0 n0 c0)).setCell ⟨w.heap.size + 1 + 1, 1, none⟩ (.slice a1n m1 c1n)).setCell ⟨w.heap.size + 1 + 1, 2, none⟩ (.slice a2n m2 c2n)).setCell ⟨w.heap.size + 1 + 1, 3, none⟩ (.slice a4n m3 c4n)).setCell ⟨w.heap.size + 1 + 1, 4, none⟩ (.int .i64 0)) = z := ⟨_, rfl⟩
        rw [hw5] at HFN ⊢
        have y0 := HFN.out.2.2.cell (i := 0) (x := .slice a0 n0 c0) rfl
        have y1 := HFN.out.2.2.cell (i := 1) (x := .slice a1n m1 c1n) rfl
        have y2 := HFN.out.2.2.cell (i := 2) (x := .slice a2n m2 c2n) rfl
        have y3 := HFN.out.2.2.cell (i := 3) (x := .slice a4n m3 c4n) rfl
        have y4 := HFN.out.2.2.cell (i := 4) (x := .int .i64 0) rfl
        refine bodyPost_ret (v := .agg #[.slice a0 n0 c0, .slice a1n m1 c1n, .slice a2n m2 c2n, .slice a4n m3 c4n, .int .i64 0]) (by simp [results, Try.results68, go_sem, y0, y1, y2, y3, y4]) rfl ?_
        rw [HSP.out]
        exact ⟨_, _, _, rfl, HFN.out.1, HFN.out.2.1⟩
    | false =>
      rcases hle0 with hl | hl
      · have dl : (left == 0) = true := by rw [hl]; rfl
        have HL0 := Lib.hid hl
        have hRS := HRS.out (rotS s1 i) (by unfold midS; rw [if_neg Bool.false_ne_true, if_pos (by rw [HC1L.out]; exact hl)])
        have HSP2 := Lib.hid (show SP = (0, restS (rotS s1 i) i) by
          rw [HSP.out]
          unfold midS
          rw [if_neg Bool.false_ne_true, if_pos (by rw [HC1L.out]; exact hl)])
        have hJl : s1.J.length = n2 := by rw [hJ1]; exact HJ2.out
        have hiJ1 : i < s1.J.length := by rw [hJ1]; exact hiJ
        obtain ⟨b2', o2', cjn, vi, hvv, hcj, hgi⟩ := HM0.out.r0.gs.j.at hiJ
        rw [HJ2.out] at hvv
        obtain ⟨⟨rfl, rfl⟩, rfl⟩ : (b2 = b2' ∧ o2 = o2') ∧ c2 = cjn := by simpa using hvv
        obtain ⟨ain, cin, rfl, -, -⟩ := hgi.1.shape
        obtain ⟨row, hrow⟩ : ∃ z, s.J.getD i [] = z := ⟨_, rfl⟩
        have hJK := HJK.out
        rw [hrow] at hgi hcj hJK
        have HRT := Lib.hid (fun (W : World) (k : Below w5.heap.size w5 W) => refrot_any (.slice ain row.length cin) row W hJK (hgi.1.below k))
        obtain ⟨rr, hrr⟩ : ∃ z, rotL row = z := ⟨_, rfl⟩
        obtain ⟨nr, hnr⟩ : ∃ z, row.length = z := ⟨_, rfl⟩
        rw [hrr, hnr] at HRT
        rw [hnr] at hcj
        have hfin : ∀ (W : World), Below w5.heap.size w5 W → ∀ j, W.heap.size ≤ j → (fun j => (G j ∧ (j < w.heap.size ∨ w.heap.size + 3 ≤ j)) ∧ j ≠ nb) j := fun W k j hj => by
          have h1 := HM0.out.r0.sz
          have h2 := HM0.out.nxt.lt
          have h3 := k.size
          exact ⟨⟨HGG.out j (by omega), .inr (by omega)⟩, by omega⟩
        have HFI := Lib.hid hfin
        have HJB := Lib.hid (fun (W : World) (k : Below w5.heap.size w5 W) (vn : Value) (hv : GI (fun j => (G j ∧ (j < w.heap.size ∨ w.heap.size + 3 ≤ j)) ∧ j ≠ nb) W vn rr) => rjobs_any (fun j => (G j ∧ (j < w.heap.size ∨ w.heap.size + 3 ≤ j)) ∧ j ≠ nb) _ _ _ _ vn s1 i rr W (HM0.out.gs.below k) hv hiJ1 (by have := HN2.out; omega) (hfin W k))
        have HROT := Lib.hid (show rotS s1 i = { s1 with J := s1.J.set i rr } by unfold rotS; rw [hJ1, hrow, hrr])
        have HJNE0 := Lib.hid (show (rotS s1 i).J.getD i [] ≠ [] by
          unfold rotS
          dsimp only
          rw [getD_set_eq hiJ1, hJ1]
          exact rotL_ne HNE.out)
        have HJL := Lib.hid hJl
        have HRK := Lib.hid (show s1.R.length ≤ 1000 by rw [HR1L.out]; exact hn31)
        have HRS1 := Lib.hid hRS
        clear hl hRS HSP HRS hvv hgi hrow hJK hrr hnr hfin hJ1 hJl u0 u1
        have mm0 := HM0.out.nxt.cell (i := 0) (x := .slice a0 n0 c0) rfl
        have mm1 := HM0.out.nxt.cell (i := 1) (x := .slice a3n n1 c3n) rfl
        have mm2 := HM0.out.nxt.cell (i := 2) (x := .slice (some ⟨b2, o2, none⟩) n2 c2) rfl
        have mm3 := HM0.out.nxt.cell (i := 3) (x := .slice (some ⟨br, or, none⟩) n3 c3) rfl
        have k0 := HM0.out.r0.box.cell (i := 0) (x := .slice a0 n0 c0) rfl
        have k1 := HM0.out.r0.box.cell (i := 1) (x := .slice (some ⟨b1, o1, none⟩) n1 c1) rfl
        have k2 := HM0.out.r0.box.cell (i := 2) (x := .slice (some ⟨b2, o2, none⟩) n2 c2) rfl
        have k3 := HM0.out.r0.box.cell (i := 3) (x := .slice (some ⟨br, or, none⟩) n3 c3) rfl
        go_wp2
        go_region_with (first
          | (go_at_call 86; (with_reducible refine (HRT.out w5.drew (below_drew1 w5)).mono ?_); rintro e y3 ⟨v3, rfl, hr3, hz3, hf3, hb3⟩; obtain ⟨a5, c5, rfl, -, -⟩ := hr3.shape; have hA3 := below_two (below_drew1 w5) hb3; have hG3 := GI.fresh hr3 hz3 hf3 (HFI.out w5.drew (below_drew1 w5)); have p0 := cellB mm0 hA3; have p1 := cellB mm1 hA3; have p2 := cellB mm2 hA3; have p3 := cellB mm3 hA3)
          | (go_at_call 80; (with_reducible refine (HJB.out y3 hA3 _ hG3).mono ?_); rintro e y4 ⟨v4, rfl, hgj, hfv, hb4⟩; obtain ⟨a6, c6, rfl, -, -⟩ := hgj.shape; rw [List.length_set, HJL.out] at hgj hfv ⊢; have hA4 := below_two hA3 hb4; have hN5 := HM0.out.nxt.below hA4; have e0 := hN5.cell (i := 0) (x := .slice a0 n0 c0) rfl; have e1 := hN5.cell (i := 1) (x := .slice a3n n1 c3n) rfl; have e2 := hN5.cell (i := 2) (x := .slice (some ⟨b2, o2, none⟩) n2 c2) rfl; have e3 := hN5.cell (i := 3) (x := .slice (some ⟨br, or, none⟩) n3 c3) rfl; have g0 := hN5.free 0; have g1 := hN5.free 1; have g2 := hN5.free 2; have g3 := hN5.free 3)
          | fail)
        all_goals
          have HM1 := Lib.hid (HM0.out.store (s2 := rotS s1 i) hA4 (by
            rw [HROT.out]
            exact ⟨HM0.out.gs.q.below hA4, HM0.out.gs.c.below hA4, hgj, HM0.out.gs.r.below hA4⟩))
          obtain ⟨w6, hw6⟩ : ∃ z, ((((y4.setCell ⟨nb, 0, none⟩ (.slice a0 n0 c0)).setCell ⟨nb, 1, none⟩ (.slice a3n n1 c3n)).setCell ⟨nb, 2, none⟩ (.slice a6 n2 c6)).setCell ⟨nb, 3, none⟩ (.slice (some ⟨br, or, none⟩) n3 c3)) = z := ⟨_, rfl⟩
          rw [hw6] at HM1 ⊢
          clear hw6 e0 e1 e2 e3 g0 g1 g2 g3 p0 p1 p2 p3 hN5 hgj hfv hb3 hb4 hA3 hA4 hG3 hr3 hz3 hf3 mm0 mm1 mm2 mm3 k0 k1 k2 k3 u2 hcj HRT HJB HFI HM0
          have HM3L := Lib.hid (show (rotS s1 i).R.length = n3 from HR1L.out)
          have HR2K := Lib.hid (show (rotS s1 i).R.length ≤ 1000 from HRK.out)
          have hiJ2 : i < (rotS s1 i).J.length := by unfold rotS; rw [List.length_set]; exact hiJ1
          have HM2L := Lib.hid (show (rotS s1 i).J.length = n2 by unfold rotS; rw [List.length_set]; exact HJL.out)
          have HSP3 := HSP2
          have HRS2 := HRS1
          have HJNE := HJNE0
          clear HSP2 HRS1 HJNE0 HROT HRK
          obtain ⟨s2, hs2⟩ : ∃ z, rotS s1 i = z := ⟨_, rfl⟩
          rw [hs2] at HM1 HM3L HR2K hiJ2 HM2L HSP3 HRS2 HJNE
          have HSP2 := HSP3
          clear HSP3 hs2
          obtain ⟨b2n, o2n, cjn, vi, hvv, hcj, hgi⟩ := HM1.out.gs.j.at hiJ2
          rw [HM2L.out] at hvv
          obtain ⟨rfl, rfl⟩ : a6 = some ⟨b2n, o2n, none⟩ ∧ c6 = cjn := by simpa using hvv
          obtain ⟨aix, cix, rfl, -, -⟩ := hgi.1.shape
          obtain ⟨nln, hnln⟩ : ∃ z, (s2.J.getD i []).length = z := ⟨_, rfl⟩
          have hnl1 : 0 < nln := by rw [← hnln]; exact List.length_pos_iff.2 HJNE.out
          have hnl2 : (0 : Int) < (nln : Int) := by omega
          rw [hnln] at hcj
          clear hvv hgi hnln
          have qq0 := HM1.out.nxt.cell (i := 0) (x := .slice a0 n0 c0) rfl
          have qq1 := HM1.out.nxt.cell (i := 1) (x := .slice a3n n1 c3n) rfl
          have qq2 := HM1.out.nxt.cell (i := 2) (x := .slice (some ⟨b2n, o2n, none⟩) n2 c6) rfl
          have qq3 := HM1.out.nxt.cell (i := 3) (x := .slice (some ⟨br, or, none⟩) n3 c3) rfl
          have HRT := Lib.hid (fun (W : World) (k : Below w6.heap.size w6 W) => refrot_any (.slice (some ⟨br, or, none⟩) n3 c3) s2.R W HR2K.out ((HM1.out.gs.below k).r.1))
          have HLR := Lib.hid (show (rotL s2.R).length = n3 by rw [rotL_len]; exact HM3L.out)
          obtain ⟨re, hre⟩ : ∃ z, rotL s2.R = z := ⟨_, rfl⟩
          have HRE := Lib.hid hre
          rw [hre] at HRT HLR
          clear hre
          go_wp2
          go_region_with (first
            | (go_at_call 86; (with_reducible refine (HRT.out w6.drew (below_drew1 w6)).mono ?_); rintro e y4 ⟨v4, rfl, hr4, hz4, hf4, hb4⟩; obtain ⟨a4x, c4x, rfl, -, -⟩ := hr4.shape; rw [HLR.out] at hr4 hz4 hf4 ⊢; have hA4 := below_two (below_drew1 w6) hb4; have p0 := cellB qq0 hA4; have p1 := cellB qq1 hA4; have p2 := cellB qq2 hA4; have p3 := cellB qq3 hA4)
            | (go_at_call 82; (with_reducible refine (rring_any y4 _ _ _ _ _ _ _ _ _ _ _ _ _ _ _).mono ?_); rintro e y5 ⟨rfl, hb5⟩; have hA5 := below_two hA4 hb5; have hN5 := HM1.out.nxt.below hA5; have e0 := hN5.cell (i := 0) (x := .slice a0 n0 c0) rfl; have e1 := hN5.cell (i := 1) (x := .slice a3n n1 c3n) rfl; have e2 := hN5.cell (i := 2) (x := .slice (some ⟨b2n, o2n, none⟩) n2 c6) rfl; have e3 := hN5.cell (i := 3) (x := .slice (some ⟨br, or, none⟩) n3 c3) rfl; have g0 := hN5.free 0; have g1 := hN5.free 1; have g2 := hN5.free 2; have g3 := hN5.free 3)
            | fail)
          all_goals
            have HM7 := Lib.hid (HM1.out.store (s2 := { s2 with R := re }) hA5 (by
              exact ⟨HM1.out.gs.q.below hA5, HM1.out.gs.c.below hA5, HM1.out.gs.j.below hA5, (GI.fresh hr4 hz4 hf4 (fun j hj => by
                have h1 := HM1.out.r0.sz
                have h2 := HM1.out.nxt.lt
                have h3 : w6.heap.size ≤ j := hj
                have h4 := HNB.out
                exact ⟨⟨HGG.out j (by omega), .inr (by omega)⟩, by omega⟩)).below hb5⟩))
            obtain ⟨w7, hw7⟩ : ∃ z, ((((y5.setCell ⟨nb, 0, none⟩ (.slice a0 n0 c0)).setCell ⟨nb, 1, none⟩ (.slice a3n n1 c3n)).setCell ⟨nb, 2, none⟩ (.slice (some ⟨b2n, o2n, none⟩) n2 c6)).setCell ⟨nb, 3, none⟩ (.slice a4x n3 c4x)) = z := ⟨_, rfl⟩
            rw [hw7] at HM7 ⊢
            have HSP := Lib.hid (show SP = (0, { s2 with R := re }) by rw [HSP2.out, HRS2.out, if_pos ⟨HL0.out, HJNE.out⟩, HRE.out])
            clear hw7 e0 e1 e2 e3 g0 g1 g2 g3 hN5 hr4 hz4 hf4 hb4 hb5 hA4 hA5 p0 p1 p2 p3 qq0 qq1 qq2 qq3
            have mm0 := HM7.out.nxt.cell (i := 0) (x := .slice a0 n0 c0) rfl
            have mm1 := HM7.out.nxt.cell (i := 1) (x := .slice a3n n1 c3n) rfl
            have mm2 := HM7.out.nxt.cell (i := 2) (x := .slice (some ⟨b2n, o2n, none⟩) n2 c6) rfl
            have mm3 := HM7.out.nxt.cell (i := 3) (x := .slice a4x n3 c4x) rfl
            have hrx := HM7.out.r0.res
            have r0 := hrx.cell (i := 0) (x := .slice none 0 0) rfl
            have r1 := hrx.cell (i := 1) (x := .slice none 0 0) rfl
            have r2 := hrx.cell (i := 2) (x := .slice none 0 0) rfl
            have r3 := hrx.cell (i := 3) (x := .slice none 0 0) rfl
            have r4 := hrx.cell (i := 4) (x := .int .i64 0) rfl
            have s0 := hrx.free 0
            have s1 := hrx.free 1
            have s2 := hrx.free 2
            have s3 := hrx.free 3
            have s4 := hrx.free 4
            have HFN := Lib.hid (fin5 hrx (HM7.out.gs.imp (fun j hj => hj.1)) (HM7.out.r0.bel) (.int .i64 0))
            clear hrx
            go_wp2
            obtain ⟨w5, hw5⟩ : ∃ z, (((((w7.setCell ⟨w.heap.size + 1 + 1, 0, none⟩ (.slice a0 n0 c0)).setCell ⟨w.heap.size + 1 + 1, 1, none⟩ (.slice a3n n1 c3n)).setCell ⟨w.heap.size + 1 + 1, 2, none⟩ (.slice (some ⟨b2n, o2n, none⟩) n2 c6)).setCell ⟨w.heap.size + 1 + 1, 3, none⟩ (.slice a4x n3 c4x)).setCell ⟨w.heap.size + 1 + 1, 4, none⟩ (.int .i64 0)) = z := ⟨_, rfl⟩
            rw [hw5] at HFN ⊢
            have y0 := HFN.out.2.2.cell (i := 0) (x := .slice a0 n0 c0) rfl
            have y1 := HFN.out.2.2.cell (i := 1) (x := .slice a3n n1 c3n) rfl
            have y2 := HFN.out.2.2.cell (i := 2) (x := .slice (some ⟨b2n, o2n, none⟩) n2 c6) rfl
            have y3 := HFN.out.2.2.cell (i := 3) (x := .slice a4x n3 c4x) rfl
            have y4 := HFN.out.2.2.cell (i := 4) (x := .int .i64 0) rfl
            refine bodyPost_ret (v := .agg #[.slice a0 n0 c0, .slice a3n n1 c3n, .slice (some ⟨b2n, o2n, none⟩) n2 c6, .slice a4x n3 c4x, .int .i64 0]) (by simp [results, Try.results68, go_sem, y0, y1, y2, y3, y4]) rfl ?_
            rw [HSP.out]
            exact ⟨_, _, _, rfl, HFN.out.1, HFN.out.2.1⟩
      · have dl : (left == 0) = false := beq_eq_false_iff_ne.2 hl
        have hRS := HRS.out s1 (by unfold midS; rw [if_neg Bool.false_ne_true, if_neg (by rw [HC1L.out]; exact hl)])
        have HSPn := HSP
        clear HSP
        have HSP := Lib.hid (show SP = (0, s1) by
          rw [HSPn.out]
          unfold midS
          rw [if_neg Bool.false_ne_true, if_neg (by rw [HC1L.out]; exact hl), hRS, if_neg (fun q => hl q.1)])
        clear hl hRS HSPn HRS
        have hrx := HM0.out.r0.res
        have r0 := hrx.cell (i := 0) (x := .slice none 0 0) rfl
        have r1 := hrx.cell (i := 1) (x := .slice none 0 0) rfl
        have r2 := hrx.cell (i := 2) (x := .slice none 0 0) rfl
        have r3 := hrx.cell (i := 3) (x := .slice none 0 0) rfl
        have r4 := hrx.cell (i := 4) (x := .int .i64 0) rfl
        have s0 := hrx.free 0
        have s1 := hrx.free 1
        have s2 := hrx.free 2
        have s3 := hrx.free 3
        have s4 := hrx.free 4
        have HFN := Lib.hid (fin5 hrx (HM0.out.gs.imp (fun j hj => hj.1)) (HM0.out.r0.bel) (.int .i64 0))
        clear hrx
        go_wp2
        obtain ⟨w5, hw5⟩ : ∃ z, (((((w5.setCell ⟨w.heap.size + 1 + 1, 0, none⟩ (.slice a0 n0 c0)).setCell ⟨w.heap.size + 1 + 1, 1, none⟩ (.slice a3n n1 c3n)).setCell ⟨w.heap.size + 1 + 1, 2, none⟩ (.slice (some ⟨b2, o2, none⟩) n2 c2)).setCell ⟨w.heap.size + 1 + 1, 3, none⟩ (.slice (some ⟨br, or, none⟩) n3 c3)).setCell ⟨w.heap.size + 1 + 1, 4, none⟩ (.int .i64 0)) = z := ⟨_, rfl⟩
        rw [hw5] at HFN ⊢
        have y0 := HFN.out.2.2.cell (i := 0) (x := .slice a0 n0 c0) rfl
        have y1 := HFN.out.2.2.cell (i := 1) (x := .slice a3n n1 c3n) rfl
        have y2 := HFN.out.2.2.cell (i := 2) (x := .slice (some ⟨b2, o2, none⟩) n2 c2) rfl
        have y3 := HFN.out.2.2.cell (i := 3) (x := .slice (some ⟨br, or, none⟩) n3 c3) rfl
        have y4 := HFN.out.2.2.cell (i := 4) (x := .int .i64 0) rfl
        refine bodyPost_ret (v := .agg #[.slice a0 n0 c0, .slice a3n n1 c3n, .slice (some ⟨b2, o2, none⟩) n2 c2, .slice (some ⟨br, or, none⟩) n3 c3, .int .i64 0]) (by simp [results, Try.results68, go_sem, y0, y1, y2, y3, y4]) rfl ?_
        rw [HSP.out]
        exact ⟨_, _, _, rfl, HFN.out.1, HFN.out.2.1⟩
end Go.Proofs.Ytmgjmpmcadjemaa

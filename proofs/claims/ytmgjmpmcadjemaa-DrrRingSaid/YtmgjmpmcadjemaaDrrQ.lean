/- Package drr: the reference's Next. -/
import Derived.Test.YtmgjmpmcadjemaaDrrP
namespace Go.Proofs.Ytmgjmpmcadjemaa
open Go.RowKit

theorem keep8 {w : World} {rb : Nat} (a b c d e f g h : Value) : Keep (fun j => j = rb) w ((((((((w.setCell ⟨rb, 0, none⟩ a).setCell ⟨rb, 1, none⟩ b).setCell ⟨rb, 2, none⟩ c).setCell ⟨rb, 3, none⟩ d).setCell ⟨rb, 4, none⟩ e).setCell ⟨rb, 5, none⟩ f).setCell ⟨rb, 6, none⟩ g).setCell ⟨rb, 7, none⟩ h) :=
  keep_setCell (S := fun j => j = rb) (keep_setCell (S := fun j => j = rb) (keep_setCell (S := fun j => j = rb) (keep5 a b c d e) rfl _) rfl _) rfl _
theorem set8 {w : World} {rb : Nat} {xs : List Value} {t : TypeId} (a b c d e f g h : Value) (hb : Blk w rb xs t) (hl : xs.length = 8) : Blk ((((((((w.setCell ⟨rb, 0, none⟩ a).setCell ⟨rb, 1, none⟩ b).setCell ⟨rb, 2, none⟩ c).setCell ⟨rb, 3, none⟩ d).setCell ⟨rb, 4, none⟩ e).setCell ⟨rb, 5, none⟩ f).setCell ⟨rb, 6, none⟩ g).setCell ⟨rb, 7, none⟩ h) rb [a, b, c, d, e, f, g, h] t := by
  match xs, hl with
  | [x, y, z, u, v, m, n, k], _ => exact (((((((hb.set 0 a).set 1 b).set 2 c).set 3 d).set 4 e).set 5 f).set 6 g).set 7 h
def N0 : List Value := [.slice none 0 0, .slice none 0 0, .slice none 0 0, .slice none 0 0, .int .i64 0, .int .i64 0, .int .i64 0, .bool false]
/-- within Next: the state's box, the result's block -/
structure RN (G : Nat → Prop) (w w2 : World) (vq vc vj vr : Value) (s : Sch) : Prop where
  box : Blk w2 w.heap.size [vq, vc, vj, vr] 67
  res : Blk w2 (w.heap.size + 1) N0 127
  gs : GS (fun j => (G j ∧ j ≠ w.heap.size) ∧ j ≠ w.heap.size + 1) w2 vq vc vj vr s
  bel : Below w.heap.size w w2
  sz : w.heap.size + 2 ≤ w2.heap.size
theorem RN.below {G : Nat → Prop} {w w2 w3 : World} {vq vc vj vr : Value} {s : Sch} (h : RN G w w2 vq vc vj vr s) (k : Below w2.heap.size w2 w3) : RN G w w3 vq vc vj vr s :=
  ⟨h.box.below k, h.res.below k, h.gs.below k, below_two h.bel k, Nat.le_trans h.sz k.size⟩
/-- a new state in the box -/
theorem RN.store {G : Nat → Prop} {w w2 w3 : World} {vq vc vj vr vc' vj' vr' : Value} {s s' : Sch} (h : RN G w w2 vq vc vj vr s) (k : Below w2.heap.size w2 w3)
    (g : GS (fun j => (G j ∧ j ≠ w.heap.size) ∧ j ≠ w.heap.size + 1) w3 vq vc' vj' vr' s') : RN G w ((((w3.setCell ⟨w.heap.size, 0, none⟩ vq).setCell ⟨w.heap.size, 1, none⟩ vc').setCell ⟨w.heap.size, 2, none⟩ vj').setCell ⟨w.heap.size, 3, none⟩ vr') vq vc' vj' vr' s' := by
  have hk := keep4 (w := w3) (rb := w.heap.size) vq vc' vj' vr'
  have h3 := h.below k
  exact ⟨set4 vq vc' vj' vr' h3.box rfl, h3.res.keep hk (fun e => absurd (show w.heap.size + 1 = w.heap.size from e) (by omega)), g.keep hk (fun j e q => q.1.2 e),
    h3.bel.trans (hk.below (B := w.heap.size) h3.bel.size (fun j hj e => absurd (show j = w.heap.size from e) (Nat.ne_of_lt hj))), by have := hk.size; have := h3.sz; omega⟩
/-- the result -/
theorem RN.fin {G : Nat → Prop} {w w2 : World} {vq vc vj vr : Value} {s : Sch} (h : RN G w w2 vq vc vj vr s) (e f g k : Value) :
    GS G ((((((((w2.setCell ⟨w.heap.size + 1, 0, none⟩ vq).setCell ⟨w.heap.size + 1, 1, none⟩ vc).setCell ⟨w.heap.size + 1, 2, none⟩ vj).setCell ⟨w.heap.size + 1, 3, none⟩ vr).setCell ⟨w.heap.size + 1, 4, none⟩ e).setCell ⟨w.heap.size + 1, 5, none⟩ f).setCell ⟨w.heap.size + 1, 6, none⟩ g).setCell ⟨w.heap.size + 1, 7, none⟩ k) vq vc vj vr s ∧ Below w.heap.size w ((((((((w2.setCell ⟨w.heap.size + 1, 0, none⟩ vq).setCell ⟨w.heap.size + 1, 1, none⟩ vc).setCell ⟨w.heap.size + 1, 2, none⟩ vj).setCell ⟨w.heap.size + 1, 3, none⟩ vr).setCell ⟨w.heap.size + 1, 4, none⟩ e).setCell ⟨w.heap.size + 1, 5, none⟩ f).setCell ⟨w.heap.size + 1, 6, none⟩ g).setCell ⟨w.heap.size + 1, 7, none⟩ k) ∧ Blk ((((((((w2.setCell ⟨w.heap.size + 1, 0, none⟩ vq).setCell ⟨w.heap.size + 1, 1, none⟩ vc).setCell ⟨w.heap.size + 1, 2, none⟩ vj).setCell ⟨w.heap.size + 1, 3, none⟩ vr).setCell ⟨w.heap.size + 1, 4, none⟩ e).setCell ⟨w.heap.size + 1, 5, none⟩ f).setCell ⟨w.heap.size + 1, 6, none⟩ g).setCell ⟨w.heap.size + 1, 7, none⟩ k) (w.heap.size + 1) [vq, vc, vj, vr, e, f, g, k] 127 := by
  have hk := keep8 (w := w2) (rb := w.heap.size + 1) vq vc vj vr e f g k
  exact ⟨(h.gs.keep hk (fun j e q => q.2 e)).imp (fun j hj => hj.1.1), h.bel.trans (hk.below (B := w.heap.size) h.bel.size (fun j hj e => absurd (show j = w.heap.size + 1 from e) (by omega))), set8 vq vc vj vr e f g k h.res rfl⟩

set_option maxHeartbeats 16000000 in
set_option maxRecDepth 100000 in
theorem rnext30_any {K : Nat} (G : Nat → Prop) (vq vc vj vr v : Value) (s : Sch) (budget : Int) (left : List Int) (w : World) (h : GS G w vq vc vj vr s) (ok : Ok K s) (hK : K ≤ 1000) (hv : RInts w v left) (hb1 : -9223372036854775808 ≤ budget) (hb2 : budget ≤ 9223372036854775807) (hG : ∀ j, w.heap.size ≤ j → G j) :
    Calls Try.prog 84 #[.agg #[vq, vc, vj, vr], .int .i64 budget, v] w fun e w' => ∃ vc' vj' vr', e = .returned (.agg #[vq, vc', vj', vr', .int .i64 ((nextM s budget left).2.getD (0, 0, 0)).1, .int .i64 ((nextM s budget left).2.getD (0, 0, 0)).2.1, .int .i64 ((nextM s budget left).2.getD (0, 0, 0)).2.2, .bool (nextM s budget left).2.isSome]) ∧ GS G w' vq vc' vj' vr' (nextM s budget left).1 ∧ Below w.heap.size w w' := by
  obtain ⟨a0, c0, rfl, -, -⟩ := h.q.1.shape
  obtain ⟨a1, c1, rfl, -, -⟩ := h.c.1.shape
  obtain ⟨a2, c2, rfl, -, -⟩ := h.j.shape
  obtain ⟨a3, c3, rfl, -, -⟩ := h.r.1.shape
  obtain ⟨av, cv, rfl, -, -⟩ := hv.shape
  obtain ⟨n0, hn0⟩ : ∃ z, s.Q.length = z := ⟨_, rfl⟩
  obtain ⟨n1, hn1⟩ : ∃ z, s.C.length = z := ⟨_, rfl⟩
  obtain ⟨n2, hn2⟩ : ∃ z, s.J.length = z := ⟨_, rfl⟩
  obtain ⟨n3, hn3⟩ : ∃ z, s.R.length = z := ⟨_, rfl⟩
  obtain ⟨nv, hnv⟩ : ∃ z, left.length = z := ⟨_, rfl⟩
  have HN0 := Lib.hid hn0
  have HN1 := Lib.hid (show n1 = n0 by rw [← hn1, ← hn0]; exact ok.lc)
  have HN2 := Lib.hid (show n2 = n0 by rw [← hn2, ← hn0]; exact ok.lj)
  have HN3 := Lib.hid hn3
  have HNV := Lib.hid hnv
  have hn16 : n0 ≤ 16 := by rw [← hn0]; exact ok.n16
  have hn31 : n3 ≤ 1000 := by rw [← hn3]; exact Nat.le_trans ok.rk hK
  have hle : budget < 1 ∨ nv ≠ n0 ∨ nv = n0 := by omega
  rw [hn0, hn1, hn2, hn3] at h
  rw [hnv] at hv
  rw [hn0, hn1, hn2, hn3, hnv]
  have HV := Lib.hid hv
  have HOK := Lib.hid ok
  obtain ⟨W1, hW1⟩ : ∃ z, (w.alloc (.cells #[.slice a0 n0 c0, .slice a1 n1 c1, .slice a2 n2 c2, .slice a3 n3 c3] 67 (0, 0))).alloc (.cells #[.slice none 0 0, .slice none 0 0, .slice none 0 0, .slice none 0 0, .int .i64 0, .int .i64 0, .int .i64 0, .bool false] 127 (0, 0)) = z := ⟨_, rfl⟩
  have HAL := Lib.hid (show Below w.heap.size w W1 by rw [← hW1]; exact alloc2 _ _ _)
  have HSZ := Lib.hid (show W1.heap.size = w.heap.size + 2 by rw [← hW1]; simp)
  have HRN := Lib.hid (show RN G w W1 (.slice a0 n0 c0) (.slice a1 n1 c1) (.slice a2 n2 c2) (.slice a3 n3 c3) s from
    ⟨by rw [← hW1]; exact blk1st _ _ _ _, by rw [← hW1]; exact blk2nd _ _ _ _, (h.live.below HAL.out).imp (fun j hj => ⟨⟨hj.1, Nat.ne_of_lt hj.2⟩, by have := hj.2; omega⟩), HAL.out, by rw [HSZ.out]; exact Nat.le_refl _⟩)
  have HGG := Lib.hid hG
  have HW1 := Lib.hid hW1
  have k0 := HRN.out.box.cell (i := 0) (x := .slice a0 n0 c0) rfl
  have k1 := HRN.out.box.cell (i := 1) (x := .slice a1 n1 c1) rfl
  have k2 := HRN.out.box.cell (i := 2) (x := .slice a2 n2 c2) rfl
  have k3 := HRN.out.box.cell (i := 3) (x := .slice a3 n3 c3) rfl
  obtain ⟨NX, hNX⟩ : ∃ z, nextM s budget left = z := ⟨_, rfl⟩
  rw [hNX]
  unfold nextM at hNX
  rw [hn0, hnv] at hNX
  clear h hG hW1 hv ok hn0 hn1 hn2 hn3 hnv
  by_cases hb : budget < 1
  · rw [if_pos (.inl hb)] at hNX
    subst hNX
    have t1 : decide (budget < 1) = true := decide_eq_true hb
    clear hb hle
    go_enter Try.func84, Try.ntmps84
    go_upto_region 2 with fail
    rw [HW1.out]
    clear HW1
    have hrx := HRN.out.res
    have r0 := hrx.cell (i := 0) (x := .slice none 0 0) rfl
    have r1 := hrx.cell (i := 1) (x := .slice none 0 0) rfl
    have r2 := hrx.cell (i := 2) (x := .slice none 0 0) rfl
    have r3 := hrx.cell (i := 3) (x := .slice none 0 0) rfl
    have r4 := hrx.cell (i := 4) (x := .int .i64 0) rfl
    have r5 := hrx.cell (i := 5) (x := .int .i64 0) rfl
    have r6 := hrx.cell (i := 6) (x := .int .i64 0) rfl
    have r7 := hrx.cell (i := 7) (x := .bool false) rfl
    have s0 := hrx.free 0
    have s1 := hrx.free 1
    have s2 := hrx.free 2
    have s3 := hrx.free 3
    have s4 := hrx.free 4
    have s5 := hrx.free 5
    have s6 := hrx.free 6
    have s7 := hrx.free 7
    have HFN := Lib.hid (HRN.out.fin (.int .i64 0) (.int .i64 0) (.int .i64 0) (.bool false))
    clear hrx
    go_wp2
    obtain ⟨w5, hw5⟩ : ∃ z, ((((((((W1.setCell ⟨w.heap.size + 1, 0, none⟩ (.slice a0 n0 c0)).setCell ⟨w.heap.size + 1, 1, none⟩ (.slice a1 n1 c1)).setCell ⟨w.heap.size + 1, 2, none⟩ (.slice a2 n2 c2)).setCell ⟨w.heap.size + 1, 3, none⟩ (.slice a3 n3 c3)).setCell ⟨w.heap.size + 1, 4, none⟩ (.int .i64 0)).setCell ⟨w.heap.size + 1, 5, none⟩ (.int .i64 0)).setCell ⟨w.heap.size + 1, 6, none⟩ (.int .i64 0)).setCell ⟨w.heap.size + 1, 7, none⟩ (.bool false)) = z := ⟨_, rfl⟩
    rw [hw5] at HFN ⊢
    have y0 := HFN.out.2.2.cell (i := 0) (x := .slice a0 n0 c0) rfl
    have y1 := HFN.out.2.2.cell (i := 1) (x := .slice a1 n1 c1) rfl
    have y2 := HFN.out.2.2.cell (i := 2) (x := .slice a2 n2 c2) rfl
    have y3 := HFN.out.2.2.cell (i := 3) (x := .slice a3 n3 c3) rfl
    have y4 := HFN.out.2.2.cell (i := 4) (x := .int .i64 0) rfl
    have y5 := HFN.out.2.2.cell (i := 5) (x := .int .i64 0) rfl
    have y6 := HFN.out.2.2.cell (i := 6) (x := .int .i64 0) rfl
    have y7 := HFN.out.2.2.cell (i := 7) (x := .bool false) rfl
    refine bodyPost_ret (v := .agg #[.slice a0 n0 c0, .slice a1 n1 c1, .slice a2 n2 c2, .slice a3 n3 c3, .int .i64 0, .int .i64 0, .int .i64 0, .bool false]) (by simp [results, Try.results84, go_sem, y0, y1, y2, y3, y4, y5, y6, y7]) rfl ?_
    exact ⟨_, _, _, rfl, HFN.out.1, HFN.out.2.1⟩
  have t1 : decide (budget < 1) = false := decide_eq_false hb
  by_cases hln : nv = n0
  · rw [if_neg (fun e => e.elim hb (fun q => q hln)), HN3.out] at hNX
    have tl : ((nv : Int) != (n0 : Int)) = false := by rw [hln]; exact bne_self_eq_false _
    have HLN := Lib.hid hln
    have HNXT := Lib.hid hNX
    clear hb hle hln hNX
    go_enter Try.func84, Try.ntmps84
    go_upto_region 3 with fail
    rw [HW1.out]
    clear HW1
    go_wp2
    clear k0 k1 k2 k3
    go_loopw [23] (fun iv w2 => ∃ (k : Nat) (s1 : Sch) (a1 a3 : Option Addr) (c1 c3 : Nat), k ≤ n3 ∧ iv = .int .i64 (k : Int) ∧ Hid (RN G w w2 (.slice a0 n0 c0) (.slice a1 n1 c1) (.slice a2 n2 c2) (.slice a3 n3 c3) s1) ∧ Hid (Ok K s1 ∧ s1.R.length = n3 ∧ s1.Q = s.Q ∧ s1.J = s.J ∧ nextR left budget (n3 - k) s1 = NX)) (fun iv _ => n3 - (intOf iv).toNat)
    case atStart => exact ⟨0, s, a1, a3, c1, c3, Nat.zero_le _, rfl, HRN.out, HOK.out, HN3.out, rfl, rfl, HNXT.out⟩
    case round =>
      clear HRN
      obtain ⟨k, s1, a1, a3, c1, c3, hk, rfl, HRN, HOK1⟩ := hrel
      have k0 := HRN.out.box.cell (i := 0) (x := .slice a0 n0 c0) rfl
      have k1 := HRN.out.box.cell (i := 1) (x := .slice a1 n1 c1) rfl
      have k2 := HRN.out.box.cell (i := 2) (x := .slice a2 n2 c2) rfl
      have k3 := HRN.out.box.cell (i := 3) (x := .slice a3 n3 c3) rfl
      rcases Nat.lt_or_ge k n3 with hlt | hge
      · obtain ⟨ok1, hr1, hq1, hj1, hnx⟩ := HOK1.out
        have hr10 : s1.R ≠ [] := fun e => by rw [e] at hr1; simp at hr1; omega
        obtain ⟨i, hi, hi2, hne⟩ := ok1.head hr10
        have e1 : (s1.R.headD 0).toNat = i := by rw [hi]; rfl
        have hi3 : i < n0 := by rw [← HN0.out, ← hq1]; exact hi2
        have hki : (k : Int) < (n3 : Int) := by omega
        have h03 : (0 : Int) < (n3 : Int) := by omega
        have hii : (i : Int) < (n0 : Int) := by omega
        have hi0 : (0 : Int) ≤ (i : Int) := by omega
        have hii1 : (i : Int) < (n1 : Int) := by have := HN1.out; omega
        have hii2 : (i : Int) < (n2 : Int) := by have := HN2.out; omega
        have hiv : (i : Int) < (nv : Int) := by have := HLN.out; omega
        -- the ring's front
        obtain ⟨br, or, xr, rfl, -, hxr, hcr, -, -⟩ := HRN.out.gs.r.1.at (k := 0) (by omega)
        obtain rfl : xr = (i : Int) := by
          cases hc : s1.R with
          | nil => exact absurd hc hr10
          | cons y l => rw [hc] at hxr hi; simp at hxr hi; omega
        rw [Nat.add_zero] at hcr
        -- what is left
        obtain ⟨bl, ol, x, rfl, -, hx, hcl, -, -⟩ := (HV.out.below HRN.out.bel).at (k := i) (by have := HLN.out; omega)
        have hxg : left.getD i 0 = x := by rw [List.getD_eq_getElem?_getD, hx]; rfl
        obtain ⟨m, hm⟩ : ∃ m, n3 - k = m + 1 := ⟨n3 - k - 1, by omega⟩
        have hm2 : n3 - (k + 1) = m := by omega
        rw [hm, nextR, e1, hxg] at hnx
        have hG2 : ∀ j, wr.heap.size ≤ j → (G j ∧ j ≠ w.heap.size) ∧ j ≠ w.heap.size + 1 := fun j hj => by
          have := HRN.out.sz
          exact ⟨⟨HGG.out j (by omega), by omega⟩, by omega⟩
        have HG2 := Lib.hid hG2
        have hx2 : -9223372036854775808 ≤ x ∧ x ≤ 9223372036854775807 := HV.out.2 x (List.mem_of_getElem? hx)
        by_cases hx1 : x < 1
        · rw [if_pos hx1] at hnx
          have d1 : decide (x < 1) = true := decide_eq_true hx1
          have hC16 : s1.C.length ≤ 1000 := by have := ok1.lc; have := ok1.n16; omega
          have hiC : i < s1.C.length := by rw [ok1.lc]; exact hi2
          have hC1 : s1.C.length = n1 := by rw [ok1.lc, hq1, HN0.out, HN1.out]
          have HC1 := Lib.hid hC1
          have HCR := Lib.hid (rcredit_any (fun j => (G j ∧ j ≠ w.heap.size) ∧ j ≠ w.heap.size + 1) _ _ _ _ s1 i 0 wr.drew (HRN.out.gs.below (below_drew1 wr)) hiC hC16 (by decide) (by decide) (fun j hj => hG2 j hj))
          have HRT := Lib.hid (fun (W : World) (k : Below wr.heap.size wr W) => refrot_any (.slice (some ⟨br, or, none⟩) n3 c3) s1.R W (Nat.le_trans ok1.rk hK) ((HRN.out.gs.below k).r.1))
          have HOK2 := Lib.hid (show Ok K (skipS s1 i) ∧ (skipS s1 i).R.length = n3 ∧ (skipS s1 i).Q = s.Q ∧ (skipS s1 i).J = s.J ∧ nextR left budget (n3 - (k + 1)) (skipS s1 i) = NX from ⟨ok1.skip hi2, by rw [skipS_R, rotL_len]; exact hr1, hq1, hj1, by rw [hm2]; exact hnx⟩)
          have HR1 := Lib.hid (show (rotL s1.R).length = n3 by rw [rotL_len]; exact hr1)
          obtain ⟨re, hre⟩ : ∃ z, rotL s1.R = z := ⟨_, rfl⟩
          have HSK := Lib.hid (show skipS s1 i = { s1 with C := s1.C.set i 0, R := re } by unfold skipS; rw [hre])
          rw [hre] at HRT HR1
          clear ok1 hr1 hq1 hj1 hnx hr10 hi hne e1 hxr hx hxg hm hm2 hx1 hx2 hre hG2 hC1 HOK1
          go_wp2
          go_region_with (first
            | (go_at_call 85; (with_reducible refine HCR.out.mono ?_); rintro e y3 ⟨v3, rfl, hg3, hb3⟩; obtain ⟨a3n, c3n, rfl, -, -⟩ := hg3.1.shape; rw [List.length_set, HC1.out] at hg3 ⊢; have hA3 := below_two (below_drew1 wr) hb3; have b3y := cellB k3 hA3)
            | (go_at_call 86; (with_reducible refine (HRT.out y3 hA3).mono ?_); rintro e y4 ⟨v4, rfl, hr4, hz4, hf4, hb4⟩; obtain ⟨a4n, c4n, rfl, -, -⟩ := hr4.shape; rw [HR1.out] at hr4 hz4 hf4 ⊢; have hA4 := below_two hA3 hb4)
            | (go_at_call 82; (with_reducible refine (rring_any y4 _ _ _ _ _ _ _ _ _ _ _ _ _ _ _).mono ?_); rintro e y5 ⟨rfl, hb5⟩; have hA5 := below_two hA4 hb5; have hN5 := HRN.out.box.below hA5; have e0 := hN5.cell (i := 0) (x := .slice a0 n0 c0) rfl; have e1 := hN5.cell (i := 1) (x := .slice a1 n1 c1) rfl; have e2 := hN5.cell (i := 2) (x := .slice a2 n2 c2) rfl; have e3 := hN5.cell (i := 3) (x := .slice (some ⟨br, or, none⟩) n3 c3) rfl; have g0 := hN5.free 0; have g1 := hN5.free 1; have g2 := hN5.free 2; have g3 := hN5.free 3)
            | fail)
          all_goals
            have HR6 := Lib.hid (HRN.out.store (vc' := .slice a3n n1 c3n) (vj' := .slice a2 n2 c2) (vr' := .slice a4n n3 c4n) (s' := skipS s1 i) hA5 (by
              rw [HSK.out]
              exact ⟨HRN.out.gs.q.below hA5, hg3.below (below_two hb4 hb5), HRN.out.gs.j.below hA5, (GI.fresh hr4 hz4 hf4 (fun j hj => HG2.out j (Nat.le_trans hA3.size hj))).below hb5⟩))
            obtain ⟨w6, hw6⟩ : ∃ z, ((((y5.setCell ⟨w.heap.size, 0, none⟩ (.slice a0 n0 c0)).setCell ⟨w.heap.size, 1, none⟩ (.slice a3n n1 c3n)).setCell ⟨w.heap.size, 2, none⟩ (.slice a2 n2 c2)).setCell ⟨w.heap.size, 3, none⟩ (.slice a4n n3 c4n)) = z := ⟨_, rfl⟩
            rw [hw6] at HR6 ⊢
            clear hw6 e0 e1 e2 e3 g0 g1 g2 g3 hN5 hr4 hz4 hf4 hb3 hb4 hb5 hg3 hA3 hA4 hA5 HRT HCR k0 k1 k2 k3 hcr hcl b3y HRN HSK
            go_wp2
            go_roundw
            case rel => exact ⟨k + 1, _, _, _, _, _, hlt, by go_num, HR6.out, HOK2.out⟩
            case measure => simp [intOf]; omega
        · rw [if_neg hx1] at hnx
          have d1 : decide (x < 1) = false := decide_eq_false hx1
          rw [hi] at hnx
          have hfj : (fillS s1 i).J = s1.J := by unfold fillS; split <;> rfl
          have hfq : (fillS s1 i).Q = s1.Q := by unfold fillS; split <;> rfl
          have hcase : (s1.C.getD i 0 = 0 ∧ fillS s1 i = { s1 with C := s1.C.set i (s1.Q.getD i 0) }) ∨ (s1.C.getD i 0 ≠ 0 ∧ fillS s1 i = s1) := by
            unfold fillS
            by_cases e : s1.C.getD i 0 = 0
            · rw [if_pos e]
              exact .inl ⟨e, rfl⟩
            · rw [if_neg e]
              exact .inr ⟨e, rfl⟩
          obtain ⟨s2, hs2⟩ : ∃ z, fillS s1 i = z := ⟨_, rfl⟩
          rw [hs2] at hcase hfj hfq hnx
          rw [← hfj] at hnx hne
          have HNXT := Lib.hid hnx
          have HX := Lib.hid hx
          have HNE := Lib.hid hne
          have hiJ : i < s2.J.length := by rw [hfj, ok1.lj]; exact hi2
          have hJ2 : s2.J.length = n2 := by rw [hfj, ok1.lj, hq1, HN0.out, HN2.out]
          have HJ2 := Lib.hid hJ2
          have hC16 : s1.C.length ≤ 1000 := by have := ok1.lc; have := ok1.n16; omega
          have hiC : i < s1.C.length := by rw [ok1.lc]; exact hi2
          have hC1 : s1.C.length = n1 := by rw [ok1.lc, hq1, HN0.out, HN1.out]
          have HC1 := Lib.hid hC1
          have hqb := ok1.q i hi2
          rcases hcase with ⟨hc0, hfs⟩ | ⟨hc0, hfs⟩
          · obtain ⟨b1, o1, cz, rfl, -, hcz, hcc, -, -⟩ := HRN.out.gs.c.1.at (k := i) (by omega)
            obtain rfl : cz = 0 := by
              rw [List.getD_eq_getElem?_getD, hcz] at hc0
              exact hc0
            obtain ⟨b0, o0, q, rfl, -, hq, hcq, -, -⟩ := HRN.out.gs.q.1.at (k := i) (by omega)
            have hqg : s1.Q.getD i 0 = q := by rw [List.getD_eq_getElem?_getD, hq]; rfl
            rw [hqg] at hfs hqb
            have HFS := Lib.hid hfs
            have HCR := Lib.hid (rcredit_any (fun j => (G j ∧ j ≠ w.heap.size) ∧ j ≠ w.heap.size + 1) _ _ _ _ s1 i q wr.drew (HRN.out.gs.below (below_drew1 wr)) hiC hC16 (by omega) (by omega) (fun j hj => hG2 j hj))
            clear ok1 hr1 hq1 hj1 hnx hr10 hi hne e1 hxr hx hxg hm hm2 hx1 hx2 hG2 hC1 HOK1 hc0 hfs hcz hq hqg hqb hfj hfq hs2 hJ2 hC16 hiC
            go_wp2
            go_region_with (first
              | (go_at_call 85; (with_reducible refine HCR.out.mono ?_); rintro e y3 ⟨v3, rfl, hg3, hb3⟩; obtain ⟨a3n, c3n, rfl, -, -⟩ := hg3.1.shape; rw [List.length_set, HC1.out] at hg3 ⊢; have hA3 := below_two (below_drew1 wr) hb3; have hN5 := HRN.out.box.below hA3; have e0 := hN5.cell (i := 0) (x := .slice (some ⟨b0, o0, none⟩) n0 c0) rfl; have e1 := hN5.cell (i := 1) (x := .slice (some ⟨b1, o1, none⟩) n1 c1) rfl; have e2 := hN5.cell (i := 2) (x := .slice a2 n2 c2) rfl; have e3 := hN5.cell (i := 3) (x := .slice (some ⟨br, or, none⟩) n3 c3) rfl; have g0 := hN5.free 0; have g1 := hN5.free 1; have g2 := hN5.free 2; have g3 := hN5.free 3)
              | fail)
            all_goals
              have HR6 := Lib.hid (HRN.out.store (vc' := .slice a3n n1 c3n) (vj' := .slice a2 n2 c2) (vr' := .slice (some ⟨br, or, none⟩) n3 c3) (s' := s2) hA3 (by
                rw [HFS.out]
                exact ⟨HRN.out.gs.q.below hA3, hg3, HRN.out.gs.j.below hA3, HRN.out.gs.r.below hA3⟩))
              obtain ⟨w6, hw6⟩ : ∃ z, ((((y3.setCell ⟨w.heap.size, 0, none⟩ (.slice (some ⟨b0, o0, none⟩) n0 c0)).setCell ⟨w.heap.size, 1, none⟩ (.slice a3n n1 c3n)).setCell ⟨w.heap.size, 2, none⟩ (.slice a2 n2 c2)).setCell ⟨w.heap.size, 3, none⟩ (.slice (some ⟨br, or, none⟩) n3 c3)) = z := ⟨_, rfl⟩
              rw [hw6] at HR6 ⊢
              clear hw6 e0 e1 e2 e3 g0 g1 g2 g3 hN5 hb3 hg3 hA3 HCR k0 k1 k2 k3 hcr hcl hcc hcq HRN HFS
              obtain ⟨b1n, o1n, cq, rfl, -, hcq, hcc, -, -⟩ := HR6.out.gs.c.1.at (k := i) (by omega)
              obtain ⟨b2, o2, cj', vi, hvv, hcj, hgi⟩ := HR6.out.gs.j.at hiJ
              rw [HJ2.out] at hvv
              obtain ⟨rfl, rfl⟩ : a2 = some ⟨b2, o2, none⟩ ∧ c2 = cj' := by simpa using hvv
              obtain ⟨ai, ci, rfl, -, -⟩ := hgi.1.shape
              obtain ⟨nl, hnl⟩ : ∃ z, (s2.J.getD i []).length = z := ⟨_, rfl⟩
              have hnl0 : 0 < nl := by rw [← hnl]; exact List.length_pos_iff.2 HNE.out
              have hnli : (0 : Int) < (nl : Int) := by omega
              rw [hnl] at hgi hcj
              obtain ⟨bf, of, jf, rfl, -, hjf, hcf, -, -⟩ := hgi.1.at (k := 0) hnl0
              rw [Nat.add_zero] at hcf
              have HJF := Lib.hid (show (s2.J.getD i []).headD 0 = jf by
                cases hc : s2.J.getD i [] with
                | nil => exact absurd hc HNE.out
                | cons y l => rw [hc] at hjf; simpa using hjf)
              have HCQ := Lib.hid (show s2.C.getD i 0 = cq by rw [List.getD_eq_getElem?_getD, hcq]; rfl)
              obtain ⟨bl', ol', x', hvl', -, hx', hcl', -, -⟩ := (HV.out.below HR6.out.bel).at (k := i) (by have := HLN.out; omega)
              obtain ⟨rfl, rfl⟩ : bl = bl' ∧ ol = ol' := by simpa using hvl'
              obtain rfl : x = x' := by have := HX.out; rw [this] at hx'; exact Option.some.inj hx'
              obtain ⟨mn, hmn⟩ : ∃ z, min (min cq budget) x = z := ⟨_, rfl⟩
              have hmin : (if x < (if budget < cq then budget else cq) then x else (if budget < cq then budget else cq)) = mn := by
                rw [← hmn]
                split <;> split <;> omega
              have HNXE := Lib.hid (show NX = (s2, some ((i : Int), jf, mn)) by rw [← HNXT.out, HJF.out, HCQ.out, hmn])
              have k0 := HR6.out.box.cell (i := 0) (x := .slice (some ⟨b0, o0, none⟩) n0 c0) rfl
              have k1 := HR6.out.box.cell (i := 1) (x := .slice (some ⟨b1n, o1n, none⟩) n1 c3n) rfl
              have k2 := HR6.out.box.cell (i := 2) (x := .slice (some ⟨b2, o2, none⟩) n2 c2) rfl
              have k3 := HR6.out.box.cell (i := 3) (x := .slice (some ⟨br, or, none⟩) n3 c3) rfl
              clear hvv hgi hnl hjf hcq hvl' hx' hmn
              go_wp2
              have hrx := HR6.out.res
              have r0 := hrx.cell (i := 0) (x := .slice none 0 0) rfl
              have r1 := hrx.cell (i := 1) (x := .slice none 0 0) rfl
              have r2 := hrx.cell (i := 2) (x := .slice none 0 0) rfl
              have r3 := hrx.cell (i := 3) (x := .slice none 0 0) rfl
              have r4 := hrx.cell (i := 4) (x := .int .i64 0) rfl
              have r5 := hrx.cell (i := 5) (x := .int .i64 0) rfl
              have r6 := hrx.cell (i := 6) (x := .int .i64 0) rfl
              have r7 := hrx.cell (i := 7) (x := .bool false) rfl
              have s0 := hrx.free 0
              have s1 := hrx.free 1
              have s2 := hrx.free 2
              have s3 := hrx.free 3
              have s4 := hrx.free 4
              have s5 := hrx.free 5
              have s6 := hrx.free 6
              have s7 := hrx.free 7
              have HFN := Lib.hid (HR6.out.fin (.int .i64 (i : Int)) (.int .i64 jf) (.int .i64 mn) (.bool true))
              have HFD := Lib.hid (⟨HFN.out.1.below (below_drew1 _), below_two HFN.out.2.1 (below_drew1 _), HFN.out.2.2.below (below_drew1 _)⟩ : GS G ((((((((w6.setCell ⟨w.heap.size + 1, 0, none⟩ (.slice (some ⟨b0, o0, none⟩) n0 c0)).setCell ⟨w.heap.size + 1, 1, none⟩ (.slice (some ⟨b1n, o1n, none⟩) n1 c3n)).setCell ⟨w.heap.size + 1, 2, none⟩ (.slice (some ⟨b2, o2, none⟩) n2 c2)).setCell ⟨w.heap.size + 1, 3, none⟩ (.slice (some ⟨br, or, none⟩) n3 c3)).setCell ⟨w.heap.size + 1, 4, none⟩ (.int .i64 (i : Int))).setCell ⟨w.heap.size + 1, 5, none⟩ (.int .i64 jf)).setCell ⟨w.heap.size + 1, 6, none⟩ (.int .i64 mn)).setCell ⟨w.heap.size + 1, 7, none⟩ (.bool true)).drew (.slice (some ⟨b0, o0, none⟩) n0 c0) (.slice (some ⟨b1n, o1n, none⟩) n1 c3n) (.slice (some ⟨b2, o2, none⟩) n2 c2) (.slice (some ⟨br, or, none⟩) n3 c3) _ ∧ Below w.heap.size w ((((((((w6.setCell ⟨w.heap.size + 1, 0, none⟩ (.slice (some ⟨b0, o0, none⟩) n0 c0)).setCell ⟨w.heap.size + 1, 1, none⟩ (.slice (some ⟨b1n, o1n, none⟩) n1 c3n)).setCell ⟨w.heap.size + 1, 2, none⟩ (.slice (some ⟨b2, o2, none⟩) n2 c2)).setCell ⟨w.heap.size + 1, 3, none⟩ (.slice (some ⟨br, or, none⟩) n3 c3)).setCell ⟨w.heap.size + 1, 4, none⟩ (.int .i64 (i : Int))).setCell ⟨w.heap.size + 1, 5, none⟩ (.int .i64 jf)).setCell ⟨w.heap.size + 1, 6, none⟩ (.int .i64 mn)).setCell ⟨w.heap.size + 1, 7, none⟩ (.bool true)).drew ∧ Blk ((((((((w6.setCell ⟨w.heap.size + 1, 0, none⟩ (.slice (some ⟨b0, o0, none⟩) n0 c0)).setCell ⟨w.heap.size + 1, 1, none⟩ (.slice (some ⟨b1n, o1n, none⟩) n1 c3n)).setCell ⟨w.heap.size + 1, 2, none⟩ (.slice (some ⟨b2, o2, none⟩) n2 c2)).setCell ⟨w.heap.size + 1, 3, none⟩ (.slice (some ⟨br, or, none⟩) n3 c3)).setCell ⟨w.heap.size + 1, 4, none⟩ (.int .i64 (i : Int))).setCell ⟨w.heap.size + 1, 5, none⟩ (.int .i64 jf)).setCell ⟨w.heap.size + 1, 6, none⟩ (.int .i64 mn)).setCell ⟨w.heap.size + 1, 7, none⟩ (.bool true)).drew (w.heap.size + 1) [.slice (some ⟨b0, o0, none⟩) n0 c0, .slice (some ⟨b1n, o1n, none⟩) n1 c3n, .slice (some ⟨b2, o2, none⟩) n2 c2, .slice (some ⟨br, or, none⟩) n3 c3, .int .i64 (i : Int), .int .i64 jf, .int .i64 mn, .bool true] 127)
              clear HFN hrx
              clear HNXT
              go_still_tail 20, (by kernel_rfl)
              change wpList _ _ _ _ _ (World.drew _)
              go_wp2
              obtain ⟨w5, hw5⟩ : ∃ z, ((((((((w6.setCell ⟨w.heap.size + 1, 0, none⟩ (.slice (some ⟨b0, o0, none⟩) n0 c0)).setCell ⟨w.heap.size + 1, 1, none⟩ (.slice (some ⟨b1n, o1n, none⟩) n1 c3n)).setCell ⟨w.heap.size + 1, 2, none⟩ (.slice (some ⟨b2, o2, none⟩) n2 c2)).setCell ⟨w.heap.size + 1, 3, none⟩ (.slice (some ⟨br, or, none⟩) n3 c3)).setCell ⟨w.heap.size + 1, 4, none⟩ (.int .i64 (i : Int))).setCell ⟨w.heap.size + 1, 5, none⟩ (.int .i64 jf)).setCell ⟨w.heap.size + 1, 6, none⟩ (.int .i64 mn)).setCell ⟨w.heap.size + 1, 7, none⟩ (.bool true)).drew = z := ⟨_, rfl⟩
              rw [hw5] at HFD ⊢
              have y0 := HFD.out.2.2.cell (i := 0) (x := .slice (some ⟨b0, o0, none⟩) n0 c0) rfl
              have y1 := HFD.out.2.2.cell (i := 1) (x := .slice (some ⟨b1n, o1n, none⟩) n1 c3n) rfl
              have y2 := HFD.out.2.2.cell (i := 2) (x := .slice (some ⟨b2, o2, none⟩) n2 c2) rfl
              have y3 := HFD.out.2.2.cell (i := 3) (x := .slice (some ⟨br, or, none⟩) n3 c3) rfl
              have y4 := HFD.out.2.2.cell (i := 4) (x := .int .i64 (i : Int)) rfl
              have y5 := HFD.out.2.2.cell (i := 5) (x := .int .i64 jf) rfl
              have y6 := HFD.out.2.2.cell (i := 6) (x := .int .i64 mn) rfl
              have y7 := HFD.out.2.2.cell (i := 7) (x := .bool true) rfl
              refine bodyPost_ret (v := .agg #[.slice (some ⟨b0, o0, none⟩) n0 c0, .slice (some ⟨b1n, o1n, none⟩) n1 c3n, .slice (some ⟨b2, o2, none⟩) n2 c2, .slice (some ⟨br, or, none⟩) n3 c3, .int .i64 (i : Int), .int .i64 jf, .int .i64 mn, .bool true]) (by simp [results, Try.results84, go_sem, y0, y1, y2, y3, y4, y5, y6, y7]) rfl ?_
              rw [HNXE.out]
              exact ⟨_, _, _, rfl, HFD.out.1, HFD.out.2.1⟩
          · have hcz : ∀ c, s2.C[i]? = some c → c ≠ 0 := fun c hc e => hc0 (by rw [← hfs, List.getD_eq_getElem?_getD, hc, e]; rfl)
            rw [← hfs] at HRN
            clear ok1 hr1 hq1 hj1 hnx hr10 hi hne e1 hxr hx hxg hm hm2 hx1 hx2 hG2 hC1 HOK1 hc0 hfs hqb hfj hfq hs2 hJ2 hC16 hiC
            obtain ⟨b1n, o1n, cq, rfl, -, hcq, hcc, -, -⟩ := HRN.out.gs.c.1.at (k := i) (by omega)
            obtain ⟨b2, o2, cj', vi, hvv, hcj, hgi⟩ := HRN.out.gs.j.at hiJ
            rw [HJ2.out] at hvv
            obtain ⟨rfl, rfl⟩ : a2 = some ⟨b2, o2, none⟩ ∧ c2 = cj' := by simpa using hvv
            obtain ⟨ai, ci, rfl, -, -⟩ := hgi.1.shape
            obtain ⟨nl, hnl⟩ : ∃ z, (s2.J.getD i []).length = z := ⟨_, rfl⟩
            have hnl0 : 0 < nl := by rw [← hnl]; exact List.length_pos_iff.2 HNE.out
            have hnli : (0 : Int) < (nl : Int) := by omega
            rw [hnl] at hgi hcj
            obtain ⟨bf, of, jf, rfl, -, hjf, hcf, -, -⟩ := hgi.1.at (k := 0) hnl0
            rw [Nat.add_zero] at hcf
            have HJF := Lib.hid (show (s2.J.getD i []).headD 0 = jf by
              cases hc : s2.J.getD i [] with
              | nil => exact absurd hc HNE.out
              | cons y l => rw [hc] at hjf; simpa using hjf)
            have HCQ := Lib.hid (show s2.C.getD i 0 = cq by rw [List.getD_eq_getElem?_getD, hcq]; rfl)
            obtain ⟨bl', ol', x', hvl', -, hx', hcl', -, -⟩ := (HV.out.below HRN.out.bel).at (k := i) (by have := HLN.out; omega)
            obtain ⟨rfl, rfl⟩ : bl = bl' ∧ ol = ol' := by simpa using hvl'
            obtain rfl : x = x' := by have := HX.out; rw [this] at hx'; exact Option.some.inj hx'
            obtain ⟨mn, hmn⟩ : ∃ z, min (min cq budget) x = z := ⟨_, rfl⟩
            have hmin : (if x < (if budget < cq then budget else cq) then x else (if budget < cq then budget else cq)) = mn := by
              rw [← hmn]
              split <;> split <;> omega
            have HNXE := Lib.hid (show NX = (s2, some ((i : Int), jf, mn)) by rw [← HNXT.out, HJF.out, HCQ.out, hmn])
            have cqz : (cq == 0) = false := beq_eq_false_iff_ne.2 (hcz cq hcq)
            clear hcz
            clear hvv hgi hnl hjf hcq hvl' hx' hmn
            go_wp2
            have hrx := HRN.out.res
            have r0 := hrx.cell (i := 0) (x := .slice none 0 0) rfl
            have r1 := hrx.cell (i := 1) (x := .slice none 0 0) rfl
            have r2 := hrx.cell (i := 2) (x := .slice none 0 0) rfl
            have r3 := hrx.cell (i := 3) (x := .slice none 0 0) rfl
            have r4 := hrx.cell (i := 4) (x := .int .i64 0) rfl
            have r5 := hrx.cell (i := 5) (x := .int .i64 0) rfl
            have r6 := hrx.cell (i := 6) (x := .int .i64 0) rfl
            have r7 := hrx.cell (i := 7) (x := .bool false) rfl
            have s0 := hrx.free 0
            have s1 := hrx.free 1
            have s2 := hrx.free 2
            have s3 := hrx.free 3
            have s4 := hrx.free 4
            have s5 := hrx.free 5
            have s6 := hrx.free 6
            have s7 := hrx.free 7
            have HFN := Lib.hid (HRN.out.fin (.int .i64 (i : Int)) (.int .i64 jf) (.int .i64 mn) (.bool true))
            have HFD := Lib.hid (⟨HFN.out.1.below (below_drew1 _), below_two HFN.out.2.1 (below_drew1 _), HFN.out.2.2.below (below_drew1 _)⟩ : GS G ((((((((wr.setCell ⟨w.heap.size + 1, 0, none⟩ (.slice a0 n0 c0)).setCell ⟨w.heap.size + 1, 1, none⟩ (.slice (some ⟨b1n, o1n, none⟩) n1 c1)).setCell ⟨w.heap.size + 1, 2, none⟩ (.slice (some ⟨b2, o2, none⟩) n2 c2)).setCell ⟨w.heap.size + 1, 3, none⟩ (.slice (some ⟨br, or, none⟩) n3 c3)).setCell ⟨w.heap.size + 1, 4, none⟩ (.int .i64 (i : Int))).setCell ⟨w.heap.size + 1, 5, none⟩ (.int .i64 jf)).setCell ⟨w.heap.size + 1, 6, none⟩ (.int .i64 mn)).setCell ⟨w.heap.size + 1, 7, none⟩ (.bool true)).drew (.slice a0 n0 c0) (.slice (some ⟨b1n, o1n, none⟩) n1 c1) (.slice (some ⟨b2, o2, none⟩) n2 c2) (.slice (some ⟨br, or, none⟩) n3 c3) _ ∧ Below w.heap.size w ((((((((wr.setCell ⟨w.heap.size + 1, 0, none⟩ (.slice a0 n0 c0)).setCell ⟨w.heap.size + 1, 1, none⟩ (.slice (some ⟨b1n, o1n, none⟩) n1 c1)).setCell ⟨w.heap.size + 1, 2, none⟩ (.slice (some ⟨b2, o2, none⟩) n2 c2)).setCell ⟨w.heap.size + 1, 3, none⟩ (.slice (some ⟨br, or, none⟩) n3 c3)).setCell ⟨w.heap.size + 1, 4, none⟩ (.int .i64 (i : Int))).setCell ⟨w.heap.size + 1, 5, none⟩ (.int .i64 jf)).setCell ⟨w.heap.size + 1, 6, none⟩ (.int .i64 mn)).setCell ⟨w.heap.size + 1, 7, none⟩ (.bool true)).drew ∧ Blk ((((((((wr.setCell ⟨w.heap.size + 1, 0, none⟩ (.slice a0 n0 c0)).setCell ⟨w.heap.size + 1, 1, none⟩ (.slice (some ⟨b1n, o1n, none⟩) n1 c1)).setCell ⟨w.heap.size + 1, 2, none⟩ (.slice (some ⟨b2, o2, none⟩) n2 c2)).setCell ⟨w.heap.size + 1, 3, none⟩ (.slice (some ⟨br, or, none⟩) n3 c3)).setCell ⟨w.heap.size + 1, 4, none⟩ (.int .i64 (i : Int))).setCell ⟨w.heap.size + 1, 5, none⟩ (.int .i64 jf)).setCell ⟨w.heap.size + 1, 6, none⟩ (.int .i64 mn)).setCell ⟨w.heap.size + 1, 7, none⟩ (.bool true)).drew (w.heap.size + 1) [.slice a0 n0 c0, .slice (some ⟨b1n, o1n, none⟩) n1 c1, .slice (some ⟨b2, o2, none⟩) n2 c2, .slice (some ⟨br, or, none⟩) n3 c3, .int .i64 (i : Int), .int .i64 jf, .int .i64 mn, .bool true] 127)
            clear HFN hrx
            clear HNXT
            go_still_tail 20, (by kernel_rfl)
            change wpList _ _ _ _ _ (World.drew _)
            go_wp2
            obtain ⟨w5, hw5⟩ : ∃ z, ((((((((wr.setCell ⟨w.heap.size + 1, 0, none⟩ (.slice a0 n0 c0)).setCell ⟨w.heap.size + 1, 1, none⟩ (.slice (some ⟨b1n, o1n, none⟩) n1 c1)).setCell ⟨w.heap.size + 1, 2, none⟩ (.slice (some ⟨b2, o2, none⟩) n2 c2)).setCell ⟨w.heap.size + 1, 3, none⟩ (.slice (some ⟨br, or, none⟩) n3 c3)).setCell ⟨w.heap.size + 1, 4, none⟩ (.int .i64 (i : Int))).setCell ⟨w.heap.size + 1, 5, none⟩ (.int .i64 jf)).setCell ⟨w.heap.size + 1, 6, none⟩ (.int .i64 mn)).setCell ⟨w.heap.size + 1, 7, none⟩ (.bool true)).drew = z := ⟨_, rfl⟩
            rw [hw5] at HFD ⊢
            have y0 := HFD.out.2.2.cell (i := 0) (x := .slice a0 n0 c0) rfl
            have y1 := HFD.out.2.2.cell (i := 1) (x := .slice (some ⟨b1n, o1n, none⟩) n1 c1) rfl
            have y2 := HFD.out.2.2.cell (i := 2) (x := .slice (some ⟨b2, o2, none⟩) n2 c2) rfl
            have y3 := HFD.out.2.2.cell (i := 3) (x := .slice (some ⟨br, or, none⟩) n3 c3) rfl
            have y4 := HFD.out.2.2.cell (i := 4) (x := .int .i64 (i : Int)) rfl
            have y5 := HFD.out.2.2.cell (i := 5) (x := .int .i64 jf) rfl
            have y6 := HFD.out.2.2.cell (i := 6) (x := .int .i64 mn) rfl
            have y7 := HFD.out.2.2.cell (i := 7) (x := .bool true) rfl
            refine bodyPost_ret (v := .agg #[.slice a0 n0 c0, .slice (some ⟨b1n, o1n, none⟩) n1 c1, .slice (some ⟨b2, o2, none⟩) n2 c2, .slice (some ⟨br, or, none⟩) n3 c3, .int .i64 (i : Int), .int .i64 jf, .int .i64 mn, .bool true]) (by simp [results, Try.results84, go_sem, y0, y1, y2, y3, y4, y5, y6, y7]) rfl ?_
            rw [HNXE.out]
            exact ⟨_, _, _, rfl, HFD.out.1, HFD.out.2.1⟩
      · obtain rfl : n3 = k := by omega
        obtain ⟨ok1, hr1, hq1, hj1, hnx⟩ := HOK1.out
        rw [Nat.sub_self, nextR] at hnx
        subst hnx
        clear ok1 hr1 hq1 hj1 HOK1
        have hrx := HRN.out.res
        have r0 := hrx.cell (i := 0) (x := .slice none 0 0) rfl
        have r1 := hrx.cell (i := 1) (x := .slice none 0 0) rfl
        have r2 := hrx.cell (i := 2) (x := .slice none 0 0) rfl
        have r3 := hrx.cell (i := 3) (x := .slice none 0 0) rfl
        have r4 := hrx.cell (i := 4) (x := .int .i64 0) rfl
        have r5 := hrx.cell (i := 5) (x := .int .i64 0) rfl
        have r6 := hrx.cell (i := 6) (x := .int .i64 0) rfl
        have r7 := hrx.cell (i := 7) (x := .bool false) rfl
        have s0 := hrx.free 0
        have s1 := hrx.free 1
        have s2 := hrx.free 2
        have s3 := hrx.free 3
        have s4 := hrx.free 4
        have s5 := hrx.free 5
        have s6 := hrx.free 6
        have s7 := hrx.free 7
        have HFN := Lib.hid (HRN.out.fin (.int .i64 0) (.int .i64 0) (.int .i64 0) (.bool false))
        clear hrx
        go_wp2
        obtain ⟨w5, hw5⟩ : ∃ z, ((((((((wr.setCell ⟨w.heap.size + 1, 0, none⟩ (.slice a0 n0 c0)).setCell ⟨w.heap.size + 1, 1, none⟩ (.slice a1 n1 c1)).setCell ⟨w.heap.size + 1, 2, none⟩ (.slice a2 n2 c2)).setCell ⟨w.heap.size + 1, 3, none⟩ (.slice a3 n3 c3)).setCell ⟨w.heap.size + 1, 4, none⟩ (.int .i64 0)).setCell ⟨w.heap.size + 1, 5, none⟩ (.int .i64 0)).setCell ⟨w.heap.size + 1, 6, none⟩ (.int .i64 0)).setCell ⟨w.heap.size + 1, 7, none⟩ (.bool false)) = z := ⟨_, rfl⟩
        rw [hw5] at HFN ⊢
        have y0 := HFN.out.2.2.cell (i := 0) (x := .slice a0 n0 c0) rfl
        have y1 := HFN.out.2.2.cell (i := 1) (x := .slice a1 n1 c1) rfl
        have y2 := HFN.out.2.2.cell (i := 2) (x := .slice a2 n2 c2) rfl
        have y3 := HFN.out.2.2.cell (i := 3) (x := .slice a3 n3 c3) rfl
        have y4 := HFN.out.2.2.cell (i := 4) (x := .int .i64 0) rfl
        have y5 := HFN.out.2.2.cell (i := 5) (x := .int .i64 0) rfl
        have y6 := HFN.out.2.2.cell (i := 6) (x := .int .i64 0) rfl
        have y7 := HFN.out.2.2.cell (i := 7) (x := .bool false) rfl
        refine bodyPost_ret (v := .agg #[.slice a0 n0 c0, .slice a1 n1 c1, .slice a2 n2 c2, .slice a3 n3 c3, .int .i64 0, .int .i64 0, .int .i64 0, .bool false]) (by simp [results, Try.results84, go_sem, y0, y1, y2, y3, y4, y5, y6, y7]) rfl ?_
        exact ⟨_, _, _, rfl, HFN.out.1, HFN.out.2.1⟩
  · rw [if_pos (.inr hln)] at hNX
    subst hNX
    have tl : ((nv : Int) != (n0 : Int)) = true := bne_iff_ne.2 (by omega)
    clear hb hle hln
    go_enter Try.func84, Try.ntmps84
    go_upto_region 2 with fail
    rw [HW1.out]
    clear HW1
    have hrx := HRN.out.res
    have r0 := hrx.cell (i := 0) (x := .slice none 0 0) rfl
    have r1 := hrx.cell (i := 1) (x := .slice none 0 0) rfl
    have r2 := hrx.cell (i := 2) (x := .slice none 0 0) rfl
    have r3 := hrx.cell (i := 3) (x := .slice none 0 0) rfl
    have r4 := hrx.cell (i := 4) (x := .int .i64 0) rfl
    have r5 := hrx.cell (i := 5) (x := .int .i64 0) rfl
    have r6 := hrx.cell (i := 6) (x := .int .i64 0) rfl
    have r7 := hrx.cell (i := 7) (x := .bool false) rfl
    have s0 := hrx.free 0
    have s1 := hrx.free 1
    have s2 := hrx.free 2
    have s3 := hrx.free 3
    have s4 := hrx.free 4
    have s5 := hrx.free 5
    have s6 := hrx.free 6
    have s7 := hrx.free 7
    have HFN := Lib.hid (HRN.out.fin (.int .i64 0) (.int .i64 0) (.int .i64 0) (.bool false))
    clear hrx
    go_wp2
    obtain ⟨w5, hw5⟩ : ∃ z, ((((((((W1.setCell ⟨w.heap.size + 1, 0, none⟩ (.slice a0 n0 c0)).setCell ⟨w.heap.size + 1, 1, none⟩ (.slice a1 n1 c1)).setCell ⟨w.heap.size + 1, 2, none⟩ (.slice a2 n2 c2)).setCell ⟨w.heap.size + 1, 3, none⟩ (.slice a3 n3 c3)).setCell ⟨w.heap.size + 1, 4, none⟩ (.int .i64 0)).setCell ⟨w.heap.size + 1, 5, none⟩ (.int .i64 0)).setCell ⟨w.heap.size + 1, 6, none⟩ (.int .i64 0)).setCell ⟨w.heap.size + 1, 7, none⟩ (.bool false)) = z := ⟨_, rfl⟩
    rw [hw5] at HFN ⊢
    have y0 := HFN.out.2.2.cell (i := 0) (x := .slice a0 n0 c0) rfl
    have y1 := HFN.out.2.2.cell (i := 1) (x := .slice a1 n1 c1) rfl
    have y2 := HFN.out.2.2.cell (i := 2) (x := .slice a2 n2 c2) rfl
    have y3 := HFN.out.2.2.cell (i := 3) (x := .slice a3 n3 c3) rfl
    have y4 := HFN.out.2.2.cell (i := 4) (x := .int .i64 0) rfl
    have y5 := HFN.out.2.2.cell (i := 5) (x := .int .i64 0) rfl
    have y6 := HFN.out.2.2.cell (i := 6) (x := .int .i64 0) rfl
    have y7 := HFN.out.2.2.cell (i := 7) (x := .bool false) rfl
    refine bodyPost_ret (v := .agg #[.slice a0 n0 c0, .slice a1 n1 c1, .slice a2 n2 c2, .slice a3 n3 c3, .int .i64 0, .int .i64 0, .int .i64 0, .bool false]) (by simp [results, Try.results84, go_sem, y0, y1, y2, y3, y4, y5, y6, y7]) rfl ?_
    exact ⟨_, _, _, rfl, HFN.out.1, HFN.out.2.1⟩
end Go.Proofs.Ytmgjmpmcadjemaa

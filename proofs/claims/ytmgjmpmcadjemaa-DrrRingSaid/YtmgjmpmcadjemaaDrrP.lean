/- Package drr: the reference's Add. -/
import Derived.Test.YtmgjmpmcadjemaaDrrO
namespace Go.Proofs.Ytmgjmpmcadjemaa
open Go.RowKit

set_option maxHeartbeats 8000000 in
set_option maxRecDepth 100000 in
theorem radd30_any {K : Nat} (G : Nat → Prop) (vq vc vj vr : Value) (s : Sch) (t job : Int) (w : World) (h : GS G w vq vc vj vr s) (ok : Ok K s) (hK : K ≤ 1000) (hj1 : -9223372036854775808 ≤ job) (hj2 : job ≤ 9223372036854775807) (hG : ∀ j, w.heap.size ≤ j → G j) :
    Calls Try.prog 65 #[.agg #[vq, vc, vj, vr], .int .i64 t, .int .i64 job] w fun e w' => ∃ vc' vj' vr', e = .returned (.agg #[vq, vc', vj', vr', .int .i64 (addM s t job).1]) ∧ GS G w' vq vc' vj' vr' (addM s t job).2 ∧ Below w.heap.size w w' := by
  obtain ⟨a0, c0, rfl, -, -⟩ := h.q.1.shape
  obtain ⟨a1, c1, rfl, -, -⟩ := h.c.1.shape
  obtain ⟨a2, c2, rfl, -, -⟩ := h.j.shape
  obtain ⟨a3, c3, rfl, -, -⟩ := h.r.1.shape
  obtain ⟨n0, hn0⟩ : ∃ z, s.Q.length = z := ⟨_, rfl⟩
  obtain ⟨n1, hn1⟩ : ∃ z, s.C.length = z := ⟨_, rfl⟩
  obtain ⟨n2, hn2⟩ : ∃ z, s.J.length = z := ⟨_, rfl⟩
  obtain ⟨n3, hn3⟩ : ∃ z, s.R.length = z := ⟨_, rfl⟩
  have HN0 := Lib.hid hn0
  have HN2 := Lib.hid hn2
  rw [hn0, hn1, hn2, hn3] at h
  rw [hn0, hn1, hn2, hn3]
  clear hn0 hn1 hn2 hn3
  obtain ⟨W1, hW1⟩ : ∃ z, (w.alloc (.cells #[.slice a0 n0 c0, .slice a1 n1 c1, .slice a2 n2 c2, .slice a3 n3 c3] 67 (0, 0))).alloc (.cells #[.slice none 0 0, .slice none 0 0, .slice none 0 0, .slice none 0 0, .int .i64 0] 109 (0, 0)) = z := ⟨_, rfl⟩
  have HAL := Lib.hid (show Below w.heap.size w W1 by rw [← hW1]; exact alloc2 _ _ _)
  have HSZ := Lib.hid (show W1.heap.size = w.heap.size + 2 by rw [← hW1]; simp)
  have HBX := Lib.hid (show Blk W1 w.heap.size [.slice a0 n0 c0, .slice a1 n1 c1, .slice a2 n2 c2, .slice a3 n3 c3] 67 by rw [← hW1]; exact blk1st _ _ _ _)
  have HRB := Lib.hid (show Blk W1 (w.heap.size + 1) B0 109 by rw [← hW1]; exact blk2nd _ _ _ _)
  have HS1 := Lib.hid (h.off HAL.out (w.heap.size + 1) (by omega))
  have HIS := Lib.hid (ris_any _ _ _ _ _ s t W1 HS1.out)
  have HWH := Lib.hid (fun (W : World) (k : Below W1.heap.size W1 W) => rwhose_any _ _ _ _ _ s job W (HS1.out.below k) ok.lj (by have := ok.n16; omega))
  have HGG := Lib.hid hG
  have HW1 := Lib.hid hW1
  have k0 := HBX.out.cell (i := 0) (x := .slice a0 n0 c0) rfl
  have k1 := HBX.out.cell (i := 1) (x := .slice a1 n1 c1) rfl
  have k2 := HBX.out.cell (i := 2) (x := .slice a2 n2 c2) rfl
  have k3 := HBX.out.cell (i := 3) (x := .slice a3 n3 c3) rfl
  unfold addM
  by_cases ht : t < 0 ∨ (s.Q.length : Int) ≤ t
  · rw [if_pos ht]
    have hd : (decide (0 ≤ t) && decide (t < (s.Q.length : Int))) = false := by
      cases h1 : decide (0 ≤ t) with
      | false => rfl
      | true =>
        have h2 := of_decide_eq_true h1
        rw [Bool.true_and]
        exact decide_eq_false (by omega)
    rw [hd] at HIS
    clear h hG hW1 ok ht hd hj1 hj2 HWH
    go_enter Try.func65, Try.ntmps65
    go_wp2_with fail
    rw [HW1.out]
    refine HIS.out.mono ?_
    rintro e w2 ⟨rfl, hb⟩
    have k0 := cellB k0 hb
    have k1 := cellB k1 hb
    have k2 := cellB k2 hb
    have k3 := cellB k3 hb
    have HBW := Lib.hid hb
    have HGF := Lib.hid (HS1.out.below hb)
    clear hb HIS HW1
    have hrx := HRB.out.below HBW.out
    have HRBx := Lib.hid hrx
    have r0 := hrx.cell (i := 0) (x := .slice none 0 0) rfl
    have r1 := hrx.cell (i := 1) (x := .slice none 0 0) rfl
    have r2 := hrx.cell (i := 2) (x := .slice none 0 0) rfl
    have r3 := hrx.cell (i := 3) (x := .slice none 0 0) rfl
    have r4 := hrx.cell (i := 4) (x := .int .i64 0) rfl
    have s0 := hrx.free 0
    have s1 := hrx.free 1
    have s2 := hrx.free 2
    have s3 := hrx.free 3
    have s4 := hrx.free 4
    have HBF := Lib.hid (show Below w.heap.size w w2 from HAL.out.trans (HBW.out.mono (by have := HSZ.out; omega)))
    clear hrx
    have HF5 := Lib.hid (set5 (.slice a0 n0 c0) (.slice a1 n1 c1) (.slice a2 n2 c2) (.slice a3 n3 c3) (.int .i64 6) HRBx.out rfl)
    have HK5 := Lib.hid (keep5 (w := w2) (rb := w.heap.size + 1) (.slice a0 n0 c0) (.slice a1 n1 c1) (.slice a2 n2 c2) (.slice a3 n3 c3) (.int .i64 6))
    go_wp2
    obtain ⟨w5, hw5⟩ : ∃ z, (((((w2.setCell ⟨w.heap.size + 1, 0, none⟩ (.slice a0 n0 c0)).setCell ⟨w.heap.size + 1, 1, none⟩ (.slice a1 n1 c1)).setCell ⟨w.heap.size + 1, 2, none⟩ (.slice a2 n2 c2)).setCell ⟨w.heap.size + 1, 3, none⟩ (.slice a3 n3 c3)).setCell ⟨w.heap.size + 1, 4, none⟩ (.int .i64 6)) = z := ⟨_, rfl⟩
    rw [hw5] at HF5 HK5 ⊢
    have y0 := HF5.out.cell (i := 0) (x := .slice a0 n0 c0) rfl
    have y1 := HF5.out.cell (i := 1) (x := .slice a1 n1 c1) rfl
    have y2 := HF5.out.cell (i := 2) (x := .slice a2 n2 c2) rfl
    have y3 := HF5.out.cell (i := 3) (x := .slice a3 n3 c3) rfl
    have y4 := HF5.out.cell (i := 4) (x := .int .i64 6) rfl
    refine bodyPost_ret (v := .agg #[.slice a0 n0 c0, .slice a1 n1 c1, .slice a2 n2 c2, .slice a3 n3 c3, .int .i64 6]) (by simp [results, Try.results65, go_sem, y0, y1, y2, y3, y4]) rfl ?_
    exact ⟨_, _, _, rfl, (HGF.out.keep HK5.out (fun j e q => q.2 e)).imp (fun j hj => hj.1), HBF.out.trans (HK5.out.below (B := w.heap.size) HBF.out.size (fun j hj e => by have e' : j = w.heap.size + 1 := e; omega))⟩
  · rw [if_neg ht]
    have hd : (decide (0 ≤ t) && decide (t < (s.Q.length : Int))) = true := by
      rw [decide_eq_true (show 0 ≤ t by omega), decide_eq_true (show t < (s.Q.length : Int) by omega)]
      rfl
    rw [hd] at HIS
    obtain ⟨i, rfl⟩ : ∃ i : Nat, t = i := ⟨t.toNat, by omega⟩
    rw [Int.toNat_natCast]
    have hi : i < s.Q.length := by omega
    by_cases hw0 : 0 ≤ whoS s job
    · rw [if_pos hw0]
      obtain ⟨z, hz⟩ : ∃ z, whoS s job = z := ⟨_, rfl⟩
      rw [hz] at HWH hw0
      have d0 : decide (0 ≤ z) = true := decide_eq_true hw0
      clear h hG hW1 ok ht hd hj1 hj2 hz hw0
      go_enter Try.func65, Try.ntmps65
      go_wp2_with fail
      rw [HW1.out]
      refine HIS.out.mono ?_
      rintro e w2 ⟨rfl, hb⟩
      have k0 := cellB k0 hb
      have k1 := cellB k1 hb
      have k2 := cellB k2 hb
      have k3 := cellB k3 hb
      have HB2 := Lib.hid hb
      clear hb HIS HW1
      go_wp2_with fail
      refine (HWH.out w2 HB2.out).mono ?_
      rintro e w3 ⟨rfl, hb⟩
      have k0 := cellB k0 hb
      have k1 := cellB k1 hb
      have k2 := cellB k2 hb
      have k3 := cellB k3 hb
      have HBW := Lib.hid (below_two HB2.out hb)
      have HGF := Lib.hid (HS1.out.below HBW.out)
      clear hb HWH
      have hrx := HRB.out.below HBW.out
      have HRBx := Lib.hid hrx
      have r0 := hrx.cell (i := 0) (x := .slice none 0 0) rfl
      have r1 := hrx.cell (i := 1) (x := .slice none 0 0) rfl
      have r2 := hrx.cell (i := 2) (x := .slice none 0 0) rfl
      have r3 := hrx.cell (i := 3) (x := .slice none 0 0) rfl
      have r4 := hrx.cell (i := 4) (x := .int .i64 0) rfl
      have s0 := hrx.free 0
      have s1 := hrx.free 1
      have s2 := hrx.free 2
      have s3 := hrx.free 3
      have s4 := hrx.free 4
      have HBF := Lib.hid (show Below w.heap.size w w3 from HAL.out.trans (HBW.out.mono (by have := HSZ.out; omega)))
      clear hrx
      have HF5 := Lib.hid (set5 (.slice a0 n0 c0) (.slice a1 n1 c1) (.slice a2 n2 c2) (.slice a3 n3 c3) (.int .i64 8) HRBx.out rfl)
      have HK5 := Lib.hid (keep5 (w := w3) (rb := w.heap.size + 1) (.slice a0 n0 c0) (.slice a1 n1 c1) (.slice a2 n2 c2) (.slice a3 n3 c3) (.int .i64 8))
      go_wp2
      obtain ⟨w5, hw5⟩ : ∃ z, (((((w3.setCell ⟨w.heap.size + 1, 0, none⟩ (.slice a0 n0 c0)).setCell ⟨w.heap.size + 1, 1, none⟩ (.slice a1 n1 c1)).setCell ⟨w.heap.size + 1, 2, none⟩ (.slice a2 n2 c2)).setCell ⟨w.heap.size + 1, 3, none⟩ (.slice a3 n3 c3)).setCell ⟨w.heap.size + 1, 4, none⟩ (.int .i64 8)) = z := ⟨_, rfl⟩
      rw [hw5] at HF5 HK5 ⊢
      have y0 := HF5.out.cell (i := 0) (x := .slice a0 n0 c0) rfl
      have y1 := HF5.out.cell (i := 1) (x := .slice a1 n1 c1) rfl
      have y2 := HF5.out.cell (i := 2) (x := .slice a2 n2 c2) rfl
      have y3 := HF5.out.cell (i := 3) (x := .slice a3 n3 c3) rfl
      have y4 := HF5.out.cell (i := 4) (x := .int .i64 8) rfl
      refine bodyPost_ret (v := .agg #[.slice a0 n0 c0, .slice a1 n1 c1, .slice a2 n2 c2, .slice a3 n3 c3, .int .i64 8]) (by simp [results, Try.results65, go_sem, y0, y1, y2, y3, y4]) rfl ?_
      exact ⟨_, _, _, rfl, (HGF.out.keep HK5.out (fun j e q => q.2 e)).imp (fun j hj => hj.1), HBF.out.trans (HK5.out.below (B := w.heap.size) HBF.out.size (fun j hj e => by have e' : j = w.heap.size + 1 := e; omega))⟩
    · rw [if_neg hw0]
      have hiJ : i < s.J.length := by rw [ok.lj]; exact hi
      have hjk := Nat.le_trans (ok.jk i hi) hK
      have hrk := Nat.le_trans ok.rk hK
      obtain ⟨z, hz⟩ : ∃ z, whoS s job = z := ⟨_, rfl⟩
      rw [hz] at HWH hw0
      have d0 : decide (0 ≤ z) = false := decide_eq_false hw0
      have hJ16 : s.J.length ≤ 1000 := by have := ok.n16; have := ok.lj; omega
      have HJ16 := Lib.hid hJ16
      have hi16 : i ≤ 16 := by have := ok.n16; omega
      clear h hW1 ok ht hd hz hw0
      go_enter Try.func65, Try.ntmps65
      go_wp2_with fail
      rw [HW1.out]
      refine HIS.out.mono ?_
      rintro e w2 ⟨rfl, hb⟩
      have HB2 := Lib.hid hb
      have k0 := cellB k0 hb
      have k1 := cellB k1 hb
      have k2 := cellB k2 hb
      have k3 := cellB k3 hb
      clear hb HIS HW1
      go_wp2_with fail
      refine (HWH.out w2 HB2.out).mono ?_
      rintro e X ⟨rfl, hb⟩
      have HBX2 := Lib.hid (below_two HB2.out hb)
      have k0 := cellB k0 hb
      have k1 := cellB k1 hb
      have k2 := cellB k2 hb
      have k3 := cellB k3 hb
      have HSX := Lib.hid (HS1.out.below HBX2.out)
      have hXs : w.heap.size + 2 ≤ X.heap.size := by have := HBX2.out.size; have := HSZ.out; omega
      obtain ⟨bj, oj, cj', vi, hvv, hcj, hgi⟩ := HSX.out.j.at hiJ
      rw [HN2.out] at hvv
      obtain ⟨rfl, rfl⟩ : a2 = some ⟨bj, oj, none⟩ ∧ c2 = cj' := by simpa using hvv
      obtain ⟨li, hli⟩ : ∃ z, s.J.getD i [] = z := ⟨_, rfl⟩
      have HLI := Lib.hid hli
      rw [hli] at hgi hjk
      obtain ⟨ai, ci, rfl, -, -⟩ := hgi.1.shape
      have HWI := Lib.hid (fun (W : World) (k : Below X.heap.size X W) => with_any (.slice ai li.length ci) li job W hjk (hgi.1.below k) hgi.2.1 hj1 hj2)
      obtain ⟨le, hle⟩ : ∃ z, li ++ [job] = z := ⟨_, rfl⟩
      have HLE := Lib.hid hle
      rw [hle] at HWI
      obtain ⟨nl, hnl⟩ : ∃ z, li.length = z := ⟨_, rfl⟩
      rw [hnl] at HWI hcj
      have HJ := Lib.hid (fun (W : World) (k : Below X.heap.size X W) (vn : Value) (hv : GI (fun j => G j ∧ j ≠ w.heap.size + 1) W vn le) => rjobs_any (fun j => G j ∧ j ≠ w.heap.size + 1) _ _ _ _ vn s i le W (HSX.out.below k) hv hiJ HJ16.out (fun j hj => ⟨hG j (by have := k.size; omega), by have := k.size; omega⟩))
      have hii : (i : Int) < (n2 : Int) := by have := HN2.out; omega
      have hi0 : (0 : Int) ≤ (i : Int) := by omega
      have hA0 := below_two (below_alloc X (.cells #[.slice none 0 0, .slice none 0 0, .slice none 0 0, .slice none 0 0] 67 (0, 0))) (below_drew1 _)
      have hFR : ∀ (Y y : World) (v : Value), RInts y v le → NilOk v → FreshV X.heap.size v → GI (fun j => G j ∧ j ≠ w.heap.size + 1) y v le := fun Y y v h1 h2 h3 => GI.fresh h1 h2 h3 (fun j hj => ⟨HGG.out j (by omega), by omega⟩)
      clear hb hvv hgi hli hle hnl hjk HWH hG
      go_upto_region 5 with fail
      go_cut [7] (fun s7 wx => ∃ (nb : Nat) (a2n : Option Addr) (c2n : Nat), s7 = .pointer (some ⟨nb, 0, none⟩) ∧ X.heap.size ≤ nb ∧ Hid (Blk wx nb [.slice a0 n0 c0, .slice a1 n1 c1, .slice a2n n2 c2n, .slice a3 n3 c3] 67) ∧ Hid (GJ (fun j => (G j ∧ j ≠ w.heap.size + 1) ∧ j ≠ nb) wx (.slice a2n n2 c2n) (s.J.set i le)) ∧ Hid (Below X.heap.size X wx))
      case first =>
        go_region_held3 (fun w' => w'.cell? ⟨w.heap.size, 0, none⟩ = some (.slice a0 n0 c0) ∧ w'.cell? ⟨w.heap.size, 1, none⟩ = some (.slice a1 n1 c1) ∧ w'.cell? ⟨w.heap.size, 2, none⟩ = some (.slice (some ⟨bj, oj, none⟩) n2 c2) ∧ w'.cell? ⟨w.heap.size, 3, none⟩ = some (.slice a3 n3 c3) ∧ w'.cell? ⟨bj, oj + i, none⟩ = some (.slice ai nl ci))
          (first
            | (with_reducible exact ⟨k0, k1, k2, k3, hcj⟩)
            | (with_reducible exact ⟨cellB k0 (below_drew1 X), cellB k1 (below_drew1 X), cellB k2 (below_drew1 X), cellB k3 (below_drew1 X), cellB hcj (below_drew1 X)⟩)
            | (with_reducible exact ⟨cellB k0 hA1, cellB k1 hA1, cellB k2 hA1, cellB k3 hA1, cellB hcj hA1⟩)
            | (with_reducible exact ⟨cellB k0 hA2, cellB k1 hA2, cellB k2 hA2, cellB k3 hA2, cellB hcj hA2⟩)
            | (with_reducible exact ⟨cellB k0 hP2, cellB k1 hP2, cellB k2 hP2, cellB k3 hP2, cellB hcj hP2⟩)
            | (with_reducible exact ⟨cellB k0 hA0, cellB k1 hA0, cellB k2 hA0, cellB k3 hA0, cellB hcj hA0⟩)
            | (with_reducible exact ⟨cellB k0 (below_two hA1 (below_alloc y1 _)), cellB k1 (below_two hA1 (below_alloc y1 _)), cellB k2 (below_two hA1 (below_alloc y1 _)), cellB k3 (below_two hA1 (below_alloc y1 _)), cellB hcj (below_two hA1 (below_alloc y1 _))⟩)
            | (with_reducible exact ⟨cellB k0 (below_two hA2 (below_alloc y2 _)), cellB k1 (below_two hA2 (below_alloc y2 _)), cellB k2 (below_two hA2 (below_alloc y2 _)), cellB k3 (below_two hA2 (below_alloc y2 _)), cellB hcj (below_two hA2 (below_alloc y2 _))⟩)
            | assumption
            | go_keep)
          (first
            | (go_at_call 81; (with_reducible refine (HWI.out ((X.alloc (.cells #[.slice none 0 0, .slice none 0 0, .slice none 0 0, .slice none 0 0] 67 (0, 0))).drew) hA0).mono ?_); rintro e y1 ⟨v1, rfl, hr1, hz1, hf1, hb1⟩; obtain ⟨a1n, c1n, rfl, -, -⟩ := hr1.shape; have hA1 := below_two hA0 hb1; have hG1 := hFR X.drew y1 _ hr1 hz1 (fun g hg => Nat.le_trans hA0.size (hf1 g hg)); have hZ := ((Blk.new X S0 67).below (below_drew1 _)).below hb1)
            | (go_at_call 81; (with_reducible refine (HWI.out X.drew (below_drew1 X)).mono ?_); rintro e y1 ⟨v1, rfl, hr1, hz1, hf1, hb1⟩; obtain ⟨a1n, c1n, rfl, -, -⟩ := hr1.shape; have hA1 := below_two (below_drew1 X) hb1; have hG1 := hFR X.drew y1 _ hr1 hz1 hf1)
            | (go_at_call 80; (with_reducible refine (HJ.out y1 hA1 _ hG1).mono ?_); rintro e y2 ⟨v2, rfl, hgj, hfv, hb2⟩; obtain ⟨a2n, c2n, rfl, -, -⟩ := hgj.shape; rw [List.length_set, HN2.out] at hgj hfv ⊢; have hA2 := below_two hA1 hb2; have hZ2 := hZ.below hb2; have hP2 := hA2.trans ((keep4 (w := y2) (rb := X.heap.size) (.slice a0 n0 c0) (.slice a1 n1 c1) (.slice a2n n2 c2n) (.slice a3 n3 c3)).below (B := X.heap.size) hA2.size (fun j hj e => absurd (show j = X.heap.size from e) (Nat.ne_of_lt hj))); have e0 := hZ2.cell (i := 0) (x := .slice none 0 0) rfl; have e1 := hZ2.cell (i := 1) (x := .slice none 0 0) rfl; have e2 := hZ2.cell (i := 2) (x := .slice none 0 0) rfl; have e3 := hZ2.cell (i := 3) (x := .slice none 0 0) rfl; have g0 := hZ2.free 0; have g1 := hZ2.free 1; have g2 := hZ2.free 2; have g3 := hZ2.free 3)
            | (go_at_call 80; (with_reducible refine (HJ.out (y1.alloc (.cells #[.slice none 0 0, .slice none 0 0, .slice none 0 0, .slice none 0 0] 67 (0, 0))) (below_two hA1 (below_alloc y1 _)) _ (hG1.below (below_alloc y1 _))).mono ?_); rintro e y2 ⟨v2, rfl, hgj, hfv, hb2⟩; obtain ⟨a2n, c2n, rfl, -, -⟩ := hgj.shape; rw [List.length_set, HN2.out] at hgj hfv ⊢; have hA2 := below_two (below_two hA1 (below_alloc y1 _)) hb2; have hP2 := hA2.trans ((keep4 (w := y2) (rb := y1.heap.size) (.slice a0 n0 c0) (.slice a1 n1 c1) (.slice a2n n2 c2n) (.slice a3 n3 c3)).below (B := X.heap.size) hA2.size (fun j hj e => absurd (show j = y1.heap.size from e) (Nat.ne_of_lt (Nat.lt_of_lt_of_le hj hA1.size)))); have hZ2 := (Blk.new y1 S0 67).below hb2; have e0 := hZ2.cell (i := 0) (x := .slice none 0 0) rfl; have e1 := hZ2.cell (i := 1) (x := .slice none 0 0) rfl; have e2 := hZ2.cell (i := 2) (x := .slice none 0 0) rfl; have e3 := hZ2.cell (i := 3) (x := .slice none 0 0) rfl; have g0 := hZ2.free 0; have g1 := hZ2.free 1; have g2 := hZ2.free 2; have g3 := hZ2.free 3)
            | (go_at_call 80; (with_reducible refine (HJ.out y1 hA1 _ hG1).mono ?_); rintro e y2 ⟨v2, rfl, hgj, hfv, hb2⟩; obtain ⟨a2n, c2n, rfl, -, -⟩ := hgj.shape; rw [List.length_set, HN2.out] at hgj hfv ⊢; have hA2 := below_two hA1 hb2)
            | fail)
        · go_wp2_with fail
          go_meet
          exact ⟨y2.heap.size, a2n, c2n, rfl, hA2.size, Blk.new y2 _ _, hgj.newBox _, below_two hA2 (below_alloc y2 _)⟩
        · go_wp2_with fail
          go_meet
          exact ⟨y1.heap.size, a2n, c2n, rfl, hA1.size, set4 _ _ _ _ hZ2 rfl, hgj.boxed hZ2 (fun g hg => Nat.ne_of_gt (Nat.lt_of_lt_of_le (Blk.new y1 S0 67).lt (hfv g hg))), hP2⟩
        · go_wp2_with fail
          go_meet
          exact ⟨X.heap.size, a2n, c2n, rfl, Nat.le_refl _, set4 _ _ _ _ hZ2 rfl, hgj.boxed hZ2 (fun g hg => Nat.ne_of_gt (Nat.lt_of_lt_of_le hZ.lt (hfv g hg))), hP2⟩
      case rest =>
        obtain ⟨nb, a2n, c2n, rfl, hnb, hbk, hgj, hbw⟩ := hcut
        have HBK := Lib.hid hbk.out
        have HGJ := Lib.hid hgj.out
        have HBXw := Lib.hid hbw.out
        have HBW := Lib.hid (below_two HBX2.out hbw.out)
        have HSW := Lib.hid (HSX.out.off hbw.out nb hnb)
        clear hbk hgj hbw
        have HPL := Lib.hid (place_any (.slice a3 n3 c3) s.R (i : Int) wc (HSW.out.r.1))
        have hpl := placeI_has s.R (i : Int)
        obtain ⟨z2, hz2⟩ : ∃ z, placeI s.R (i : Int) = z := ⟨_, rfl⟩
        rw [hz2] at HPL hpl
        have k3 := cellB k3 HBXw.out
        have n0' := HBK.out.cell (i := 0) (x := .slice a0 n0 c0) rfl
        have n1' := HBK.out.cell (i := 1) (x := .slice a1 n1 c1) rfl
        have n2' := HBK.out.cell (i := 2) (x := .slice a2n n2 c2n) rfl
        have n3' := HBK.out.cell (i := 3) (x := .slice a3 n3 c3) rfl
        clear hz2 hcj
        by_cases hz0 : 0 ≤ z2
        · have dz : decide (z2 < 0) = false := decide_eq_false (by omega)
          have HAD := Lib.hid (show addS s i job = { s with J := s.J.set i le } by
            unfold addS
            rw [hpl.1 hz0, if_pos rfl, HLI.out, HLE.out])
          have HGF := Lib.hid (show GS (fun j => G j ∧ j ≠ w.heap.size + 1) wc (.slice a0 n0 c0) (.slice a1 n1 c1) (.slice a2n n2 c2n) (.slice a3 n3 c3) (addS s i job) by
            rw [HAD.out]
            exact ⟨HSW.out.q.imp (fun j hj => hj.1), HSW.out.c.imp (fun j hj => hj.1), HGJ.out.imp (fun j hj => hj.1), HSW.out.r.imp (fun j hj => hj.1)⟩)
          clear hpl hz0
          go_wp2_with fail
          refine HPL.out.mono ?_
          rintro e w9 ⟨rfl, rfl⟩
          clear HPL
          have hrx := HRB.out.below HBW.out
          have HRBx := Lib.hid hrx
          have r0 := hrx.cell (i := 0) (x := .slice none 0 0) rfl
          have r1 := hrx.cell (i := 1) (x := .slice none 0 0) rfl
          have r2 := hrx.cell (i := 2) (x := .slice none 0 0) rfl
          have r3 := hrx.cell (i := 3) (x := .slice none 0 0) rfl
          have r4 := hrx.cell (i := 4) (x := .int .i64 0) rfl
          have s0 := hrx.free 0
          have s1 := hrx.free 1
          have s2 := hrx.free 2
          have s3 := hrx.free 3
          have s4 := hrx.free 4
          have HBF := Lib.hid (show Below w.heap.size w wc from HAL.out.trans (HBW.out.mono (by have := HSZ.out; omega)))
          clear hrx
          have HF5 := Lib.hid (set5 (.slice a0 n0 c0) (.slice a1 n1 c1) (.slice a2n n2 c2n) (.slice a3 n3 c3) (.int .i64 0) HRBx.out rfl)
          have HK5 := Lib.hid (keep5 (w := wc) (rb := w.heap.size + 1) (.slice a0 n0 c0) (.slice a1 n1 c1) (.slice a2n n2 c2n) (.slice a3 n3 c3) (.int .i64 0))
          go_wp2
          obtain ⟨w5, hw5⟩ : ∃ z, (((((wc.setCell ⟨w.heap.size + 1, 0, none⟩ (.slice a0 n0 c0)).setCell ⟨w.heap.size + 1, 1, none⟩ (.slice a1 n1 c1)).setCell ⟨w.heap.size + 1, 2, none⟩ (.slice a2n n2 c2n)).setCell ⟨w.heap.size + 1, 3, none⟩ (.slice a3 n3 c3)).setCell ⟨w.heap.size + 1, 4, none⟩ (.int .i64 0)) = z := ⟨_, rfl⟩
          rw [hw5] at HF5 HK5 ⊢
          have y0 := HF5.out.cell (i := 0) (x := .slice a0 n0 c0) rfl
          have y1 := HF5.out.cell (i := 1) (x := .slice a1 n1 c1) rfl
          have y2 := HF5.out.cell (i := 2) (x := .slice a2n n2 c2n) rfl
          have y3 := HF5.out.cell (i := 3) (x := .slice a3 n3 c3) rfl
          have y4 := HF5.out.cell (i := 4) (x := .int .i64 0) rfl
          refine bodyPost_ret (v := .agg #[.slice a0 n0 c0, .slice a1 n1 c1, .slice a2n n2 c2n, .slice a3 n3 c3, .int .i64 0]) (by simp [results, Try.results65, go_sem, y0, y1, y2, y3, y4]) rfl ?_
          exact ⟨_, _, _, rfl, (HGF.out.keep HK5.out (fun j e q => q.2 e)).imp (fun j hj => hj.1), HBF.out.trans (HK5.out.below (B := w.heap.size) HBF.out.size (fun j hj e => by have e' : j = w.heap.size + 1 := e; omega))⟩
        · have dz : decide (z2 < 0) = true := decide_eq_true (by omega)
          have hno : hasI s.R (i : Int) = false := by
            cases hh : hasI s.R (i : Int) with
            | false => rfl
            | true => exact absurd (hpl.2 hh) hz0
          have HAD := Lib.hid (show addS s i job = { s with J := s.J.set i le, R := s.R ++ [(i : Int)] } by
            unfold addS
            rw [hno, if_neg Bool.false_ne_true, HLI.out, HLE.out])
          have HWR := Lib.hid (with_any (.slice a3 n3 c3) s.R (i : Int) wc.drew hrk (HSW.out.r.below (below_drew1 wc)).1 HSW.out.r.2.1 (by omega) (by omega))
          obtain ⟨re, hre⟩ : ∃ z, s.R ++ [(i : Int)] = z := ⟨_, rfl⟩
          rw [hre] at HAD HWR
          have hHG : ∀ j, wc.drew.heap.size ≤ j → (G j ∧ j ≠ w.heap.size + 1) ∧ j ≠ nb := fun j hj => by
            have h1 := HBW.out.size
            have h2 := HBK.out.lt
            have h3 := HSZ.out
            have h4 : wc.heap.size ≤ j := hj
            exact ⟨⟨HGG.out j (by omega), by omega⟩, by omega⟩
          clear hpl hz0 hno hre
          go_wp2_with fail
          refine HPL.out.mono ?_
          rintro e w9 ⟨rfl, rfl⟩
          clear HPL
          go_wp2
          go_region_with (first
            | (go_at_call 81; (with_reducible refine HWR.out.mono ?_); rintro e y4 ⟨v4, rfl, hr4, hz4, hf4, hb4⟩; obtain ⟨a4n, c4n, rfl, -, -⟩ := hr4.shape; have hA4 := below_two (below_drew1 wc) hb4; have m0 := cellB n0' hA4; have m1 := cellB n1' hA4; have m2 := cellB n2' hA4; have m3 := cellB n3' hA4)
            | (go_at_call 82; (with_reducible refine (rring_any y4 _ _ _ _ _ _ _ _ _ _ _ _ _ _ _).mono ?_); rintro e y5 ⟨rfl, hb5⟩; have hA5 := below_two hA4 hb5; have hN5 := HBK.out.below hA5; have e0 := hN5.cell (i := 0) (x := .slice a0 n0 c0) rfl; have e1 := hN5.cell (i := 1) (x := .slice a1 n1 c1) rfl; have e2 := hN5.cell (i := 2) (x := .slice a2n n2 c2n) rfl; have e3 := hN5.cell (i := 3) (x := .slice a3 n3 c3) rfl; have g0 := hN5.free 0; have g1 := hN5.free 1; have g2 := hN5.free 2; have g3 := hN5.free 3)
            | fail)
          all_goals
            have hNN := set4 (.slice a0 n0 c0) (.slice a1 n1 c1) (.slice a2n n2 c2n) (.slice a4n re.length c4n) hN5 rfl
            have HKN := Lib.hid (keep4 (w := y5) (rb := nb) (.slice a0 n0 c0) (.slice a1 n1 c1) (.slice a2n n2 c2n) (.slice a4n re.length c4n))
            have q0 := hNN.cell (i := 0) (x := .slice a0 n0 c0) rfl
            have q1 := hNN.cell (i := 1) (x := .slice a1 n1 c1) rfl
            have q2 := hNN.cell (i := 2) (x := .slice a2n n2 c2n) rfl
            have q3 := hNN.cell (i := 3) (x := .slice a4n re.length c4n) rfl
            have HBW6 := Lib.hid (show Below W1.heap.size W1 ((((y5.setCell ⟨nb, 0, none⟩ (.slice a0 n0 c0)).setCell ⟨nb, 1, none⟩ (.slice a1 n1 c1)).setCell ⟨nb, 2, none⟩ (.slice a2n n2 c2n)).setCell ⟨nb, 3, none⟩ (.slice a4n re.length c4n)) from (below_two HBW.out hA5).trans (HKN.out.below (B := W1.heap.size) (below_two HBW.out hA5).size (fun j hj e => absurd (show j = nb from e) (Nat.ne_of_lt (Nat.lt_of_lt_of_le hj (Nat.le_trans HBX2.out.size hnb))))))
            have HGF := Lib.hid (show GS (fun j => G j ∧ j ≠ w.heap.size + 1) ((((y5.setCell ⟨nb, 0, none⟩ (.slice a0 n0 c0)).setCell ⟨nb, 1, none⟩ (.slice a1 n1 c1)).setCell ⟨nb, 2, none⟩ (.slice a2n n2 c2n)).setCell ⟨nb, 3, none⟩ (.slice a4n re.length c4n)) (.slice a0 n0 c0) (.slice a1 n1 c1) (.slice a2n n2 c2n) (.slice a4n re.length c4n) (addS s i job) by
              rw [HAD.out]
              have h1 : GS (fun j => (G j ∧ j ≠ w.heap.size + 1) ∧ j ≠ nb) y5 (.slice a0 n0 c0) (.slice a1 n1 c1) (.slice a2n n2 c2n) (.slice a4n re.length c4n) { s with J := s.J.set i le, R := re } := ⟨HSW.out.q.below hA5, HSW.out.c.below hA5, HGJ.out.below hA5, (GI.fresh hr4 hz4 hf4 hHG).below hb5⟩
              exact (h1.keep HKN.out (fun j e q => q.2 e)).imp (fun j hj => hj.1))
            obtain ⟨w6, hw6⟩ : ∃ z, ((((y5.setCell ⟨nb, 0, none⟩ (.slice a0 n0 c0)).setCell ⟨nb, 1, none⟩ (.slice a1 n1 c1)).setCell ⟨nb, 2, none⟩ (.slice a2n n2 c2n)).setCell ⟨nb, 3, none⟩ (.slice a4n re.length c4n)) = z := ⟨_, rfl⟩
            rw [hw6] at HGF HBW6 q0 q1 q2 q3 ⊢
            have HBW := HBW6
            clear hw6 hNN e0 e1 e2 e3 g0 g1 g2 g3 hN5 hr4 hz4 hf4 hb4 hb5 hA4 hA5 HKN HWR m0 m1 m2 m3 n0' n1' n2' n3'
            have hrx := HRB.out.below HBW.out
            have HRBx := Lib.hid hrx
            have r0 := hrx.cell (i := 0) (x := .slice none 0 0) rfl
            have r1 := hrx.cell (i := 1) (x := .slice none 0 0) rfl
            have r2 := hrx.cell (i := 2) (x := .slice none 0 0) rfl
            have r3 := hrx.cell (i := 3) (x := .slice none 0 0) rfl
            have r4 := hrx.cell (i := 4) (x := .int .i64 0) rfl
            have s0 := hrx.free 0
            have s1 := hrx.free 1
            have s2 := hrx.free 2
            have s3 := hrx.free 3
            have s4 := hrx.free 4
            have HBF := Lib.hid (show Below w.heap.size w w6 from HAL.out.trans (HBW.out.mono (by have := HSZ.out; omega)))
            clear hrx
            have HF5 := Lib.hid (set5 (.slice a0 n0 c0) (.slice a1 n1 c1) (.slice a2n n2 c2n) (.slice a4n re.length c4n) (.int .i64 0) HRBx.out rfl)
            have HK5 := Lib.hid (keep5 (w := w6) (rb := w.heap.size + 1) (.slice a0 n0 c0) (.slice a1 n1 c1) (.slice a2n n2 c2n) (.slice a4n re.length c4n) (.int .i64 0))
            go_wp2
            obtain ⟨w5, hw5⟩ : ∃ z, (((((w6.setCell ⟨w.heap.size + 1, 0, none⟩ (.slice a0 n0 c0)).setCell ⟨w.heap.size + 1, 1, none⟩ (.slice a1 n1 c1)).setCell ⟨w.heap.size + 1, 2, none⟩ (.slice a2n n2 c2n)).setCell ⟨w.heap.size + 1, 3, none⟩ (.slice a4n re.length c4n)).setCell ⟨w.heap.size + 1, 4, none⟩ (.int .i64 0)) = z := ⟨_, rfl⟩
            rw [hw5] at HF5 HK5 ⊢
            have y0 := HF5.out.cell (i := 0) (x := .slice a0 n0 c0) rfl
            have y1 := HF5.out.cell (i := 1) (x := .slice a1 n1 c1) rfl
            have y2 := HF5.out.cell (i := 2) (x := .slice a2n n2 c2n) rfl
            have y3 := HF5.out.cell (i := 3) (x := .slice a4n re.length c4n) rfl
            have y4 := HF5.out.cell (i := 4) (x := .int .i64 0) rfl
            refine bodyPost_ret (v := .agg #[.slice a0 n0 c0, .slice a1 n1 c1, .slice a2n n2 c2n, .slice a4n re.length c4n, .int .i64 0]) (by simp [results, Try.results65, go_sem, y0, y1, y2, y3, y4]) rfl ?_
            exact ⟨_, _, _, rfl, (HGF.out.keep HK5.out (fun j e q => q.2 e)).imp (fun j hj => hj.1), HBF.out.trans (HK5.out.below (B := w.heap.size) HBF.out.size (fun j hj e => by have e' : j = w.heap.size + 1 := e; omega))⟩
end Go.Proofs.Ytmgjmpmcadjemaa

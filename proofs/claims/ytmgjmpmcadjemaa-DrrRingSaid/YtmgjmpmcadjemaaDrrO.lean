/- Package drr: the reference's Remove. -/
import Derived.Test.YtmgjmpmcadjemaaDrrN
namespace Go.Proofs.Ytmgjmpmcadjemaa
open Go.RowKit

theorem keep5 {w : World} {rb : Nat} (a b c d e : Value) : Keep (fun j => j = rb) w (((((w.setCell ⟨rb, 0, none⟩ a).setCell ⟨rb, 1, none⟩ b).setCell ⟨rb, 2, none⟩ c).setCell ⟨rb, 3, none⟩ d).setCell ⟨rb, 4, none⟩ e) :=
  keep_setCell (S := fun j => j = rb) (keep4 a b c d) rfl _
theorem set5 {w : World} {rb : Nat} {xs : List Value} {t : TypeId} (a b c d e : Value) (h : Blk w rb xs t) (hl : xs.length = 5) : Blk (((((w.setCell ⟨rb, 0, none⟩ a).setCell ⟨rb, 1, none⟩ b).setCell ⟨rb, 2, none⟩ c).setCell ⟨rb, 3, none⟩ d).setCell ⟨rb, 4, none⟩ e) rb [a, b, c, d, e] t := by
  match xs, hl with
  | [x, y, z, u, v], _ => exact ((((h.set 0 a).set 1 b).set 2 c).set 3 d).set 4 e
def B0 : List Value := [.slice none 0 0, .slice none 0 0, .slice none 0 0, .slice none 0 0, .int .i64 0]

set_option maxHeartbeats 4000000 in
set_option maxRecDepth 100000 in
theorem rrem30_any {K : Nat} (G : Nat → Prop) (vq vc vj vr : Value) (s : Sch) (job : Int) (w : World) (h : GS G w vq vc vj vr s) (ok : Ok K s) (hK : K ≤ 1000) (hG : ∀ j, w.heap.size ≤ j → G j) :
    Calls Try.prog 66 #[.agg #[vq, vc, vj, vr], .int .i64 job] w fun e w' => ∃ vc' vj' vr', e = .returned (.agg #[vq, vc', vj', vr', .int .i64 (remM s job).1]) ∧ GS G w' vq vc' vj' vr' (remM s job).2 ∧ Below w.heap.size w w' := by
  obtain ⟨a0, c0, rfl, -, -⟩ := h.q.1.shape
  obtain ⟨a1, c1, rfl, -, -⟩ := h.c.1.shape
  obtain ⟨a2, c2, rfl, -, -⟩ := h.j.shape
  obtain ⟨a3, c3, rfl, -, -⟩ := h.r.1.shape
  obtain ⟨n0, hn0⟩ : ∃ z, s.Q.length = z := ⟨_, rfl⟩
  obtain ⟨n1, hn1⟩ : ∃ z, s.C.length = z := ⟨_, rfl⟩
  obtain ⟨n2, hn2⟩ : ∃ z, s.J.length = z := ⟨_, rfl⟩
  obtain ⟨n3, hn3⟩ : ∃ z, s.R.length = z := ⟨_, rfl⟩
  rw [hn0, hn1, hn2, hn3] at h
  rw [hn0, hn1, hn2, hn3]
  clear hn0 hn1 hn2 hn3
  obtain ⟨W1, hW1⟩ : ∃ z, (w.alloc (.cells #[.slice a0 n0 c0, .slice a1 n1 c1, .slice a2 n2 c2, .slice a3 n3 c3] 67 (0, 0))).alloc (.cells #[.slice none 0 0, .slice none 0 0, .slice none 0 0, .slice none 0 0, .int .i64 0] 109 (0, 0)) = z := ⟨_, rfl⟩
  have HAL := Lib.hid (show Below w.heap.size w W1 by rw [← hW1]; exact alloc2 _ _ _)
  have HSZ := Lib.hid (show W1.heap.size = w.heap.size + 2 by rw [← hW1]; simp)
  have HBX := Lib.hid (show Blk W1 w.heap.size [.slice a0 n0 c0, .slice a1 n1 c1, .slice a2 n2 c2, .slice a3 n3 c3] 67 by rw [← hW1]; exact blk1st _ _ _ _)
  have HRB := Lib.hid (show Blk W1 (w.heap.size + 1) B0 109 by rw [← hW1]; exact blk2nd _ _ _ _)
  have HS1 := Lib.hid (h.off HAL.out (w.heap.size + 1) (by omega))
  have HW := Lib.hid (rwhose_any _ _ _ _ _ s job W1 HS1.out ok.lj (by have := ok.n16; omega))
  have HGG := Lib.hid hG
  have HW1 := Lib.hid hW1
  have k0 := HBX.out.cell (i := 0) (x := .slice a0 n0 c0) rfl
  have k1 := HBX.out.cell (i := 1) (x := .slice a1 n1 c1) rfl
  have k2 := HBX.out.cell (i := 2) (x := .slice a2 n2 c2) rfl
  have k3 := HBX.out.cell (i := 3) (x := .slice a3 n3 c3) rfl
  unfold remM
  by_cases h0 : whoS s job < 0
  · rw [if_pos h0]
    obtain ⟨z, hz⟩ : ∃ z, whoS s job = z := ⟨_, rfl⟩
    rw [hz] at HW h0
    have d0 : decide (z < 0) = true := decide_eq_true h0
    clear h hG hW1 hz ok h0
    go_enter Try.func66, Try.ntmps66
    go_wp2_with fail
    rw [HW1.out]
    refine HW.out.mono ?_
    rintro e w2 ⟨rfl, hb⟩
    have k0 := cellB k0 hb
    have k1 := cellB k1 hb
    have k2 := cellB k2 hb
    have k3 := cellB k3 hb
    have HBW := Lib.hid hb
    have HGF := Lib.hid (HS1.out.below hb)
    clear hb HW HW1
    have hrx := HRB.out.below HBW.out
    have HRBx := Lib.hid hrx
    have r0 := hrx.cell (i := 0) (x := .slice none 0 0) rfl
    have r1 := hrx.cell (i := 1) (x := .slice none 0 0) rfl
    have r2 := hrx.cell (i := 2) (x := .slice none 0 0) rfl
    have r3 := hrx.cell (i := 3) (x := .slice none 0 0) rfl
    have r4 := hrx.cell (i := 4) (x := .int .i64 0) rfl
    have s0 := hrx.free 0
    have s1 := hrx.free 1
    have s2 := hrx.free 2
    have s3 := hrx.free 3
    have s4 := hrx.free 4
    have HBF := Lib.hid (show Below w.heap.size w w2 from HAL.out.trans (HBW.out.mono (by have := HSZ.out; omega)))
    clear hrx
    have HF5 := Lib.hid (set5 (.slice a0 n0 c0) (.slice a1 n1 c1) (.slice a2 n2 c2) (.slice a3 n3 c3) (.int .i64 6) HRBx.out rfl)
    have HK5 := Lib.hid (keep5 (w := w2) (rb := w.heap.size + 1) (.slice a0 n0 c0) (.slice a1 n1 c1) (.slice a2 n2 c2) (.slice a3 n3 c3) (.int .i64 6))
    go_wp2
    obtain ⟨w5, hw5⟩ : ∃ z, (((((w2.setCell ⟨w.heap.size + 1, 0, none⟩ (.slice a0 n0 c0)).setCell ⟨w.heap.size + 1, 1, none⟩ (.slice a1 n1 c1)).setCell ⟨w.heap.size + 1, 2, none⟩ (.slice a2 n2 c2)).setCell ⟨w.heap.size + 1, 3, none⟩ (.slice a3 n3 c3)).setCell ⟨w.heap.size + 1, 4, none⟩ (.int .i64 6)) = z := ⟨_, rfl⟩
    rw [hw5] at HF5 HK5 ⊢
    have y0 := HF5.out.cell (i := 0) (x := .slice a0 n0 c0) rfl
    have y1 := HF5.out.cell (i := 1) (x := .slice a1 n1 c1) rfl
    have y2 := HF5.out.cell (i := 2) (x := .slice a2 n2 c2) rfl
    have y3 := HF5.out.cell (i := 3) (x := .slice a3 n3 c3) rfl
    have y4 := HF5.out.cell (i := 4) (x := .int .i64 6) rfl
    refine bodyPost_ret (v := .agg #[.slice a0 n0 c0, .slice a1 n1 c1, .slice a2 n2 c2, .slice a3 n3 c3, .int .i64 6]) (by simp [results, Try.results66, go_sem, y0, y1, y2, y3, y4]) rfl ?_
    exact ⟨_, _, _, rfl, (HGF.out.keep HK5.out (fun j e q => q.2 e)).imp (fun j hj => hj.1), HBF.out.trans (HK5.out.below (B := w.heap.size) HBF.out.size (fun j hj e => by have e' : j = w.heap.size + 1 := e; omega))⟩
  · rw [if_neg h0]
    obtain ⟨i, hi, hi2, -⟩ := whoS_at h0
    rw [hi] at HW ⊢
    rw [Int.toNat_natCast]
    have hOUT := fun (W : World) (k : Below W1.heap.size W1 W) => rout_any (fun j => G j ∧ j ≠ w.heap.size + 1) _ _ _ _ s i job W (HS1.out.below k) hi2 ok.lc ok.lj ok.n16 (Nat.le_trans (ok.jk i hi2) hK) (Nat.le_trans ok.rk hK) (ok.jn i hi2) ok.rn (fun j hj => ⟨hG j (by have := k.size; have := HSZ.out; omega), by have := k.size; have := HSZ.out; omega⟩)
    have HOUT := Lib.hid hOUT
    have d0 : decide ((i : Int) < 0) = false := decide_eq_false (by omega)
    obtain ⟨s2, hs2⟩ : ∃ z, outM s i job = z := ⟨_, rfl⟩
    rw [hs2] at HOUT ⊢
    clear h hG hW1 hi hOUT ok h0 hs2
    go_enter Try.func66, Try.ntmps66
    go_wp2_with fail
    rw [HW1.out]
    refine HW.out.mono ?_
    rintro e w2 ⟨rfl, hb⟩
    have k0 := cellB k0 hb
    have k1 := cellB k1 hb
    have k2 := cellB k2 hb
    have k3 := cellB k3 hb
    have HB2 := Lib.hid hb
    clear hb HW HW1
    go_wp2_with fail
    refine (HOUT.out w2 HB2.out).mono ?_
    rintro e w3 ⟨v1, v2, v3, rfl, hg, hb⟩
    have HBW := Lib.hid (below_two HB2.out hb)
    obtain ⟨a1n, c1n, rfl, -, -⟩ := hg.c.1.shape
    obtain ⟨a2n, c2n, rfl, -, -⟩ := hg.j.shape
    obtain ⟨a3n, c3n, rfl, -, -⟩ := hg.r.1.shape
    obtain ⟨m1, hm1⟩ : ∃ z, s2.C.length = z := ⟨_, rfl⟩
    obtain ⟨m2, hm2⟩ : ∃ z, s2.J.length = z := ⟨_, rfl⟩
    obtain ⟨m3, hm3⟩ : ∃ z, s2.R.length = z := ⟨_, rfl⟩
    rw [hm1, hm2, hm3] at hg ⊢
    have HGF := Lib.hid hg
    clear hb hg hm1 hm2 hm3 k0 k1 k2 k3 HOUT
    have hrx := HRB.out.below HBW.out
    have HRBx := Lib.hid hrx
    have r0 := hrx.cell (i := 0) (x := .slice none 0 0) rfl
    have r1 := hrx.cell (i := 1) (x := .slice none 0 0) rfl
    have r2 := hrx.cell (i := 2) (x := .slice none 0 0) rfl
    have r3 := hrx.cell (i := 3) (x := .slice none 0 0) rfl
    have r4 := hrx.cell (i := 4) (x := .int .i64 0) rfl
    have s0 := hrx.free 0
    have s1 := hrx.free 1
    have s2 := hrx.free 2
    have s3 := hrx.free 3
    have s4 := hrx.free 4
    have HBF := Lib.hid (show Below w.heap.size w w3 from HAL.out.trans (HBW.out.mono (by have := HSZ.out; omega)))
    clear hrx
    have HF5 := Lib.hid (set5 (.slice a0 n0 c0) (.slice a1n m1 c1n) (.slice a2n m2 c2n) (.slice a3n m3 c3n) (.int .i64 0) HRBx.out rfl)
    have HK5 := Lib.hid (keep5 (w := w3) (rb := w.heap.size + 1) (.slice a0 n0 c0) (.slice a1n m1 c1n) (.slice a2n m2 c2n) (.slice a3n m3 c3n) (.int .i64 0))
    go_wp2
    obtain ⟨w5, hw5⟩ : ∃ z, (((((w3.setCell ⟨w.heap.size + 1, 0, none⟩ (.slice a0 n0 c0)).setCell ⟨w.heap.size + 1, 1, none⟩ (.slice a1n m1 c1n)).setCell ⟨w.heap.size + 1, 2, none⟩ (.slice a2n m2 c2n)).setCell ⟨w.heap.size + 1, 3, none⟩ (.slice a3n m3 c3n)).setCell ⟨w.heap.size + 1, 4, none⟩ (.int .i64 0)) = z := ⟨_, rfl⟩
    rw [hw5] at HF5 HK5 ⊢
    have y0 := HF5.out.cell (i := 0) (x := .slice a0 n0 c0) rfl
    have y1 := HF5.out.cell (i := 1) (x := .slice a1n m1 c1n) rfl
    have y2 := HF5.out.cell (i := 2) (x := .slice a2n m2 c2n) rfl
    have y3 := HF5.out.cell (i := 3) (x := .slice a3n m3 c3n) rfl
    have y4 := HF5.out.cell (i := 4) (x := .int .i64 0) rfl
    refine bodyPost_ret (v := .agg #[.slice a0 n0 c0, .slice a1n m1 c1n, .slice a2n m2 c2n, .slice a3n m3 c3n, .int .i64 0]) (by simp [results, Try.results66, go_sem, y0, y1, y2, y3, y4]) rfl ?_
    exact ⟨_, _, _, rfl, (HGF.out.keep HK5.out (fun j e q => q.2 e)).imp (fun j hj => hj.1), HBF.out.trans (HK5.out.below (B := w.heap.size) HBF.out.size (fun j hj e => by have e' : j = w.heap.size + 1 := e; omega))⟩
end Go.Proofs.Ytmgjmpmcadjemaa

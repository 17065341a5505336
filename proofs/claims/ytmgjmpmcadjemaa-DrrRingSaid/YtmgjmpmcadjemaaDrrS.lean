/- Package drr: the law's fits. -/
import Derived.Test.YtmgjmpmcadjemaaDrrR
namespace Go.Proofs.Ytmgjmpmcadjemaa
open Go.RowKit

set_option maxHeartbeats 8000000 in
set_option maxRecDepth 100000 in
theorem fits30_any {K : Nat} {ow : Nat → Nat} {B : Nat} {p rq : Nat} {vt : Value} {tb qb : Nat → Nat} (G : Nat → Prop) (vq vc vj vr : Value) (s : Sch) (w : World) (d : DAt ow B w p rq vt tb qb s) (h : GS G w vq vc vj vr s) (ok : Ok K s) (hK : K ≤ 1000) :
    Calls Try.prog 34 #[.pointer (some ⟨p, 0, none⟩), .agg #[vq, vc, vj, vr]] w fun e w' => e = .returned (.bool true) ∧ Below w.heap.size w w' := by
  obtain ⟨a0, c0, rfl, -, -⟩ := h.q.1.shape
  obtain ⟨a1, c1, rfl, -, -⟩ := h.c.1.shape
  obtain ⟨a2, c2, rfl, -, -⟩ := h.j.shape
  obtain ⟨a3, c3, rfl, -, -⟩ := h.r.1.shape
  obtain ⟨n0, hn0⟩ : ∃ z, s.Q.length = z := ⟨_, rfl⟩
  obtain ⟨n1, hn1⟩ : ∃ z, s.C.length = z := ⟨_, rfl⟩
  obtain ⟨n2, hn2⟩ : ∃ z, s.J.length = z := ⟨_, rfl⟩
  obtain ⟨n3, hn3⟩ : ∃ z, s.R.length = z := ⟨_, rfl⟩
  have HN0 := Lib.hid hn0
  have HN1 := Lib.hid (show n1 = n0 by rw [← hn1, ← hn0]; exact ok.lc)
  have HN2 := Lib.hid (show n2 = n0 by rw [← hn2, ← hn0]; exact ok.lj)
  have HJ2 := Lib.hid hn2
  have hn16 : n0 ≤ 16 := by rw [← hn0]; exact ok.n16
  rw [hn0, hn1, hn2, hn3] at h
  rw [hn0, hn1, hn2, hn3]
  have HOK := Lib.hid ok
  obtain ⟨W1, hW1⟩ : ∃ z, w.alloc (.cells #[.slice a0 n0 c0, .slice a1 n1 c1, .slice a2 n2 c2, .slice a3 n3 c3] 67 (0, 0)) = z := ⟨_, rfl⟩
  have HAL := Lib.hid (show Below w.heap.size w W1 by rw [← hW1]; exact below_alloc _ _)
  have HBX := Lib.hid (show Blk W1 w.heap.size [.slice a0 n0 c0, .slice a1 n1 c1, .slice a2 n2 c2, .slice a3 n3 c3] 67 by rw [← hW1]; exact Blk.new _ _ _)
  have HG := Lib.hid (h.below HAL.out)
  have HD := Lib.hid (d.below HAL.out)
  have HW1 := Lib.hid hW1
  have HRG := Lib.hid (fun (W : World) (k : Below W1.heap.size W1 W) => dring_any (HD.out.below k) (Nat.le_trans ok.rk hK))
  have k0 := HBX.out.cell (i := 0) (x := .slice a0 n0 c0) rfl
  clear h d ok hW1 hn0 hn1 hn2 hn3
  go_enter Try.func34, Try.ntmps34
  go_upto_region 1 with fail
  rw [HW1.out]
  clear HW1
  go_wp2
  clear k0
  go_loopw [9] (fun iv w2 => ∃ k : Nat, k ≤ n0 ∧ iv = .int .i64 (k : Int) ∧ Hid (Below W1.heap.size W1 w2)) (fun iv _ => n0 - (intOf iv).toNat)
  case atStart => exact ⟨0, Nat.zero_le _, rfl, Below.refl _ _⟩
  case round =>
    obtain ⟨k, hk, rfl, HB⟩ := hrel
    rcases Nat.lt_or_ge k n0 with hlt | hge
    · have hkQ : k < s.Q.length := by rw [HN0.out]; exact hlt
      have hkJ : k < s.J.length := by rw [HJ2.out, HN2.out]; exact hlt
      have hjk := Nat.le_trans (HOK.out.jk k hkQ) hK
      have HB2 := Lib.hid (below_two HB.out (below_drew1 wr))
      obtain ⟨W2, hW2⟩ : ∃ z, wr.drew = z := ⟨_, rfl⟩
      obtain ⟨b1, o1, cq, rfl, -, hcq, hcc, -, -⟩ := (HG.out.below (below_two HB.out (below_drew1 wr))).c.1.at (k := k) (by have := HN1.out; omega)
      obtain ⟨b2, o2, cj', vi, hvv, hcj, hgi⟩ := (HG.out.below (below_two HB.out (below_drew1 wr))).j.at hkJ
      rw [HJ2.out] at hvv
      obtain ⟨rfl, rfl⟩ : a2 = some ⟨b2, o2, none⟩ ∧ c2 = cj' := by simpa using hvv
      obtain ⟨ai, ci, rfl, -, -⟩ := hgi.1.shape
      have hcg : s.C.getD k 0 = cq := by rw [List.getD_eq_getElem?_getD, hcq]; rfl
      have HCD := Lib.hid (fun (W : World) (q : Below W1.heap.size W1 W) => dcredit_in k (HD.out.below q) hkQ)
      rw [hcg] at HCD
      have HJB := Lib.hid (fun (W : World) (q : Below W1.heap.size W1 W) => djobs_in k (HD.out.below q) hkQ hjk)
      obtain ⟨row, hrow⟩ : ∃ z, s.J.getD k [] = z := ⟨_, rfl⟩
      rw [hrow] at HJB hgi hcj
      obtain ⟨nr, hnr⟩ : ∃ z, row.length = z := ⟨_, rfl⟩
      rw [hnr] at hgi hcj
      have HGI := Lib.hid hgi
      have HNR := Lib.hid hnr
      have hbx := HBX.out.below (below_two HB.out (below_drew1 wr))
      have k1 := hbx.cell (i := 1) (x := .slice (some ⟨b1, o1, none⟩) n1 c1) rfl
      have k2 := hbx.cell (i := 2) (x := .slice (some ⟨b2, o2, none⟩) n2 c2) rfl
      have hki : (k : Int) < (n0 : Int) := by omega
      have hk0 : (0 : Int) ≤ (k : Int) := by omega
      have hk1 : (k : Int) < (n1 : Int) := by have := HN1.out; omega
      have hk2 : (k : Int) < (n2 : Int) := by have := HN2.out; omega
      have hne : (cq != cq) = false := bne_self_eq_false _
      have hA0 := HB2.out
      clear hvv hgi hcg hrow hnr hjk hbx hW2 W2 hcq
      go_wp2
      go_region_held3 (fun w' => w'.cell? ⟨w.heap.size, 1, none⟩ = some (.slice (some ⟨b1, o1, none⟩) n1 c1) ∧ w'.cell? ⟨w.heap.size, 2, none⟩ = some (.slice (some ⟨b2, o2, none⟩) n2 c2) ∧ w'.cell? ⟨b1, o1 + k, none⟩ = some (.int .i64 cq) ∧ w'.cell? ⟨b2, o2 + k, none⟩ = some (.slice ai nr ci))
        (first | (with_reducible exact ⟨k1, k2, hcc, hcj⟩) | (with_reducible exact ⟨cellB k1 hb2, cellB k2 hb2, cellB hcc hb2, cellB hcj hb2⟩) | (with_reducible exact ⟨cellB k1 hc3, cellB k2 hc3, cellB hcc hc3, cellB hcj hc3⟩) | assumption)
        (first
          | (go_at_call 48; refine (ints_same v2 _ row y2 hr2 ((HGI.out.below hb2).1)).mono ?_; rintro e y3 ⟨rfl, hq⟩; have hc3 := below_two hb2 (below_drawn hq); clear hq)
          | (go_at_call 37; (with_reducible refine (HJB.out wr.drew hA0).mono ?_); rintro e y2 ⟨v2, rfl, hr2, hf2, hb2⟩)
          | (go_at_call 38; (with_reducible refine (HCD.out wr.drew hA0).mono ?_); rintro e y1 ⟨rfl, rfl⟩)
          | fail)
      all_goals
        have HB3 := Lib.hid (below_two HB2.out hc3)
        clear k1 k2 hcc hcj hr2 hf2 hb2 hc3 hA0
        go_wp2
        go_roundw
        case rel => exact ⟨k + 1, hlt, by go_num, HB3.out⟩
        case measure => simp [intOf]; omega
    · obtain rfl : n0 = k := by omega
      have HB2 := Lib.hid (below_two HB.out (below_drew1 wr))
      have hbx := HBX.out.below HB2.out
      have k3 := hbx.cell (i := 3) (x := .slice a3 n3 c3) rfl
      have HGR := Lib.hid (HG.out.below HB2.out).r
      have hA0 := HB2.out
      clear hbx
      go_wp2
      go_region_held3 (fun w' => w'.cell? ⟨w.heap.size, 3, none⟩ = some (.slice a3 n3 c3))
        (first | (with_reducible exact k3) | (with_reducible exact cellB k3 hb2) | (with_reducible exact cellB k3 hc3) | assumption)
        (first
          | (go_at_call 48; refine (ints_same v2 _ s.R y2 hr2 ((HGR.out.below hb2).1)).mono ?_; rintro e y3 ⟨rfl, hq⟩; have hc3 := below_two hb2 (below_drawn hq); clear hq)
          | (go_at_call 35; refine (HRG.out wr.drew hA0).mono ?_; rintro e y2 ⟨v2, rfl, hr2, hf2, hb2⟩)
          | fail)
      all_goals
        have HE := Lib.hid (below_two HAL.out (below_two HB2.out hc3))
        clear k3 hr2 hf2 hb2 hc3 hA0
        go_wp2
        go_ret
        exact ⟨rfl, HE.out⟩
end Go.Proofs.Ytmgjmpmcadjemaa

/- Package drr: the reference's out. -/
import Derived.Test.YtmgjmpmcadjemaaDrrM
import Derived.Deep.RegionHeld3
import Derived.Deep.DeepCutAuto
namespace Go.Proofs.Ytmgjmpmcadjemaa
open Go.RowKit

theorem GI.imp {G G' : Nat → Prop} {w : World} {v : Value} {l : List Int} (h : GI G w v l) (hi : ∀ j, G j → G' j) : GI G' w v l := ⟨h.1, h.2.1, fun q g hg => hi g (h.2.2 q g hg)⟩
theorem GI.live {G : Nat → Prop} {w : World} {v : Value} {l : List Int} (h : GI G w v l) : GI (fun j => G j ∧ j < w.heap.size) w v l := ⟨h.1, h.2.1, fun q g hg => ⟨h.2.2 q g hg, rints_lt h.1 q g hg⟩⟩
theorem GJ.imp {G G' : Nat → Prop} {w : World} {v : Value} {J : List (List Int)} (h : GJ G w v J) (hi : ∀ j, G j → G' j) : GJ G' w v J := by
  obtain ⟨vs, h1, h2, h3⟩ := h.ex
  exact ⟨⟨vs, h1, h2, fun i vi l q1 q2 => (h3 i vi l q1 q2).imp hi⟩, fun q g hg => hi g (h.g q g hg)⟩
theorem GJ.live {G : Nat → Prop} {w : World} {v : Value} {J : List (List Int)} (h : GJ G w v J) : GJ (fun j => G j ∧ j < w.heap.size) w v J := by
  obtain ⟨vs, h1, h2, h3⟩ := h.ex
  refine ⟨⟨vs, h1, h2, fun i vi l q1 q2 => (h3 i vi l q1 q2).live⟩, fun q g hg => ⟨h.g q g hg, ?_⟩⟩
  obtain ⟨a, cap, rfl, q1, q2, q3⟩ := h2
  obtain ⟨b, off, rfl, hb, -⟩ := q3 q
  simp [Value.ownBlock] at hg
  omega
theorem GS.imp {G G' : Nat → Prop} {w : World} {vq vc vj vr : Value} {s : Sch} (h : GS G w vq vc vj vr s) (hi : ∀ j, G j → G' j) : GS G' w vq vc vj vr s := ⟨h.q.imp hi, h.c.imp hi, h.j.imp hi, h.r.imp hi⟩
theorem GS.live {G : Nat → Prop} {w : World} {vq vc vj vr : Value} {s : Sch} (h : GS G w vq vc vj vr s) : GS (fun j => G j ∧ j < w.heap.size) w vq vc vj vr s := ⟨h.q.live, h.c.live, h.j.live, h.r.live⟩
/-- new local blocks are none of a state's -/
theorem GS.off {G : Nat → Prop} {w w' : World} {vq vc vj vr : Value} {s : Sch} (h : GS G w vq vc vj vr s) (k : Below w.heap.size w w') (b : Nat) (hb : w.heap.size ≤ b) : GS (fun j => G j ∧ j ≠ b) w' vq vc vj vr s :=
  (h.live.below k).imp (fun j hj => ⟨hj.1, fun e => by have := hj.2; omega⟩)
/-- a row of numbers lies in no block of slices -/
theorem GI.noBox {G : Nat → Prop} {w : World} {v : Value} {l : List Int} {b : Nat} {xs : List Value} {t : TypeId} (h : GI G w v l) (hb : Blk w b xs t) (hx : ∀ x ∈ xs, ∀ k n, x ≠ .int k n) : GI (fun j => G j ∧ j ≠ b) w v l := by
  refine ⟨h.1, h.2.1, fun hn g hg => ⟨h.2.2 hn g hg, fun e => ?_⟩⟩
  obtain ⟨a, cap, rfl, -, -⟩ := h.1.shape
  obtain ⟨b2, off, x, rfl, -, hx2, hc, -, -⟩ := h.1.at hn
  simp [Value.ownBlock] at hg
  subst hg
  subst e
  unfold Blk at hb
  simp only [World.cell?, hb] at hc
  have h3 : xs[off + 0]? = some (.int .i64 x) := by simpa using hc
  exact hx _ (List.mem_of_getElem? h3) _ _ rfl
theorem noInt4 (n0 n1 n2 n3 c0 c1 c2 c3 : Nat) (a0 a1 a2 a3 : Option Addr) : ∀ x ∈ ([.slice a0 n0 c0, .slice a1 n1 c1, .slice a2 n2 c2, .slice a3 n3 c3] : List Value), ∀ k n, x ≠ .int k n := by
  intro x hx k n e
  subst e
  simp at hx
theorem GJ.noBox {G : Nat → Prop} {w : World} {v : Value} {J : List (List Int)} {b : Nat} {xs : List Value} {t : TypeId} (h : GJ G w v J) (hb : Blk w b xs t) (hx : ∀ x ∈ xs, ∀ k n, x ≠ .int k n) (hn : ∀ g, v.ownBlock = some g → g ≠ b) : GJ (fun j => G j ∧ j ≠ b) w v J := by
  obtain ⟨vs, h1, h2, h3⟩ := h.ex
  exact ⟨⟨vs, h1, h2, fun i vi l q1 q2 => (h3 i vi l q1 q2).noBox hb hx⟩, fun q g hg => ⟨h.g q g hg, hn g hg⟩⟩
theorem s0_noint : ∀ x ∈ S0, ∀ k n, x ≠ .int k n := by
  intro x hx k n e
  subst e
  simp [S0] at hx
theorem GJ.boxed {G : Nat → Prop} {w : World} {v a b c d : Value} {J : List (List Int)} {nb : Nat} (h : GJ G w v J) (hz : Blk w nb S0 67) (hn : ∀ g, v.ownBlock = some g → g ≠ nb) :
    GJ (fun j => G j ∧ j ≠ nb) ((((w.setCell ⟨nb, 0, none⟩ a).setCell ⟨nb, 1, none⟩ b).setCell ⟨nb, 2, none⟩ c).setCell ⟨nb, 3, none⟩ d) v J :=
  (h.noBox hz s0_noint hn).keep (keep4 a b c d) (fun j e q => q.2 e)
theorem GJ.newBox {G : Nat → Prop} {w : World} {v : Value} {J : List (List Int)} (h : GJ G w v J) (o : Obj) : GJ (fun j => G j ∧ j ≠ w.heap.size) (w.alloc o) v J :=
  (h.live.below (below_alloc w o)).imp (fun j hj => ⟨hj.1, Nat.ne_of_lt hj.2⟩)
theorem woL_erase {l : List Int} (h : l.Nodup) (n : Int) : woL l n = l.erase n := (erase_filter h).symm
def T4 (a b c d : Value) : List Value := [a, b, c, d]
theorem set4 {w : World} {rb : Nat} {xs : List Value} {t : TypeId} (a b c d : Value) (h : Blk w rb xs t) (hl : xs.length = 4) : Blk ((((w.setCell ⟨rb, 0, none⟩ a).setCell ⟨rb, 1, none⟩ b).setCell ⟨rb, 2, none⟩ c).setCell ⟨rb, 3, none⟩ d) rb [a, b, c, d] t := by
  match xs, hl with
  | [x, y, z, u], _ => exact (((h.set 0 a).set 1 b).set 2 c).set 3 d

set_option maxHeartbeats 8000000 in
set_option maxRecDepth 100000 in
theorem rout_any (G : Nat → Prop) (vq vc vj vr : Value) (s : Sch) (i : Nat) (job : Int) (w : World) (h : GS G w vq vc vj vr s) (hi : i < s.Q.length) (hlc : s.C.length = s.Q.length) (hlj : s.J.length = s.Q.length) (h16 : s.Q.length ≤ 16) (hjk : (s.J.getD i []).length ≤ 1000) (hrk : s.R.length ≤ 1000) (hjn : (s.J.getD i []).Nodup) (hrn : s.R.Nodup) (hG : ∀ j, w.heap.size ≤ j → G j) :
    Calls Try.prog 83 #[.agg #[vq, vc, vj, vr], .int .i64 (i : Int), .int .i64 job] w fun e w' => ∃ vc' vj' vr', e = .returned (.agg #[vq, vc', vj', vr']) ∧ GS G w' vq vc' vj' vr' (outM s i job) ∧ Below w.heap.size w w' := by
  have H := Lib.hid h
  obtain ⟨a0, c0, rfl, -, -⟩ := h.q.1.shape
  obtain ⟨a1, c1, rfl, -, -⟩ := h.c.1.shape
  obtain ⟨a2, c2, rfl, hc1, hc2⟩ := h.j.shape
  obtain ⟨a3, c3, rfl, -, -⟩ := h.r.1.shape
  obtain ⟨W1, hW1⟩ : ∃ z, (w.alloc (.cells #[.slice a0 s.Q.length c0, .slice a1 s.C.length c1, .slice a2 s.J.length c2, .slice a3 s.R.length c3] 67 (0, 0))).alloc (.cells #[.slice none 0 0, .slice none 0 0, .slice none 0 0, .slice none 0 0] 67 (0, 0)) = z := ⟨_, rfl⟩
  have HAL := Lib.hid (show Below w.heap.size w W1 by rw [← hW1]; exact alloc2 _ _ _)
  have HSZ := Lib.hid (show W1.heap.size = w.heap.size + 2 by rw [← hW1]; simp)
  have HBX := Lib.hid (show Blk W1 w.heap.size [.slice a0 s.Q.length c0, .slice a1 s.C.length c1, .slice a2 s.J.length c2, .slice a3 s.R.length c3] 67 by rw [← hW1]; exact blk1st _ _ _ _)
  have HRB := Lib.hid (show Blk W1 (w.heap.size + 1) S0 67 by rw [← hW1]; exact blk2nd _ _ _ _)
  have HGG := Lib.hid hG
  -- the state, off the result's block
  have HS1 := Lib.hid (h.off HAL.out (w.heap.size + 1) (by omega))
  have hiJ : i < s.J.length := by omega
  have hiC : i < s.C.length := by omega
  obtain ⟨bj, oj, cj', vi, hvv, hcj, hgi⟩ := HS1.out.j.at hiJ
  obtain ⟨rfl, rfl⟩ : a2 = some ⟨bj, oj, none⟩ ∧ c2 = cj' := by simpa using hvv
  obtain ⟨li, hli⟩ : ∃ z, s.J.getD i [] = z := ⟨_, rfl⟩
  rw [hli] at hgi hjk hjn
  obtain ⟨ai, ci, rfl, -, -⟩ := hgi.1.shape
  have HWO := Lib.hid (fun (W : World) (k : Below W1.heap.size W1 W) => wout_any (.slice ai li.length ci) li job W hjk (hgi.1.below k))
  rw [woL_erase hjn] at HWO
  have HWR := Lib.hid (fun (W : World) (k : Below W1.heap.size W1 W) => wout_any (.slice a3 s.R.length c3) s.R (i : Int) W hrk ((HS1.out.below k).r.1))
  rw [woL_erase hrn] at HWR
  obtain ⟨le, hle⟩ : ∃ z, li.erase job = z := ⟨_, rfl⟩
  rw [hle] at HWO
  have HJ := Lib.hid (fun (W : World) (k : Below W1.heap.size W1 W) (vn : Value) (hv : GI (fun j => G j ∧ j ≠ w.heap.size + 1) W vn le) => rjobs_any (fun j => G j ∧ j ≠ w.heap.size + 1) _ _ _ _ vn s i le W (HS1.out.below k) hv hiJ (by omega) (fun j hj => ⟨hG j (by have := k.size; have := HSZ.out; omega), by have := k.size; have := HSZ.out; omega⟩))
  have hii : (i : Int) < (s.J.length : Int) := by omega
  have hi0 : (0 : Int) ≤ (i : Int) := by omega
  have HLE := Lib.hid (show (s.J.getD i []).erase job = le by rw [hli, hle])
  have k0 := HBX.out.cell (i := 0) (x := .slice a0 s.Q.length c0) rfl
  have k1 := HBX.out.cell (i := 1) (x := .slice a1 s.C.length c1) rfl
  have k2 := HBX.out.cell (i := 2) (x := .slice (some ⟨bj, oj, none⟩) s.J.length c2) rfl
  have k3 := HBX.out.cell (i := 3) (x := .slice a3 s.R.length c3) rfl
  have HLC := Lib.hid hlc
  have HLJ := Lib.hid hlj
  have HW1 := Lib.hid hW1
  clear h hG hvv hgi hli hle hjk hjn hrn hlc hlj hW1
  go_enter Try.func83, Try.ntmps83
  have hA0 := below_two (below_alloc W1 (.cells #[.slice none 0 0, .slice none 0 0, .slice none 0 0, .slice none 0 0] 67 (0, 0))) (below_drew1 _)
  have hFR : ∀ (X y : World) (v : Value), RInts y v le → NilOk v → FreshV W1.heap.size v → GI (fun j => G j ∧ j ≠ w.heap.size + 1) y v le := fun X y v h1 h2 h3 => GI.fresh h1 h2 h3 (fun j hj => ⟨HGG.out j (by have h5 : W1.heap.size ≤ j := hj; have := HSZ.out; omega), by have h5 : W1.heap.size ≤ j := hj; have := HSZ.out; omega⟩)
  go_upto_region 1 with fail
  rw [HW1.out]
  clear HW1
  go_cut [7] (fun s7 wx => ∃ (nb : Nat) (a2n : Option Addr) (c2n : Nat), s7 = .pointer (some ⟨nb, 0, none⟩) ∧ W1.heap.size ≤ nb ∧ Hid (Blk wx nb [.slice a0 s.Q.length c0, .slice a1 s.C.length c1, .slice a2n s.J.length c2n, .slice a3 s.R.length c3] 67) ∧ Hid (GJ (fun j => (G j ∧ j ≠ w.heap.size + 1) ∧ j ≠ nb) wx (.slice a2n s.J.length c2n) (s.J.set i le)) ∧ Hid (Below W1.heap.size W1 wx))
  case first =>
    go_region_held3 (fun w' => w'.cell? ⟨w.heap.size, 0, none⟩ = some (.slice a0 s.Q.length c0) ∧ w'.cell? ⟨w.heap.size, 1, none⟩ = some (.slice a1 s.C.length c1) ∧ w'.cell? ⟨w.heap.size, 2, none⟩ = some (.slice (some ⟨bj, oj, none⟩) s.J.length c2) ∧ w'.cell? ⟨w.heap.size, 3, none⟩ = some (.slice a3 s.R.length c3) ∧ w'.cell? ⟨bj, oj + i, none⟩ = some (.slice ai li.length ci))
      (first
        | (with_reducible exact ⟨k0, k1, k2, k3, hcj⟩)
        | (with_reducible exact ⟨cellB k0 (below_drew1 W1), cellB k1 (below_drew1 W1), cellB k2 (below_drew1 W1), cellB k3 (below_drew1 W1), cellB hcj (below_drew1 W1)⟩)
        | (with_reducible exact ⟨cellB k0 hA1, cellB k1 hA1, cellB k2 hA1, cellB k3 hA1, cellB hcj hA1⟩)
        | (with_reducible exact ⟨cellB k0 hA2, cellB k1 hA2, cellB k2 hA2, cellB k3 hA2, cellB hcj hA2⟩)
        | (with_reducible exact ⟨cellB k0 hP2, cellB k1 hP2, cellB k2 hP2, cellB k3 hP2, cellB hcj hP2⟩)
        | (with_reducible exact ⟨cellB k0 hA0, cellB k1 hA0, cellB k2 hA0, cellB k3 hA0, cellB hcj hA0⟩)
        | (with_reducible exact ⟨cellB k0 (below_two hA1 (below_alloc y1 _)), cellB k1 (below_two hA1 (below_alloc y1 _)), cellB k2 (below_two hA1 (below_alloc y1 _)), cellB k3 (below_two hA1 (below_alloc y1 _)), cellB hcj (below_two hA1 (below_alloc y1 _))⟩)
        | (with_reducible exact ⟨cellB k0 (below_two hA2 (below_alloc y2 _)), cellB k1 (below_two hA2 (below_alloc y2 _)), cellB k2 (below_two hA2 (below_alloc y2 _)), cellB k3 (below_two hA2 (below_alloc y2 _)), cellB hcj (below_two hA2 (below_alloc y2 _))⟩)
        | assumption
        | go_keep)
      (first
        | (go_at_call 91; (with_reducible refine (HWO.out ((W1.alloc (.cells #[.slice none 0 0, .slice none 0 0, .slice none 0 0, .slice none 0 0] 67 (0, 0))).drew) hA0).mono ?_); rintro e y1 ⟨v1, rfl, hr1, hz1, hf1, hb1⟩; obtain ⟨a1n, c1n, rfl, -, -⟩ := hr1.shape; have hA1 := below_two hA0 hb1; have hG1 := hFR W1.drew y1 _ hr1 hz1 (fun g hg => Nat.le_trans hA0.size (hf1 g hg)); have hZ := ((Blk.new W1 S0 67).below (below_drew1 _)).below hb1)
        | (go_at_call 91; (with_reducible refine (HWO.out W1.drew (below_drew1 W1)).mono ?_); rintro e y1 ⟨v1, rfl, hr1, hz1, hf1, hb1⟩; obtain ⟨a1n, c1n, rfl, -, -⟩ := hr1.shape; have hA1 := below_two (below_drew1 W1) hb1; have hG1 := hFR W1.drew y1 _ hr1 hz1 hf1)
        | (go_at_call 80; (with_reducible refine (HJ.out y1 hA1 _ hG1).mono ?_); rintro e y2 ⟨v2, rfl, hgj, hfv, hb2⟩; obtain ⟨a2n, c2n, rfl, -, -⟩ := hgj.shape; rw [List.length_set] at hgj hfv; have hA2 := below_two hA1 hb2; have hZ2 := hZ.below hb2; have hP2 := hA2.trans ((keep4 (w := y2) (rb := W1.heap.size) (.slice a0 s.Q.length c0) (.slice a1 s.C.length c1) (.slice a2n s.J.length c2n) (.slice a3 s.R.length c3)).below (B := W1.heap.size) hA2.size (fun j hj e => absurd (show j = W1.heap.size from e) (Nat.ne_of_lt hj))); have e0 := hZ2.cell (i := 0) (x := .slice none 0 0) rfl; have e1 := hZ2.cell (i := 1) (x := .slice none 0 0) rfl; have e2 := hZ2.cell (i := 2) (x := .slice none 0 0) rfl; have e3 := hZ2.cell (i := 3) (x := .slice none 0 0) rfl; have g0 := hZ2.free 0; have g1 := hZ2.free 1; have g2 := hZ2.free 2; have g3 := hZ2.free 3)
        | (go_at_call 80; (with_reducible refine (HJ.out (y1.alloc (.cells #[.slice none 0 0, .slice none 0 0, .slice none 0 0, .slice none 0 0] 67 (0, 0))) (below_two hA1 (below_alloc y1 _)) _ (hG1.below (below_alloc y1 _))).mono ?_); rintro e y2 ⟨v2, rfl, hgj, hfv, hb2⟩; obtain ⟨a2n, c2n, rfl, -, -⟩ := hgj.shape; rw [List.length_set] at hgj hfv; have hA2 := below_two (below_two hA1 (below_alloc y1 _)) hb2; have hP2 := hA2.trans ((keep4 (w := y2) (rb := y1.heap.size) (.slice a0 s.Q.length c0) (.slice a1 s.C.length c1) (.slice a2n s.J.length c2n) (.slice a3 s.R.length c3)).below (B := W1.heap.size) hA2.size (fun j hj e => absurd (show j = y1.heap.size from e) (Nat.ne_of_lt (Nat.lt_of_lt_of_le hj hA1.size)))); have hZ2 := (Blk.new y1 S0 67).below hb2; have e0 := hZ2.cell (i := 0) (x := .slice none 0 0) rfl; have e1 := hZ2.cell (i := 1) (x := .slice none 0 0) rfl; have e2 := hZ2.cell (i := 2) (x := .slice none 0 0) rfl; have e3 := hZ2.cell (i := 3) (x := .slice none 0 0) rfl; have g0 := hZ2.free 0; have g1 := hZ2.free 1; have g2 := hZ2.free 2; have g3 := hZ2.free 3)
        | (go_at_call 80; (with_reducible refine (HJ.out y1 hA1 _ hG1).mono ?_); rintro e y2 ⟨v2, rfl, hgj, hfv, hb2⟩; obtain ⟨a2n, c2n, rfl, -, -⟩ := hgj.shape; rw [List.length_set] at hgj hfv; have hA2 := below_two hA1 hb2)
        | fail)
    · go_wp2_with fail
      go_meet
      exact ⟨y2.heap.size, a2n, c2n, rfl, hA2.size, Blk.new y2 _ _, hgj.newBox _, below_two hA2 (below_alloc y2 _)⟩
    · go_wp2_with fail
      go_meet
      exact ⟨y1.heap.size, a2n, c2n, rfl, hA1.size, set4 _ _ _ _ hZ2 rfl, hgj.boxed hZ2 (fun g hg => Nat.ne_of_gt (Nat.lt_of_lt_of_le (Blk.new y1 S0 67).lt (hfv g hg))), hP2⟩
    · go_wp2_with fail
      go_meet
      exact ⟨W1.heap.size, a2n, c2n, rfl, Nat.le_refl _, set4 _ _ _ _ hZ2 rfl, hgj.boxed hZ2 (fun g hg => Nat.ne_of_gt (Nat.lt_of_lt_of_le hZ.lt (hfv g hg))), hP2⟩
  case rest =>
    obtain ⟨nb, a2n, c2n, rfl, hnb, hbk, hgj, hbw⟩ := hcut
    have HBK := Lib.hid hbk.out
    have HGJ := Lib.hid hgj.out
    have HBW := Lib.hid hbw.out
    clear hbk hgj hbw
    have HRBc := Lib.hid (HRB.out.below HBW.out)
    have hiJ2 : i < (s.J.set i le).length := by rw [List.length_set]; exact hiJ
    obtain ⟨bn, on, cn', vn, hvv, hcn, hgn⟩ := HGJ.out.at hiJ2
    rw [List.length_set] at hvv
    obtain ⟨rfl, rfl⟩ : a2n = some ⟨bn, on, none⟩ ∧ c2n = cn' := by simpa using hvv
    rw [getD_set_eq hiJ] at hgn
    obtain ⟨an, cn, rfl, -, -⟩ := hgn.1.shape
    have n0 := HBK.out.cell (i := 0) (x := .slice a0 s.Q.length c0) rfl
    have n1 := HBK.out.cell (i := 1) (x := .slice a1 s.C.length c1) rfl
    have n2 := HBK.out.cell (i := 2) (x := .slice (some ⟨bn, on, none⟩) s.J.length c2n) rfl
    have n3 := HBK.out.cell (i := 3) (x := .slice a3 s.R.length c3) rfl
    have r0 := HRBc.out.cell (i := 0) (x := .slice none 0 0) rfl
    have r1 := HRBc.out.cell (i := 1) (x := .slice none 0 0) rfl
    have r2 := HRBc.out.cell (i := 2) (x := .slice none 0 0) rfl
    have r3 := HRBc.out.cell (i := 3) (x := .slice none 0 0) rfl
    have s0 := HRBc.out.free 0
    have s1 := HRBc.out.free 1
    have s2 := HRBc.out.free 2
    have s3 := HRBc.out.free 3
    clear hvv hgn
    by_cases he : le = []
    · have hN : le.length = 0 := by rw [he]; rfl
      have hNi : ((le.length : Int) == 0) = true := by rw [hN]; rfl
      subst he
      have HRE := Lib.hid (show ∃ re, s.R.erase (i : Int) = re from ⟨_, rfl⟩)
      obtain ⟨re, hre⟩ := HRE.out
      have HRR := Lib.hid hre
      rw [hre] at HWR
      have HOM := Lib.hid (show outM s i job = { s with C := s.C.set i 0, J := s.J.set i [], R := re } by
        unfold outM
        rw [HLE.out, if_pos rfl, hre])
      have HSN := Lib.hid (show GS (fun j => (G j ∧ j ≠ w.heap.size + 1) ∧ j ≠ nb) wc (.slice a0 s.Q.length c0) (.slice a1 s.C.length c1) (.slice (some ⟨bn, on, none⟩) s.J.length c2n) (.slice a3 s.R.length c3) { s with J := s.J.set i [] } by
        have h1 := HS1.out.off HBW.out nb hnb
        exact ⟨h1.q, h1.c, HGJ.out, h1.r⟩)
      have hC16 : s.C.length ≤ 1000 := by have := HLC.out; omega
      have hHG : ∀ j, wc.drew.heap.size ≤ j → (G j ∧ j ≠ w.heap.size + 1) ∧ j ≠ nb := fun j hj => by
        have h1 := HBW.out.size
        have h2 := HBK.out.lt
        have h3 := HSZ.out
        have h4 : wc.heap.size ≤ j := hj
        exact ⟨⟨HGG.out j (by omega), by omega⟩, by omega⟩
      have HCR := Lib.hid (rcredit_any (fun j => (G j ∧ j ≠ w.heap.size + 1) ∧ j ≠ nb) _ _ _ _ { s with J := s.J.set i [] } i 0 wc.drew (HSN.out.below (below_drew1 wc)) hiC hC16 (by decide) (by decide) hHG)
      have hBW := HBW.out
      have b3 := cellB k3 hBW
      have hJl : (s.J.set i []).length = s.J.length := List.length_set
      have HJL := Lib.hid hJl
      dsimp only at HCR
      clear hJl
      have hcn0 : wc.cell? ⟨bn, on + i, none⟩ = some (.slice an 0 cn) := hcn
      clear hre hcn hN hNi r0 r1 r2 r3 s0 s1 s2 s3
      go_wp2
      go_region_with (first
          | (go_at_call 85; (with_reducible refine HCR.out.mono ?_); rintro e y3 ⟨v3, rfl, hg3, hb3⟩; obtain ⟨a3n, c3n, rfl, -, -⟩ := hg3.1.shape; rw [List.length_set] at hg3; have hA3 := below_two hBW (below_two (below_drew1 wc) hb3); have b3y := cellB k3 hA3)
          | (go_at_call 91; (with_reducible refine (HWR.out y3 hA3).mono ?_); rintro e y4 ⟨v4, rfl, hr4, hz4, hf4, hb4⟩; obtain ⟨a4n, c4n, rfl, -, -⟩ := hr4.shape; have hA4 := below_two hA3 hb4)
          | (go_at_call 82; (with_reducible refine (rring_any y4 _ _ _ _ _ _ _ _ _ _ _ _ _ _ _).mono ?_); rintro e y5 ⟨rfl, hb5⟩; have hA5 := below_two hA4 hb5; have hN5 := ((((HBK.out.below (below_drew1 wc)).below hb3).below hb4).below hb5); have e0 := hN5.cell (i := 0) (x := .slice a0 s.Q.length c0) rfl; have e1 := hN5.cell (i := 1) (x := .slice a1 s.C.length c1) rfl; have e2 := hN5.cell (i := 2) (x := .slice (some ⟨bn, on, none⟩) s.J.length c2n) rfl; have e3 := hN5.cell (i := 3) (x := .slice a3 s.R.length c3) rfl; have g0 := hN5.free 0; have g1 := hN5.free 1; have g2 := hN5.free 2; have g3 := hN5.free 3; have hP5 := hA5.trans ((keep4 (w := y5) (rb := nb) (.slice a0 s.Q.length c0) (.slice a3n s.C.length c3n) (.slice (some ⟨bn, on, none⟩) s.J.length c2n) (.slice a4n re.length c4n)).below (B := W1.heap.size) hA5.size (fun j hj e => absurd (show j = nb from e) (Nat.ne_of_lt (Nat.lt_of_lt_of_le hj hnb)))))
          | fail)
      all_goals
        have hNN := set4 (.slice a0 s.Q.length c0) (.slice a3n s.C.length c3n) (.slice (some ⟨bn, on, none⟩) s.J.length c2n) (.slice a4n re.length c4n) hN5 rfl
        have HKN := Lib.hid (keep4 (w := y5) (rb := nb) (.slice a0 s.Q.length c0) (.slice a3n s.C.length c3n) (.slice (some ⟨bn, on, none⟩) s.J.length c2n) (.slice a4n re.length c4n))
        have n0 := hNN.cell (i := 0) (x := .slice a0 s.Q.length c0) rfl
        have n1 := hNN.cell (i := 1) (x := .slice a3n s.C.length c3n) rfl
        have n2 := hNN.cell (i := 2) (x := .slice (some ⟨bn, on, none⟩) s.J.length c2n) rfl
        have n3 := hNN.cell (i := 3) (x := .slice a4n re.length c4n) rfl
        have hRBn := HRB.out.below hP5
        have r0 := hRBn.cell (i := 0) (x := .slice none 0 0) rfl
        have r1 := hRBn.cell (i := 1) (x := .slice none 0 0) rfl
        have r2 := hRBn.cell (i := 2) (x := .slice none 0 0) rfl
        have r3 := hRBn.cell (i := 3) (x := .slice none 0 0) rfl
        have s0 := hRBn.free 0
        have s1 := hRBn.free 1
        have s2 := hRBn.free 2
        have s3 := hRBn.free 3
        have HFG := Lib.hid (show GS (fun j => (G j ∧ j ≠ w.heap.size + 1) ∧ j ≠ nb) ((((y5.setCell ⟨nb, 0, none⟩ (.slice a0 s.Q.length c0)).setCell ⟨nb, 1, none⟩ (.slice a3n s.C.length c3n)).setCell ⟨nb, 2, none⟩ (.slice (some ⟨bn, on, none⟩) s.J.length c2n)).setCell ⟨nb, 3, none⟩ (.slice a4n re.length c4n)) (.slice a0 s.Q.length c0) (.slice a3n s.C.length c3n) (.slice (some ⟨bn, on, none⟩) s.J.length c2n) (.slice a4n re.length c4n) (outM s i job) by
          rw [HOM.out]
          have hc5 := below_two (below_drew1 wc) (below_two hb3 (below_two hb4 hb5))
          have hf : ∀ j, y3.heap.size ≤ j → (G j ∧ j ≠ w.heap.size + 1) ∧ j ≠ nb := fun j hj => hHG j (Nat.le_trans hb3.size hj)
          have h1 : GS (fun j => (G j ∧ j ≠ w.heap.size + 1) ∧ j ≠ nb) y5 (.slice a0 s.Q.length c0) (.slice a3n s.C.length c3n) (.slice (some ⟨bn, on, none⟩) s.J.length c2n) (.slice a4n re.length c4n) { s with C := s.C.set i 0, J := s.J.set i [], R := re } := ⟨HSN.out.q.below hc5, hg3.below (below_two hb4 hb5), HSN.out.j.below hc5, (GI.fresh hr4 hz4 hf4 hf).below hb5⟩
          exact h1.keep HKN.out (fun j e q => q.2 e))
        have HBF := Lib.hid (show Below w.heap.size w ((((y5.setCell ⟨nb, 0, none⟩ (.slice a0 s.Q.length c0)).setCell ⟨nb, 1, none⟩ (.slice a3n s.C.length c3n)).setCell ⟨nb, 2, none⟩ (.slice (some ⟨bn, on, none⟩) s.J.length c2n)).setCell ⟨nb, 3, none⟩ (.slice a4n re.length c4n)) from HAL.out.trans (hP5.mono (by have := HSZ.out; omega)))
        have HRBn := Lib.hid hRBn
        obtain ⟨w6, hw6⟩ : ∃ z, ((((y5.setCell ⟨nb, 0, none⟩ (.slice a0 s.Q.length c0)).setCell ⟨nb, 1, none⟩ (.slice a3n s.C.length c3n)).setCell ⟨nb, 2, none⟩ (.slice (some ⟨bn, on, none⟩) s.J.length c2n)).setCell ⟨nb, 3, none⟩ (.slice a4n re.length c4n)) = z := ⟨_, rfl⟩
        rw [hw6] at HFG HBF HRBn n0 n1 n2 n3 r0 r1 r2 r3 s0 s1 s2 s3 ⊢
        have HF4 := Lib.hid (set4 (.slice a0 s.Q.length c0) (.slice a3n s.C.length c3n) (.slice (some ⟨bn, on, none⟩) s.J.length c2n) (.slice a4n re.length c4n) HRBn.out rfl)
        have HK4 := Lib.hid (keep4 (w := w6) (rb := w.heap.size + 1) (.slice a0 s.Q.length c0) (.slice a3n s.C.length c3n) (.slice (some ⟨bn, on, none⟩) s.J.length c2n) (.slice a4n re.length c4n))
        clear hw6 hNN hRBn e0 e1 e2 e3 g0 g1 g2 g3 hN5 hg3 hr4 hz4 hf4 hb3 hb4 hb5 hA3 hA4 hA5 hP5 HKN HRBn HCR HWR HSN b3
        go_wp2
        obtain ⟨w5, hw5⟩ : ∃ z, ((((w6.setCell ⟨w.heap.size + 1, 0, none⟩ (.slice a0 s.Q.length c0)).setCell ⟨w.heap.size + 1, 1, none⟩ (.slice a3n s.C.length c3n)).setCell ⟨w.heap.size + 1, 2, none⟩ (.slice (some ⟨bn, on, none⟩) s.J.length c2n)).setCell ⟨w.heap.size + 1, 3, none⟩ (.slice a4n re.length c4n)) = z := ⟨_, rfl⟩
        rw [hw5] at HF4 HK4 ⊢
        have y0 := HF4.out.cell (i := 0) (x := .slice a0 s.Q.length c0) rfl
        have y1 := HF4.out.cell (i := 1) (x := .slice a3n s.C.length c3n) rfl
        have y2 := HF4.out.cell (i := 2) (x := .slice (some ⟨bn, on, none⟩) s.J.length c2n) rfl
        have y3 := HF4.out.cell (i := 3) (x := .slice a4n re.length c4n) rfl
        refine bodyPost_ret (v := .agg #[.slice a0 s.Q.length c0, .slice a3n s.C.length c3n, .slice (some ⟨bn, on, none⟩) s.J.length c2n, .slice a4n re.length c4n]) (by simp [results, Try.results83, go_sem, y0, y1, y2, y3]) rfl ?_
        exact ⟨_, _, _, rfl, (HFG.out.keep HK4.out (fun j e q => q.1.2 e)).imp (fun j hj => hj.1.1), HBF.out.trans (HK4.out.below (B := w.heap.size) HBF.out.size (fun j hj e => by have e' : j = w.heap.size + 1 := e; omega))⟩
    · have hN : le.length ≠ 0 := fun e => he (List.length_eq_zero_iff.1 e)
      have hOM := Lib.hid (show outM s i job = { s with J := s.J.set i le } by unfold outM; rw [HLE.out, if_neg he])
      obtain ⟨N, hNN⟩ : ∃ z, le.length = z := ⟨_, rfl⟩
      rw [hNN] at hcn hN
      have hNi : ((N : Int) == 0) = false := beq_eq_false_iff_ne.2 (by omega)
      have HFG := Lib.hid (show GS G wc (.slice a0 s.Q.length c0) (.slice a1 s.C.length c1) (.slice (some ⟨bn, on, none⟩) s.J.length c2n) (.slice a3 s.R.length c3) (outM s i job) ∧ GS (fun j => G j ∧ j ≠ w.heap.size + 1) wc (.slice a0 s.Q.length c0) (.slice a1 s.C.length c1) (.slice (some ⟨bn, on, none⟩) s.J.length c2n) (.slice a3 s.R.length c3) (outM s i job) by
        rw [hOM.out]
        have h1 : GS (fun j => G j ∧ j ≠ w.heap.size + 1) wc (.slice a0 s.Q.length c0) (.slice a1 s.C.length c1) (.slice (some ⟨bn, on, none⟩) s.J.length c2n) (.slice a3 s.R.length c3) { s with J := s.J.set i le } := ⟨(HS1.out.q.below HBW.out), (HS1.out.c.below HBW.out), HGJ.out.imp (fun j hj => hj.1), (HS1.out.r.below HBW.out)⟩
        exact ⟨h1.imp (fun j hj => hj.1), h1⟩)
      have HF4 := Lib.hid (set4 (.slice a0 s.Q.length c0) (.slice a1 s.C.length c1) (.slice (some ⟨bn, on, none⟩) s.J.length c2n) (.slice a3 s.R.length c3) HRBc.out rfl)
      have HK4 := Lib.hid (keep4 (w := wc) (rb := w.heap.size + 1) (.slice a0 s.Q.length c0) (.slice a1 s.C.length c1) (.slice (some ⟨bn, on, none⟩) s.J.length c2n) (.slice a3 s.R.length c3))
      have HBF := Lib.hid (show Below w.heap.size w wc from HAL.out.trans (HBW.out.mono (by have := HSZ.out; omega)))
      clear he hNN hN HRBc
      go_wp2
      obtain ⟨w5, hw5⟩ : ∃ z, ((((wc.setCell ⟨w.heap.size + 1, 0, none⟩ (.slice a0 s.Q.length c0)).setCell ⟨w.heap.size + 1, 1, none⟩ (.slice a1 s.C.length c1)).setCell ⟨w.heap.size + 1, 2, none⟩ (.slice (some ⟨bn, on, none⟩) s.J.length c2n)).setCell ⟨w.heap.size + 1, 3, none⟩ (.slice a3 s.R.length c3)) = z := ⟨_, rfl⟩
      rw [hw5] at HF4 HK4 ⊢
      have y0 := HF4.out.cell (i := 0) (x := .slice a0 s.Q.length c0) rfl
      have y1 := HF4.out.cell (i := 1) (x := .slice a1 s.C.length c1) rfl
      have y2 := HF4.out.cell (i := 2) (x := .slice (some ⟨bn, on, none⟩) s.J.length c2n) rfl
      have y3 := HF4.out.cell (i := 3) (x := .slice a3 s.R.length c3) rfl
      refine bodyPost_ret (v := .agg #[.slice a0 s.Q.length c0, .slice a1 s.C.length c1, .slice (some ⟨bn, on, none⟩) s.J.length c2n, .slice a3 s.R.length c3]) (by simp [results, Try.results83, go_sem, y0, y1, y2, y3]) rfl ?_
      exact ⟨_, _, _, rfl, (HFG.out.2.keep HK4.out (fun j e q => q.2 e)).imp (fun j hj => hj.1), HBF.out.trans (HK4.out.below (B := w.heap.size) HBF.out.size (fun j hj e => by have e' : j = w.heap.size + 1 := e; omega))⟩
end Go.Proofs.Ytmgjmpmcadjemaa

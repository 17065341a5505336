/- Package drr: the law DrrActs walked. -/
import Derived.Test.YtmgjmpmcadjemaaDrrI
import Derived.Test.YtmgjmpmcadjemaaDrrWb
import Derived.Test.YtmgjmpmcadjemaaDrrV
namespace Go.Proofs.Ytmgjmpmcadjemaa
open Go.RowKit

/-- within the law: the scheduler, the state in its box -/
structure LB (B b7 p rq : Nat) (vt : Value) (tb qb : Nat → Nat) (vq vc vj vr : Value) (s : Sch) (Q : List Int) (K : Nat) (ow : Nat → Nat) (w0 w : World) : Prop where
  ls : LS B (fun j => j ≠ b7) p rq vt tb qb vq vc vj vr s s ow w
  ok : Ok K s
  q : s.Q = Q
  bx : Blk w b7 [vq, vc, vj, vr] 67
  zr : ow b7 = 0
  lo : B ≤ b7
  sz : B ≤ w.heap.size
  bel : Below B w0 w
section
variable {B b7 p rq : Nat} {vt : Value} {tb qb : Nat → Nat} {vq vc vj vr : Value} {s : Sch} {Q : List Int} {K : Nat} {ow : Nat → Nat} {w0 w w' : World}
theorem LB.below (h : LB B b7 p rq vt tb qb vq vc vj vr s Q K ow w0 w) (k : Below w.heap.size w w') : LB B b7 p rq vt tb qb vq vc vj vr s Q K ow w0 w' :=
  ⟨h.ls.below k, h.ok, h.q, h.bx.below k, h.zr, h.lo, Nat.le_trans h.sz k.size, h.bel.trans (below_of k h.sz)⟩
theorem LB.act {vc' vj' vr' : Value} {s' : Sch} {ow' : Nat → Nat} (h : LB B b7 p rq vt tb qb vq vc vj vr s Q K ow w0 w) (hl : LS B (fun j => j ≠ b7) p rq vt tb qb vq vc' vj' vr' s' s' ow' w') (ok : Ok (K + 1) s') (hq : s'.Q = s.Q) (f : Fr ow ow' w w') :
    LS B (fun j => j ≠ b7) p rq vt tb qb vq vc' vj' vr' s' s' ow' w' ∧ Ok (K + 1) s' ∧ s'.Q = Q ∧ Blk w' b7 [vq, vc, vj, vr] 67 ∧ ow' b7 = 0 ∧ B ≤ w'.heap.size ∧ Below B w0 w' :=
  ⟨hl, ok, hq.trans h.q, (f.blk h.bx h.zr).1, (f.blk h.bx h.zr).2, Nat.le_trans h.sz f.1.size, h.bel.trans (f.below h.ls.d.lo h.sz)⟩
/-- behind an act, before the state is stored -/
structure LA (B b7 p rq : Nat) (vt : Value) (tb qb : Nat → Nat) (vq uc uj ur vc vj vr : Value) (s : Sch) (Q : List Int) (K : Nat) (ow : Nat → Nat) (w0 w : World) : Prop where
  ls : LS B (fun j => j ≠ b7) p rq vt tb qb vq vc vj vr s s ow w
  ok : Ok K s
  q : s.Q = Q
  bx : Blk w b7 [vq, uc, uj, ur] 67
  zr : ow b7 = 0
  lo : B ≤ b7
  sz : B ≤ w.heap.size
  bel : Below B w0 w
theorem LB.acted {vc' vj' vr' : Value} {s' : Sch} {ow' : Nat → Nat} (h : LB B b7 p rq vt tb qb vq vc vj vr s Q K ow w0 w) (hl : LS B (fun j => j ≠ b7) p rq vt tb qb vq vc' vj' vr' s' s' ow' w') (ok : Ok (K + 1) s') (hq : s'.Q = s.Q) (f : Fr ow ow' w w') :
    LA B b7 p rq vt tb qb vq vc vj vr vc' vj' vr' s' Q (K + 1) ow' w0 w' :=
  ⟨hl, ok, hq.trans h.q, (f.blk h.bx h.zr).1, (f.blk h.bx h.zr).2, h.lo, Nat.le_trans h.sz f.1.size, h.bel.trans (f.below h.ls.d.lo h.sz)⟩
variable {uc uj ur : Value}
theorem LA.below (h : LA B b7 p rq vt tb qb vq uc uj ur vc vj vr s Q K ow w0 w) (k : Below w.heap.size w w') : LA B b7 p rq vt tb qb vq uc uj ur vc vj vr s Q K ow w0 w' :=
  ⟨h.ls.below k, h.ok, h.q, h.bx.below k, h.zr, h.lo, Nat.le_trans h.sz k.size, h.bel.trans (below_of k h.sz)⟩
theorem LA.store (h : LA B b7 p rq vt tb qb vq uc uj ur vc vj vr s Q K ow w0 w) :
    LB B b7 p rq vt tb qb vq vc vj vr s Q K ow w0 ((((w.setCell ⟨b7, 0, none⟩ vq).setCell ⟨b7, 1, none⟩ vc).setCell ⟨b7, 2, none⟩ vj).setCell ⟨b7, 3, none⟩ vr) := by
  have hk := keep4 (w := w) (rb := b7) vq vc vj vr
  have hl := h.lo
  exact ⟨h.ls.keep hk (fun j e => by have e' : j = b7 := e; subst e'; exact ⟨h.zr, fun q => q rfl⟩), h.ok, h.q, set4 vq vc vj vr h.bx rfl, h.zr, h.lo, Nat.le_trans h.sz hk.size,
    h.bel.trans (hk.below (B := B) h.sz (fun j hj e => absurd (show j = b7 from e) (by omega)))⟩
end
theorem goodD_below {w w' : World} {x : DA} (h : goodD w x) (k : Below w.heap.size w w') : goodD w' x := ⟨h.kind, h.ten, h.job, h.bud, h.used, h.left.below k⟩
/-- a first state -/
theorem lb_start {B p rq : Nat} {vt : Value} {tb qb : Nat → Nat} {vq vc vj vr : Value} {s : Sch} {Q : List Int} {ow : Nat → Nat} {w0 w1 w2 : World}
    (hB : B ≤ w1.heap.size) (d : DAt ow B w1 p rq vt tb qb s) (hz : ∀ j, w1.heap.size ≤ j → ow j = 0) (hb1 : Below B w0 w1) (g : GS (fun j => ow j = 0) w2 vq vc vj vr s) (hb2 : Below w1.heap.size w1 w2) (ok : Ok 0 s) (hq : s.Q = Q) :
    LB B w2.heap.size p rq vt tb qb vq vc vj vr s Q 0 ow w0 (w2.alloc (.cells #[vq, vc, vj, vr] 67 (0, 0))) := by
  have ha := below_alloc w2 (.cells #[vq, vc, vj, vr] 67 (0, 0))
  have hs := hb2.size
  have hsa : (w2.alloc (.cells #[vq, vc, vj, vr] 67 (0, 0))).heap.size = w2.heap.size + 1 := by simp
  exact ⟨⟨(d.below hb2).below ha, g.off ha _ (Nat.le_refl _), fun j hj => hz j (by omega), fun j hj => by omega⟩, ok, hq, Blk.new w2 [vq, vc, vj, vr] _, hz _ hs, by omega, by omega, hb1.trans (below_of (below_two hb2 ha) hB)⟩

set_option maxHeartbeats 16000000 in
set_option maxRecDepth 100000 in
theorem lawDrrActs {vq va : Value} {Q : List Int} {l : List DA} {w : World} (hq : RInts w vq Q) (hva : RS w va l encD 7 (goodD w)) :
    Calls Try.prog 7 #[vq, va] w fun e w' => e = .returned (.bool true) ∧ Below w.heap.size w w' := by
  have HLT := Lib.hid two_any
  have HVQ := Lib.hid hq
  have HVA := Lib.hid hva
  obtain ⟨aq, cq, rfl, hcq1, hcq2⟩ := hq.shape
  obtain ⟨aa, ca, rfl, hca1, hca2⟩ := hva.shape
  by_cases h60 : 60 < l.length
  · have t1 : decide (60 < l.length) = true := decide_eq_true h60
    have t1' : decide ((60 : Int) < (l.length : Int)) = true := decide_eq_true (by omega)
    clear hq hva h60
    go_enter Try.func7, Try.ntmps7
    go_wp2_with fail
    refine (HLT.out _).mono ?_
    rintro e w1 ⟨rfl, hb⟩
    go_wp2
    go_ret
    exact ⟨rfl, hb⟩
  have t1 : decide (60 < l.length) = false := decide_eq_false h60
  have t1' : decide ((60 : Int) < (l.length : Int)) = false := decide_eq_false (by omega)
  have hl60 : l.length ≤ 60 := by omega
  clear h60
  cases hm : mayD Q with
  | false =>
    have HN := Lib.hid (dnew_bad _ Q w hq hm)
    have HM := Lib.hid (refmay30_any _ Q w hq)
    rw [hm] at HM
    clear hq hva hm
    go_enter Try.func7, Try.ntmps7
    go_wp2_with fail
    refine HN.out.mono ?_
    rintro e w1 ⟨rfl, rfl⟩
    go_wp2_with fail
    refine HM.out.mono ?_
    rintro e w1 ⟨rfl, rfl⟩
    go_wp2_with fail
    refine (HLT.out _).mono ?_
    rintro e w1 ⟨rfl, hb⟩
    go_wp2
    go_ret
    exact ⟨rfl, hb⟩
  | true =>
    obtain ⟨hqa, hn0, hn16⟩ := mayD_iff.1 hm
    have HN := Lib.hid (dnew_any _ Q w hq hm)
    have OK0 := Lib.hid (new_ok hm)
    have HMT := Lib.hid (fun w1 (h : RInts w1 (.slice aq Q.length cq) Q) => by have := refmay30_any _ Q w1 h; rwa [hm] at this)
    have HNO := Lib.hid (show NilOk (.slice aq Q.length cq) by
      obtain ⟨b, off, x, hv, -⟩ := hq.at hn0
      subst hv
      exact NilOk.some)
    have HN0 := Lib.hid hn0
    have HN16 := Lib.hid hn16
    clear hq hva hm hqa hn0 hn16
    go_enter Try.func7, Try.ntmps7
    go_wp2_with fail
    refine HN.out.mono ?_
    rintro e w1 ⟨p, rq, rfl, ow1, vt, tb, qb, h1, hb1⟩
    have HB1 := Lib.hid hb1
    have HGR := Lib.hid (h1.grow (Below.refl _ _))
    clear h1 hb1 HN
    go_wp2_with fail
    refine (HMT.out _ (HVQ.out.below HB1.out)).mono ?_
    rintro e w2 ⟨rfl, rfl⟩
    obtain ⟨ow, how⟩ : ∃ z, frO ow1 w1.heap.size 0 = z := ⟨_, rfl⟩
    have HZ := Lib.hid (show ∀ j, w1.heap.size ≤ j → ow j = 0 from fun j hj => by rw [← how]; exact frO_new hj)
    rw [how] at HGR
    clear how
    have HRN := Lib.hid (rnew30_any (fun j => ow j = 0) (.slice aq Q.length cq) Q w1 ⟨HVQ.out.below HB1.out, HNO.out, fun h0 g hg => by
      have h1 := rints_lt HVQ.out h0 g hg
      have h2 := HGR.out.1.lo g
      omega⟩ (by have := HN16.out; omega) HZ.out)
    go_wp2_with fail
    refine HRN.out.mono ?_
    rintro e w2 ⟨vc, vj, rfl, hg, hb2⟩
    have HP := Lib.hid (lb_start HB1.out.size HGR.out.1 HZ.out HB1.out hg hb2 OK0.out (Q := Q) (by unfold newS; simp))
    obtain ⟨a1, c1, rfl, -, -⟩ := hg.c.1.shape
    obtain ⟨a2, c2, rfl, -, -⟩ := hg.j.shape
    obtain ⟨n1, hn1⟩ : ∃ z, (newS Q Q.length).C.length = z := ⟨_, rfl⟩
    obtain ⟨n2, hn2⟩ : ∃ z, (newS Q Q.length).J.length = z := ⟨_, rfl⟩
    rw [hn1, hn2] at HP ⊢
    clear hg hb2 hn1 hn2 HRN HGR HZ HMT
    go_upto_region 7 with fail
    obtain ⟨b7, hb7⟩ : ∃ z, w2.heap.size = z := ⟨_, rfl⟩
    rw [hb7] at HP ⊢
    obtain ⟨w3, hw3⟩ : ∃ z, w2.alloc (.cells #[.slice aq Q.length cq, .slice a1 n1 c1, .slice a2 n2 c2, .slice none 0 0] 67 (0, 0)) = z := ⟨_, rfl⟩
    rw [hw3] at HP ⊢
    clear hb7 hw3
    go_wp2
    go_loopw [36] (fun iv wr => ∃ (k : Nat) (vc vj vr : Value) (s : Sch) (ow : Nat → Nat), k ≤ l.length ∧ iv = .int .i64 (k : Int) ∧ Hid (LB w.heap.size b7 p rq vt tb qb (.slice aq Q.length cq) vc vj vr s Q k ow w wr)) (fun iv _ => l.length - (intOf iv).toNat)
    case atStart => exact ⟨0, _, _, _, _, _, Nat.zero_le _, rfl, HP.out⟩
    case round =>
      obtain ⟨k, vc, vj, vr, s, ow, hk, rfl, HL⟩ := hrel
      clear HP OK0 HB1
      obtain ⟨a1, c1, rfl, -, -⟩ := HL.out.ls.g.c.1.shape
      obtain ⟨a2, c2, rfl, -, -⟩ := HL.out.ls.g.j.shape
      obtain ⟨a3, c3, rfl, -, -⟩ := HL.out.ls.g.r.1.shape
      obtain ⟨n1, hn1⟩ : ∃ z, s.C.length = z := ⟨_, rfl⟩
      obtain ⟨n2, hn2⟩ : ∃ z, s.J.length = z := ⟨_, rfl⟩
      obtain ⟨n3, hn3⟩ : ∃ z, s.R.length = z := ⟨_, rfl⟩
      rw [hn1, hn2, hn3] at HL
      clear hn1 hn2 hn3
      rcases Nat.lt_or_ge k l.length with hlt | hge
      · obtain ⟨ba, off, x, rfl, hbb, hx, hgx, hcx⟩ := (HVA.out.below (below_of HL.out.bel (Nat.le_refl _))).at hlt
        clear hx hbb
        obtain ⟨kind, ten, job, bud, used, lv, left, st⟩ := x
        have hlv := hgx.left.shape
        dsimp only at hlv
        obtain ⟨av, cv, hve, -, -⟩ := hlv
        subst hve
        obtain ⟨nv, hnv⟩ : ∃ z, left.length = z := ⟨_, rfl⟩
        have HNV := Lib.hid hnv
        rw [hnv] at hgx hcx
        clear hnv
        have HGX := Lib.hid hgx
        have c0 : wr.cell? ⟨ba, off + k * 7, none⟩ = some (.int .i64 kind) := hcx 0 _ rfl
        have c1x := hcx 1 (.int .i64 ten) rfl
        have c2x := hcx 2 (.int .i64 job) rfl
        have c3x := hcx 3 (.int .i64 bud) rfl
        have c4x := hcx 4 (.int .i64 used) rfl
        have c5x := hcx 5 (.slice av nv cv) rfl
        have c6x := hcx 6 (.bool st) rfl
        clear hgx hcx
        have HL9 := Lib.hid (HL.out.below (below_alloc wr (.cells #[.int .i64 kind, .int .i64 ten, .int .i64 job, .int .i64 bud, .int .i64 used, .slice av nv cv, .bool st] 70 (0, 0))))
        have HA9 := Lib.hid (Blk.new wr [.int .i64 kind, .int .i64 ten, .int .i64 job, .int .i64 bud, .int .i64 used, .slice av nv cv, .bool st] 70)
        go_upto_region 10 with fail
        obtain ⟨bA, hbA⟩ : ∃ z, wr.heap.size = z := ⟨_, rfl⟩
        rw [hbA] at HA9 ⊢
        obtain ⟨wA, hwA⟩ : ∃ z, wr.alloc (.cells #[.int .i64 kind, .int .i64 ten, .int .i64 job, .int .i64 bud, .int .i64 used, .slice av nv cv, .bool st] 70 (0, 0)) = z := ⟨_, rfl⟩
        rw [hwA] at HL9 HA9 ⊢
        clear hbA hwA HL
        clear c0 c1x c2x c3x c4x c5x c6x
        have u0 := HA9.out.cell (i := 0) (x := .int .i64 kind) rfl
        have u1 := HA9.out.cell (i := 1) (x := .int .i64 ten) rfl
        have u2 := HA9.out.cell (i := 2) (x := .int .i64 job) rfl
        have u3 := HA9.out.cell (i := 3) (x := .int .i64 bud) rfl
        have u4 := HA9.out.cell (i := 4) (x := .int .i64 used) rfl
        have u5 := HA9.out.cell (i := 5) (x := .slice av nv cv) rfl
        have u6 := HA9.out.cell (i := 6) (x := .bool st) rfl
        have k0 := HL9.out.bx.cell (i := 0) (x := .slice aq Q.length cq) rfl
        have k1 := HL9.out.bx.cell (i := 1) (x := .slice a1 n1 c1) rfl
        have k2 := HL9.out.bx.cell (i := 2) (x := .slice a2 n2 c2) rfl
        have k3 := HL9.out.bx.cell (i := 3) (x := .slice a3 n3 c3) rfl
        have HACT := Lib.hid (act30_any (K := k) (fun j => j ≠ b7) _ _ _ _ s ow ⟨kind, ten, job, bud, used, .slice av nv cv, left, st⟩ wA HL9.out.ls HL9.out.ok (by omega) (goodD_below HGX.out HL9.out.bel) (fun h0 g hg => Classical.byContradiction fun e => by
          have h1 := rints_lt HGX.out.left h0 g hg
          have h2 := HL9.out.ls.d.lo g e
          omega))
        unfold encD at HACT
        dsimp only at HACT
        go_wp2_with fail
        (with_reducible refine HACT.out.mono ?_)
        rintro e w5 ⟨vc2, vj2, vr2, s2, ow2, rfl, hl2, hok2, hq2, hf2⟩
        have HA2 := Lib.hid (HL9.out.acted hl2 hok2 hq2 hf2)
        clear hok2 hq2 hf2 HACT HL9 HA9 u0 u1 u2 u3 u4 u5 u6 k0 k1 k2 k3
        obtain ⟨b1, d1, rfl, -, -⟩ := hl2.g.c.1.shape
        obtain ⟨b2, d2, rfl, -, -⟩ := hl2.g.j.shape
        obtain ⟨b3, d3, rfl, -, -⟩ := hl2.g.r.1.shape
        obtain ⟨m1, hm1⟩ : ∃ z, s2.C.length = z := ⟨_, rfl⟩
        obtain ⟨m2, hm2⟩ : ∃ z, s2.J.length = z := ⟨_, rfl⟩
        obtain ⟨m3, hm3⟩ : ∃ z, s2.R.length = z := ⟨_, rfl⟩
        rw [hm1, hm2, hm3] at HA2 ⊢
        clear hm1 hm2 hm3
        clear hl2
        have HA3 := Lib.hid (HA2.out.below (below_alloc w5 (.cells #[.slice aq Q.length cq, .slice b1 m1 d1, .slice b2 m2 d2, .slice b3 m3 d3, .bool true] 72 (0, 0))))
        have HT := Lib.hid (Blk.new w5 [.slice aq Q.length cq, .slice b1 m1 d1, .slice b2 m2 d2, .slice b3 m3 d3, .bool true] 72)
        clear HA2
        go_upto_region 11 with fail
        obtain ⟨bT, hbT⟩ : ∃ z, w5.heap.size = z := ⟨_, rfl⟩
        rw [hbT] at HT ⊢
        obtain ⟨w6, hw6⟩ : ∃ z, w5.alloc (.cells #[.slice aq Q.length cq, .slice b1 m1 d1, .slice b2 m2 d2, .slice b3 m3 d3, .bool true] 72 (0, 0)) = z := ⟨_, rfl⟩
        rw [hw6] at HA3 HT ⊢
        clear hbT hw6
        have q0 := HT.out.cell (i := 0) (x := .slice aq Q.length cq) rfl
        have q1 := HT.out.cell (i := 1) (x := .slice b1 m1 d1) rfl
        have q2 := HT.out.cell (i := 2) (x := .slice b2 m2 d2) rfl
        have q3 := HT.out.cell (i := 3) (x := .slice b3 m3 d3) rfl
        have q4 := HT.out.cell (i := 4) (x := .bool true) rfl
        have HFT := Lib.hid (fits30_any _ _ _ _ _ s2 w6 HA3.out.ls.d HA3.out.ls.g HA3.out.ok (by omega))
        go_wp2_with fail
        (with_reducible refine HFT.out.mono ?_)
        rintro e w7 ⟨rfl, hb⟩
        have HA4 := Lib.hid (HA3.out.below hb)
        have HT2 := Lib.hid (HT.out.below hb)
        clear HA3 HT hb HFT q0 q1 q2 q3 q4
        have q0 := HT2.out.cell (i := 0) (x := .slice aq Q.length cq) rfl
        have q1 := HT2.out.cell (i := 1) (x := .slice b1 m1 d1) rfl
        have q2 := HT2.out.cell (i := 2) (x := .slice b2 m2 d2) rfl
        have q3 := HT2.out.cell (i := 3) (x := .slice b3 m3 d3) rfl
        have q4 := HT2.out.cell (i := 4) (x := .bool true) rfl
        have k0 := HA4.out.bx.cell (i := 0) (x := .slice aq Q.length cq) rfl
        have k1 := HA4.out.bx.cell (i := 1) (x := .slice a1 n1 c1) rfl
        have k2 := HA4.out.bx.cell (i := 2) (x := .slice a2 n2 c2) rfl
        have k3 := HA4.out.bx.cell (i := 3) (x := .slice a3 n3 c3) rfl
        have z0 := HA4.out.bx.free 0
        have z1 := HA4.out.bx.free 1
        have z2 := HA4.out.bx.free 2
        have z3 := HA4.out.bx.free 3
        have HN := Lib.hid HA4.out.store
        go_wp2
        obtain ⟨w8, hw8⟩ : ∃ z, ((((w7.setCell ⟨b7, 0, none⟩ (.slice aq Q.length cq)).setCell ⟨b7, 1, none⟩ (.slice b1 m1 d1)).setCell ⟨b7, 2, none⟩ (.slice b2 m2 d2)).setCell ⟨b7, 3, none⟩ (.slice b3 m3 d3)) = z := ⟨_, rfl⟩
        rw [hw8] at HN ⊢
        clear hw8 HA4 HT2 q0 q1 q2 q3 q4 k0 k1 k2 k3 z0 z1 z2 z3
        go_roundw
        case rel => exact ⟨k + 1, _, _, _, s2, ow2, by omega, by go_num, HN.out⟩
        case measure => simp [intOf]; omega
      · obtain rfl : k = l.length := by omega
        clear hk hge
        have k0 := HL.out.bx.cell (i := 0) (x := .slice aq Q.length cq) rfl
        have k1 := HL.out.bx.cell (i := 1) (x := .slice a1 n1 c1) rfl
        have k2 := HL.out.bx.cell (i := 2) (x := .slice a2 n2 c2) rfl
        have k3 := HL.out.bx.cell (i := 3) (x := .slice a3 n3 c3) rfl
        have HFT := Lib.hid (fits30_any _ _ _ _ _ s wr HL.out.ls.d HL.out.ls.g HL.out.ok (by omega))
        have HBW := Lib.hid HL.out.bel
        have HSB := Lib.hid HL.out.sz
        go_wp2_with fail
        (with_reducible refine HFT.out.mono ?_)
        rintro e w7 ⟨rfl, hb⟩
        go_wp2_with fail
        (with_reducible refine (HLT.out _).mono ?_)
        rintro e w8 ⟨rfl, hb2⟩
        have HB9 := Lib.hid (HBW.out.trans (below_of (below_two hb hb2) HSB.out))
        clear hb hb2
        go_wp2
        go_ret
        exact ⟨rfl, HB9.out⟩
end Go.Proofs.Ytmgjmpmcadjemaa

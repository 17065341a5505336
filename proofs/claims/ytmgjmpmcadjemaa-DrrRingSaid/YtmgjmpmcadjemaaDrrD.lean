/- Package drr: Next. -/
import Derived.Test.YtmgjmpmcadjemaaDrrC
namespace Go.Proofs.Ytmgjmpmcadjemaa
open Go.RowKit

theorem below_drew1 (w : World) : Below w.heap.size w w.drew := Below.drew (Below.refl _ _)
def turnV (o : Option (Int × Int × Int)) : Value := match o with
  | none => .agg #[.int .i64 0, .int .i64 0, .int .i64 0]
  | some (t, j, n) => .agg #[.int .i64 t, .int .i64 j, .int .i64 n]
def T0 : List Value := [.int .i64 0, .int .i64 0, .int .i64 0]

set_option maxHeartbeats 1000000 in
theorem dnext_nil (budget : Int) (v : Value) (w : World) :
    Calls Try.prog 30 #[.pointer none, .int .i64 budget, v] w fun e w' => e = .returned (.tuple #[turnV none, .bool false]) ∧ Below w.heap.size w w' := by
  have hbx := Blk.new w T0 59
  have c0 := hbx.cell (i := 0) (x := .int .i64 0) rfl
  have c1 := hbx.cell (i := 1) (x := .int .i64 0) rfl
  have c2 := hbx.cell (i := 2) (x := .int .i64 0) rfl
  go_enter Try.func30, Try.ntmps30
  go_wp2
  refine bodyPost_ret (v := .tuple #[turnV none, .bool false]) (by simp [results, Try.results30, go_sem, turnV]) rfl ?_
  exact ⟨rfl, below_alloc _ _⟩

theorem Fr.more {o1 o2 : Nat → Nat} {w1 w2 w3 : World} (h : Fr o1 o2 w1 w2) {rb : Nat} (hr : w1.heap.size ≤ rb) (k : Keep (fun j => j = rb) w2 w3) : Fr o1 o2 w1 w3 := by
  refine ⟨⟨k.os.trans h.1.os, k.tape.trans h.1.tape, k.output.trans h.1.output, Nat.le_trans h.1.size k.size, fun j hj hs => ?_⟩, h.2⟩
  rw [k.block j (Nat.lt_of_lt_of_le hj h.1.size) (fun e => by have e' : j = rb := e; omega)]
  exact h.1.block j hj hs
theorem keep3 {w : World} {rb : Nat} (a b c : Value) : Keep (fun j => j = rb) w (((w.setCell ⟨rb, 0, none⟩ a).setCell ⟨rb, 1, none⟩ b).setCell ⟨rb, 2, none⟩ c) :=
  keep_setCell (S := fun j => j = rb) (keep_setCell (S := fun j => j = rb) (keep_setCell (S := fun j => j = rb) (Keep.refl _ w) rfl _) rfl _) rfl _

section
variable {ow : Nat → Nat} {B : Nat} {w : World} {p rq : Nat} {vt : Value} {tb qb : Nat → Nat} {s : Sch}

/-- within Next: the scheduler, and the cell of the result -/
def NxtW (ow : Nat → Nat) (B p rq : Nat) (vt : Value) (tb qb : Nat → Nat) (rb : Nat) (w w1 : World) (s1 : Sch) : Prop :=
  ∃ ow1, DAt ow1 B w1 p rq vt tb qb s1 ∧ Fr ow ow1 w w1 ∧ Blk w1 rb T0 59 ∧ ow1 rb = 0

set_option maxHeartbeats 4000000 in
set_option maxRecDepth 100000 in
theorem dnext_any {K : Nat} (budget : Int) (v : Value) (left : List Int) (h : DAt ow B w p rq vt tb qb s) (ok : Ok K s) (hK : K ≤ 1000) (hv : RInts w v left) (hz : 0 < left.length → ∀ g, v.ownBlock = some g → ow g = 0) (hb1 : -9223372036854775808 ≤ budget) (hb2 : budget ≤ 9223372036854775807) :
    Calls Try.prog 30 #[.pointer (some ⟨p, 0, none⟩), .int .i64 budget, v] w fun e w' => e = .returned (.tuple #[turnV (nextM s budget left).2, .bool (nextM s budget left).2.isSome]) ∧ DDid ow B p rq vt tb qb (nextM s budget left).1 w w' := by
  obtain ⟨av, capv, rfl, hcv1, hcv2⟩ := hv.shape
  have c0 := h.box.cell (i := 0) (x := vt) rfl
  have hn16 := ok.n16
  have hal := below_alloc w (.cells T0.toArray 59 (0, 0))
  have HNX := Lib.hid (show NxtW ow B p rq vt tb qb w.heap.size w (w.alloc (.cells T0.toArray 59 (0, 0))) s from
    ⟨frO ow w.heap.size 0, h.keep (Keep.of_below hal (fun _ => False)) (fun _ e => e.elim) (fun j hj => frO_old hj) (fun j hj => by
      by_cases e : j < w.heap.size
      · rw [frO_old e] at hj; exact h.lo j hj
      · rw [frO_new (by omega)] at hj; exact absurd rfl hj), ⟨Keep.of_below hal _, fun j hj => frO_old hj⟩, Blk.new w _ _, frO_new (Nat.le_refl _)⟩)
  have HLE := Lib.hid (fun (ow1 : Nat → Nat) (w1 : World) (h : DAt ow1 B w1 p rq vt tb qb s) => rlen_any h)
  have HBX := Lib.hid (Blk.new w T0 59)
  have HV := Lib.hid hv
  have HZ := Lib.hid hz
  have H := Lib.hid h
  have OK := Lib.hid ok
  obtain ⟨a, cap, rfl, hcp1, hcp2⟩ := h.shape
  have d0 := HBX.out.cell (i := 0) (x := .int .i64 0) rfl
  have d1 := HBX.out.cell (i := 1) (x := .int .i64 0) rfl
  have d2 := HBX.out.cell (i := 2) (x := .int .i64 0) rfl
  have HFIN0 := Lib.hid (show DDid ow B p rq (.slice a s.Q.length cap) tb qb s w (w.alloc (.cells T0.toArray 59 (0, 0))) from DDid.same h hal)
  have k0 := cellB c0 hal
  unfold nextM
  by_cases hb : budget < 1
  · rw [if_pos (.inl hb)]
    have t1 : decide (budget < 1) = true := decide_eq_true hb
    clear h ok hv hz hal hb
    unfold T0 at d0 d1 d2 HFIN0 k0
    go_enter Try.func30, Try.ntmps30
    go_wp2
    refine bodyPost_ret (v := .tuple #[turnV none, .bool false]) (by simp [results, Try.results30, go_sem, turnV]) rfl ?_
    exact ⟨rfl, HFIN0.out⟩
  have t1 : decide (budget < 1) = false := decide_eq_false hb
  by_cases hln : left.length = s.Q.length
  · rw [if_neg (fun e => e.elim hb (fun q => q hln))]
    have HKR := Lib.hid (Nat.le_trans ok.rk hK)
    obtain ⟨n, hn⟩ : ∃ n, s.R.length = n := ⟨_, rfl⟩
    have HNN := Lib.hid hn
    have hnk : n ≤ 1000 := by have := HKR.out; omega
    rw [hn]
    obtain ⟨NX, hNX⟩ : ∃ z, nextR left budget n s = z := ⟨_, rfl⟩
    have HNXT := Lib.hid hNX
    rw [hNX]
    have tl : ((left.length : Int) == (s.Q.length : Int)) = true := by rw [hln]; exact beq_self_eq_true _
    have HLN := Lib.hid hln
    have HL := Lib.hid (show Calls Try.prog 60 #[.pointer (some ⟨rq, 0, none⟩)] (w.alloc (.cells T0.toArray 59 (0, 0))) (fun e w' => e = .returned (.int .i64 (n : Int)) ∧ (w.alloc (.cells T0.toArray 59 (0, 0))) = w') by
      obtain ⟨ow1, h1, -⟩ := HNX.out
      have := rlen_any h1
      rwa [hn] at this)
    have k1 := cellB (h.box.cell (i := 1) (x := .pointer (some ⟨rq, 0, none⟩)) rfl) hal
    have hlc : left.length ≤ 16 := by omega
    clear h ok hv hz hal hb hn hNX hln c0
    unfold T0 at d0 d1 d2 HFIN0 k0 HL HNX k1
    go_enter Try.func30, Try.ntmps30
    go_wp2_with fail
    refine HL.out.mono ?_
    rintro e w1 ⟨rfl, rfl⟩
    obtain ⟨rb, hrb⟩ : ∃ z, w.heap.size = z := ⟨_, rfl⟩
    have HRB := Lib.hid hrb
    clear HL HLE HBX HFIN0 d0 d1 d2 k0 k1
    rw [hrb] at HNX ⊢
    clear hrb
    go_wp2
    go_loopw [35] (fun iv w2 => ∃ (k : Nat) (s1 : Sch), k ≤ n ∧ iv = .int .i64 (k : Int) ∧ Hid (NxtW ow B p rq (.slice a s.Q.length cap) tb qb rb w w2 s1) ∧ Hid (Ok K s1 ∧ s1.R.length = n ∧ s1.Q = s.Q ∧ nextR left budget (n - k) s1 = NX)) (fun iv _ => n - (intOf iv).toNat)
    case atStart => exact ⟨0, s, Nat.zero_le _, rfl, HNX.out, OK.out, HNN.out, rfl, HNXT.out⟩
    case round =>
      obtain ⟨k, s1, hk, rfl, HNX1, HOK1⟩ := hrel
      clear HNX
      rcases Nat.lt_or_ge k n with hlt | hge
      · obtain ⟨ow1, h1, f1, hbk, hz0⟩ := HNX1.out
        obtain ⟨ok1, hr1, hq1, hnx⟩ := HOK1.out
        obtain ⟨i, hi, hi2, hne⟩ := ok1.head (fun e => by rw [e] at hr1; simp at hr1; omega)
        have e1 : (s1.R.headD 0).toNat = i := by rw [hi]; rfl
        have HRF := Lib.hid (rfront_any h1 (Nat.le_trans ok1.rk hK))
        rw [hi] at HRF
        have p0 := h1.box.cell (i := 0) (x := .slice a s.Q.length cap) rfl
        have p1 := h1.box.cell (i := 1) (x := .pointer (some ⟨rq, 0, none⟩)) rfl
        obtain ⟨b, off, cap', hvv, hct⟩ := h1.at hi2
        obtain ⟨rfl, -, rfl⟩ : a = some ⟨b, off, none⟩ ∧ s.Q.length = s1.Q.length ∧ cap = cap' := by simpa using hvv
        have hi3 : i < s.Q.length := by rw [← hq1]; exact hi2
        have hii : (i : Int) < (s.Q.length : Int) := by omega
        have hi0 : (0 : Int) ≤ (i : Int) := by omega
        have hil : i < left.length := by rw [HLN.out]; exact hi3
        have hili : (i : Int) < (left.length : Int) := by omega
        have hki : (k : Int) < (n : Int) := by omega
        obtain ⟨bl, ofl, x, rfl, -, hx, hcx, -, -⟩ := (HV.out.keep f1.1 (fun g hg => by have := HZ.out (by omega) g hg; omega)).at hil
        have hxg : left.getD i 0 = x := by rw [List.getD_eq_getElem?_getD, hx]; rfl
        have q0 := (h1.ten i hi2).1.cell (i := 0) (x := .pointer (some ⟨qb i, 0, none⟩)) rfl
        have q1 := (h1.ten i hi2).1.cell (i := 1) (x := .int .i64 (s1.Q.getD i 0)) rfl
        have q2 := (h1.ten i hi2).1.cell (i := 2) (x := .int .i64 (s1.C.getD i 0)) rfl
        have q3 := (h1.ten i hi2).1.free 2
        obtain ⟨m, hm⟩ : ∃ m, n - k = m + 1 := ⟨n - k - 1, by omega⟩
        have hm2 : n - (k + 1) = m := by omega
        rw [hm, nextR, e1, hxg] at hnx
        obtain ⟨pe, hpe⟩ : ∃ z, popE s1.R = z := ⟨_, rfl⟩
        rw [hpe] at HRF
        by_cases hx1 : x < 1
        · rw [if_pos hx1] at hnx
          have d1 : decide (x < 1) = true := decide_eq_true hx1
          obtain ⟨h2, f2⟩ := DAt.credit h1 hi2 0
          have ok2 := ok1.skip hi2
          have HRR := Lib.hid (rrot_any h2 (Nat.le_trans ok1.rk hK))
          have p2 := h2.box.cell (i := 1) (x := .pointer (some ⟨rq, 0, none⟩)) rfl
          have F2 := Lib.hid (f1.trans f2)
          have F12 := Lib.hid f2
          have HB2 := Lib.hid (hbk.keep f2.1 (fun e => e hz0))
          have HZ2 := Lib.hid hz0
          have HOK2 := Lib.hid (show Ok K (skipS s1 i) ∧ (skipS s1 i).R.length = n ∧ (skipS s1 i).Q = s.Q ∧ nextR left budget (n - (k + 1)) (skipS s1 i) = NX from ⟨ok2, by rw [skipS_R, rotL_len]; exact hr1, hq1, by rw [hm2]; exact hnx⟩)
          clear h1 f1 hbk hz0 ok1 hr1 hnx hi hne e1 hvv hx hx1 hxg hm hm2 hpe h2 f2 ok2 HNX1 HOK1
          go_wp2_with fail
          refine HRF.out.mono ?_
          rintro e w3 ⟨rfl, rfl⟩
          clear HRF
          go_wp2_with fail
          refine HRR.out.mono ?_
          rintro e w3 ⟨rfl, ow3, h3, f3⟩
          have HNX3 := Lib.hid (show NxtW ow B p rq (.slice (some ⟨b, off, none⟩) s.Q.length cap) tb qb rb w w3 (skipS s1 i) from ⟨ow3, h3, F2.out.trans f3, HB2.out.keep f3.1 (fun e => e HZ2.out), by rw [f3.2 rb HB2.out.lt, HZ2.out]⟩)
          clear h3 f3 HRR HB2 F2 F12 hq1 p0 p1 p2 hct hcx q0 q1 q2 q3
          go_wp2
          go_roundw
          case rel => exact ⟨k + 1, _, hlt, by go_num, HNX3.out, HOK2.out⟩
          case measure => simp [intOf]; omega
        · rw [if_neg hx1] at hnx
          have d1 : decide (x < 1) = false := decide_eq_false hx1
          have hx3 : x ≤ 9223372036854775807 := (HV.out.2 x (List.mem_of_getElem? hx)).2
          have okf := ok1.fill hi2
          have hfq : (fillS s1 i).Q = s1.Q := by unfold fillS; split <;> rfl
          have hfj : (fillS s1 i).J = s1.J := by unfold fillS; split <;> rfl
          have hfc := okf.c i (by rw [hfq]; exact hi2)
          have HNXF := Lib.hid hnx
          rw [hi] at HNXF
          have hif : i < (fillS s1 i).Q.length := by rw [hfq]; exact hi2
          have HTF := Lib.hid (fun (w2 : World) (h : DAt ow1 B w2 p rq (.slice (some ⟨b, off, none⟩) s.Q.length cap) tb qb (fillS s1 i)) => tfront_any i h hif (Nat.le_trans (okf.jk i hif) hK))
          rw [hfj] at HTF
          obtain ⟨jf, hjf⟩ : ∃ z, (s1.J.getD i []).headD 0 = z := ⟨_, rfl⟩
          obtain ⟨pf, hpf⟩ : ∃ z, popE (s1.J.getD i []) = z := ⟨_, rfl⟩
          rw [hjf, hpf] at HTF
          rw [hjf] at HNXF
          have hcase : (s1.C.getD i 0 = 0 ∧ fillS s1 i = { s1 with C := s1.C.set i (s1.Q.getD i 0) } ∧ (fillS s1 i).C.getD i 0 = s1.Q.getD i 0) ∨ (s1.C.getD i 0 ≠ 0 ∧ fillS s1 i = s1) := by
            unfold fillS
            by_cases e : s1.C.getD i 0 = 0
            · rw [if_pos e]
              exact .inl ⟨e, rfl, getD_set_eq (by rw [ok1.lc]; exact hi2) _ _⟩
            · rw [if_neg e]
              exact .inr ⟨e, rfl⟩
          have H1 := Lib.hid h1
          have F1 := Lib.hid f1
          have HBK := Lib.hid hbk
          have HZ0 := Lib.hid hz0
          have HX := Lib.hid hx
          clear h1 f1 hbk hz0 ok1 hr1 hnx hi hne e1 hvv hxg hm hm2 hpe HNX1 HOK1 okf hfq hfj hjf hpf hx1 hx
          rcases hcase with ⟨hc0, hfs, hfc2⟩ | ⟨hc0, hfs⟩
          · rw [hc0] at q2
            obtain ⟨h2, f2⟩ := DAt.credit H1.out hi2 (s1.Q.getD i 0)
            rw [← hfs] at h2
            obtain ⟨cq, hcq⟩ : ∃ z, s1.Q.getD i 0 = z := ⟨_, rfl⟩
            rw [hcq] at q1 h2 f2 hfc2
            have HT := Lib.hid (HTF.out _ h2)
            have H2 := Lib.hid h2
            have F2 := Lib.hid (F1.out.trans f2)
            have HB2 := Lib.hid (HBK.out.keep f2.1 (fun e => e HZ0.out))
            have z0 := (h2.ten i hif).1.cell (i := 0) (x := .pointer (some ⟨qb i, 0, none⟩)) rfl
            have HFC := Lib.hid hfc2
            have z2 := (h2.ten i hif).1.cell (i := 2) (x := .int .i64 ((fillS s1 i).C.getD i 0)) rfl
            rw [hfc2] at z2
            clear h2 f2 hcq hfs hc0 hfc2 HTF
            go_wp2_with fail
            refine HRF.out.mono ?_
            rintro e w3 ⟨rfl, rfl⟩
            clear HRF
            go_wp2_with fail
            refine HT.out.mono ?_
            rintro e w3 ⟨rfl, rfl⟩
            clear HT
            go_wp2
            obtain ⟨w2, hw2⟩ : ∃ z, wr.setCell ⟨tb i, 2, none⟩ (.int .i64 cq) = z := ⟨_, rfl⟩
            rw [hw2] at H2 F2 HB2 ⊢
            have H3 := Lib.hid (H2.out.below (below_drew1 w2))
            have F3 := Lib.hid (F2.out.trans (Fr.of_below (below_drew1 w2)))
            have hb3 := HB2.out.below (below_drew1 w2)
            have e0 := hb3.cell (i := 0) (x := .int .i64 0) rfl
            have e1 := hb3.cell (i := 1) (x := .int .i64 0) rfl
            have e2 := hb3.cell (i := 2) (x := .int .i64 0) rfl
            have g0 := hb3.free 0
            have g1 := hb3.free 1
            have g2 := hb3.free 2
            have y2 := (H3.out.ten i hif).1.cell (i := 2) (x := .int .i64 ((fillS s1 i).C.getD i 0)) rfl
            rw [HFC.out] at y2
            obtain ⟨bl', ofl', x', hvv', -, hx', hcx', -, -⟩ := (HV.out.keep F3.out.1 (fun g hg => by have := HZ.out (by omega) g hg; omega)).at hil
            obtain ⟨rfl, rfl⟩ : bl = bl' ∧ ofl = ofl' := by simpa using hvv'
            obtain rfl : x = x' := by have := HX.out; rw [this] at hx'; exact Option.some.inj hx'
            obtain ⟨mn, hmn⟩ : ∃ z, min (min cq budget) x = z := ⟨_, rfl⟩
            have hmin : (if x < (if budget < cq then budget else cq) then x else (if budget < cq then budget else cq)) = mn := by
              rw [← hmn]
              split <;> split <;> omega
            have E0 : w2.cell? ⟨rb, 0, none⟩ = some (.int .i64 0) := e0
            have E1 : w2.cell? ⟨rb, 1, none⟩ = some (.int .i64 0) := e1
            have E2 : w2.cell? ⟨rb, 2, none⟩ = some (.int .i64 0) := e2
            have G0 : w2.frozen? ⟨rb, 0, none⟩ = false := g0
            have G1 : w2.frozen? ⟨rb, 1, none⟩ = false := g1
            have G2 : w2.frozen? ⟨rb, 2, none⟩ = false := g2
            have hk3 := keep3 (w := w2) (rb := rb) (.int .i64 (i : Int)) (.int .i64 jf) (.int .i64 mn)
            have hb4 := (((HB2.out.set 0 (.int .i64 (i : Int))).set 1 (.int .i64 jf)).set 2 (.int .i64 mn)).below (below_drew1 _)
            have HFIN := Lib.hid (show DDid ow B p rq (.slice (some ⟨b, off, none⟩) s.Q.length cap) tb qb NX.1 w ((((w2.setCell ⟨rb, 0, none⟩ (.int .i64 (i : Int))).setCell ⟨rb, 1, none⟩ (.int .i64 jf)).setCell ⟨rb, 2, none⟩ (.int .i64 mn)).drew) by
              rw [← HNXF.out]
              exact ⟨ow1, (H2.out.keep hk3 (fun j e => by have e' : j = rb := e; rw [e', HZ0.out]) (fun _ _ => rfl) H2.out.lo).below (below_drew1 _), (F2.out.more (by rw [HRB.out]; exact Nat.le_refl _) hk3).trans (Fr.of_below (below_drew1 _))⟩)
            have HNXE := Lib.hid (show NX.2 = some ((i : Int), jf, mn) by rw [← HNXF.out, HFC.out, hmn])
            have HB4 := Lib.hid hb4
            clear hw2 H2 F2 HB2 hvv' hx' hb3 hk3 hb4 H1 F1 HBK p0 p1 hct q0 q1 q2 q3 hcx hfc
            go_still_tail 13, (by kernel_rfl)
            change wpList _ _ _ _ _ (World.drew _)
            go_wp2
            obtain ⟨w5, hw5⟩ : ∃ z, ((((w2.setCell ⟨rb, 0, none⟩ (.int .i64 (i : Int))).setCell ⟨rb, 1, none⟩ (.int .i64 jf)).setCell ⟨rb, 2, none⟩ (.int .i64 mn)).drew) = z := ⟨_, rfl⟩
            rw [hw5] at HFIN HB4 ⊢
            have x0 := HB4.out.cell (i := 0) (x := .int .i64 (i : Int)) rfl
            have x1 := HB4.out.cell (i := 1) (x := .int .i64 jf) rfl
            have x2 := HB4.out.cell (i := 2) (x := .int .i64 mn) rfl
            refine bodyPost_ret (v := .tuple #[turnV (some ((i : Int), jf, mn)), .bool true]) (by simp [results, Try.results30, go_sem, turnV, x0, x1, x2]) rfl ?_
            rw [HNXE.out]
            exact ⟨rfl, HFIN.out⟩
          · have HFC := Lib.hid (show (fillS s1 i).C.getD i 0 = s1.C.getD i 0 by rw [hfs])
            have hcz : (s1.C.getD i 0 == 0) = false := beq_eq_false_iff_ne.2 hc0
            obtain ⟨cq, hcq⟩ : ∃ z, s1.C.getD i 0 = z := ⟨_, rfl⟩
            rw [hcq] at q2 HFC hcz
            have h2 := H1.out
            rw [← hfs] at h2
            have HT := Lib.hid (HTF.out _ h2)
            have H2 := Lib.hid h2
            have F2 := Lib.hid F1.out
            have HB2 := Lib.hid HBK.out
            clear h2 hcq hfs hc0 HTF
            go_wp2_with fail
            refine HRF.out.mono ?_
            rintro e w3 ⟨rfl, rfl⟩
            clear HRF
            go_wp2_with fail
            refine HT.out.mono ?_
            rintro e w3 ⟨rfl, rfl⟩
            clear HT
            go_wp2
            have H3 := Lib.hid (H2.out.below (below_drew1 wr))
            have F3 := Lib.hid (F2.out.trans (Fr.of_below (below_drew1 wr)))
            have hb3 := HB2.out.below (below_drew1 wr)
            have e0 := hb3.cell (i := 0) (x := .int .i64 0) rfl
            have e1 := hb3.cell (i := 1) (x := .int .i64 0) rfl
            have e2 := hb3.cell (i := 2) (x := .int .i64 0) rfl
            have g0 := hb3.free 0
            have g1 := hb3.free 1
            have g2 := hb3.free 2
            have y2 := (H3.out.ten i hif).1.cell (i := 2) (x := .int .i64 ((fillS s1 i).C.getD i 0)) rfl
            rw [HFC.out] at y2
            obtain ⟨bl', ofl', x', hvv', -, hx', hcx', -, -⟩ := (HV.out.keep F3.out.1 (fun g hg => by have := HZ.out (by omega) g hg; omega)).at hil
            obtain ⟨rfl, rfl⟩ : bl = bl' ∧ ofl = ofl' := by simpa using hvv'
            obtain rfl : x = x' := by have := HX.out; rw [this] at hx'; exact Option.some.inj hx'
            obtain ⟨mn, hmn⟩ : ∃ z, min (min cq budget) x = z := ⟨_, rfl⟩
            have hmin : (if x < (if budget < cq then budget else cq) then x else (if budget < cq then budget else cq)) = mn := by
              rw [← hmn]
              split <;> split <;> omega
            have E0 : wr.cell? ⟨rb, 0, none⟩ = some (.int .i64 0) := e0
            have E1 : wr.cell? ⟨rb, 1, none⟩ = some (.int .i64 0) := e1
            have E2 : wr.cell? ⟨rb, 2, none⟩ = some (.int .i64 0) := e2
            have G0 : wr.frozen? ⟨rb, 0, none⟩ = false := g0
            have G1 : wr.frozen? ⟨rb, 1, none⟩ = false := g1
            have G2 : wr.frozen? ⟨rb, 2, none⟩ = false := g2
            have hk3 := keep3 (w := wr) (rb := rb) (.int .i64 (i : Int)) (.int .i64 jf) (.int .i64 mn)
            have hb4 := (((HB2.out.set 0 (.int .i64 (i : Int))).set 1 (.int .i64 jf)).set 2 (.int .i64 mn)).below (below_drew1 _)
            have HFIN := Lib.hid (show DDid ow B p rq (.slice (some ⟨b, off, none⟩) s.Q.length cap) tb qb NX.1 w ((((wr.setCell ⟨rb, 0, none⟩ (.int .i64 (i : Int))).setCell ⟨rb, 1, none⟩ (.int .i64 jf)).setCell ⟨rb, 2, none⟩ (.int .i64 mn)).drew) by
              rw [← HNXF.out]
              exact ⟨ow1, (H2.out.keep hk3 (fun j e => by have e' : j = rb := e; rw [e', HZ0.out]) (fun _ _ => rfl) H2.out.lo).below (below_drew1 _), (F2.out.more (by rw [HRB.out]; exact Nat.le_refl _) hk3).trans (Fr.of_below (below_drew1 _))⟩)
            have HNXE := Lib.hid (show NX.2 = some ((i : Int), jf, mn) by rw [← HNXF.out, HFC.out, hmn])
            have HB4 := Lib.hid hb4
            clear H2 F2 HB2 hvv' hx' hb3 hk3 hb4 H1 F1 HBK p0 p1 hct q0 q1 q2 q3 hcx hfc
            go_still_tail 13, (by kernel_rfl)
            change wpList _ _ _ _ _ (World.drew _)
            go_wp2
            obtain ⟨w5, hw5⟩ : ∃ z, ((((wr.setCell ⟨rb, 0, none⟩ (.int .i64 (i : Int))).setCell ⟨rb, 1, none⟩ (.int .i64 jf)).setCell ⟨rb, 2, none⟩ (.int .i64 mn)).drew) = z := ⟨_, rfl⟩
            rw [hw5] at HFIN HB4 ⊢
            have x0 := HB4.out.cell (i := 0) (x := .int .i64 (i : Int)) rfl
            have x1 := HB4.out.cell (i := 1) (x := .int .i64 jf) rfl
            have x2 := HB4.out.cell (i := 2) (x := .int .i64 mn) rfl
            refine bodyPost_ret (v := .tuple #[turnV (some ((i : Int), jf, mn)), .bool true]) (by simp [results, Try.results30, go_sem, turnV, x0, x1, x2]) rfl ?_
            rw [HNXE.out]
            exact ⟨rfl, HFIN.out⟩
      · obtain rfl : k = n := by omega
        obtain ⟨ow1, h1, f1, hbk, hz0⟩ := HNX1.out
        obtain ⟨ok1, hr1, hq1, hnx⟩ := HOK1.out
        rw [Nat.sub_self, nextR] at hnx
        have d0 := hbk.cell (i := 0) (x := .int .i64 0) rfl
        have d1 := hbk.cell (i := 1) (x := .int .i64 0) rfl
        have d2 := hbk.cell (i := 2) (x := .int .i64 0) rfl
        have f0 := hbk.free 0
        have f1' := hbk.free 1
        have f2' := hbk.free 2
        have hk3 := keep3 (w := wr) (rb := rb) (.int .i64 0) (.int .i64 0) (.int .i64 0)
        have hb3 := ((hbk.set 0 (.int .i64 0)).set 1 (.int .i64 0)).set 2 (.int .i64 0)
        have HFIN := Lib.hid (show DDid ow B p rq (.slice a s.Q.length cap) tb qb NX.1 w (((wr.setCell ⟨rb, 0, none⟩ (.int .i64 0)).setCell ⟨rb, 1, none⟩ (.int .i64 0)).setCell ⟨rb, 2, none⟩ (.int .i64 0)) by
          rw [← hnx]
          exact ⟨ow1, h1.keep hk3 (fun j e => by have e' : j = rb := e; rw [e', hz0]) (fun _ _ => rfl) h1.lo, f1.more (by rw [HRB.out]; exact Nat.le_refl _) hk3⟩)
        have HNXE := Lib.hid (show NX.2 = none by rw [← hnx])
        have HB3 := Lib.hid hb3
        clear h1 f1 hbk hz0 ok1 hr1 hk3 hb3 hq1 hnx
        go_wp2
        obtain ⟨w5, hw5⟩ : ∃ z, (((wr.setCell ⟨rb, 0, none⟩ (.int .i64 0)).setCell ⟨rb, 1, none⟩ (.int .i64 0)).setCell ⟨rb, 2, none⟩ (.int .i64 0)) = z := ⟨_, rfl⟩
        rw [hw5] at HFIN HB3 ⊢
        have e0 := HB3.out.cell (i := 0) (x := .int .i64 0) rfl
        have e1 := HB3.out.cell (i := 1) (x := .int .i64 0) rfl
        have e2 := HB3.out.cell (i := 2) (x := .int .i64 0) rfl
        refine bodyPost_ret (v := .tuple #[turnV none, .bool false]) (by simp [results, Try.results30, go_sem, turnV, e0, e1, e2]) rfl ?_
        rw [HNXE.out]
        exact ⟨rfl, HFIN.out⟩
  · rw [if_pos (.inr hln)]
    have tl : ((left.length : Int) == (s.Q.length : Int)) = false := beq_eq_false_iff_ne.2 (by omega)
    clear h ok hv hz hal hb hln
    unfold T0 at d0 d1 d2 HFIN0 k0
    go_enter Try.func30, Try.ntmps30
    go_wp2
    refine bodyPost_ret (v := .tuple #[turnV none, .bool false]) (by simp [results, Try.results30, go_sem, turnV]) rfl ?_
    exact ⟨rfl, HFIN0.out⟩
end
end Go.Proofs.Ytmgjmpmcadjemaa

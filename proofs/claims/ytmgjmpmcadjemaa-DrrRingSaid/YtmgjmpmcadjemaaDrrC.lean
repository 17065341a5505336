/- Package drr: Spent. -/
import Derived.Test.YtmgjmpmcadjemaaDrrB
namespace Go.Proofs.Ytmgjmpmcadjemaa
open Go.RowKit

theorem dspent_nil (job used : Int) (st : Bool) (w : World) :
    Calls Try.prog 31 #[.pointer none, .int .i64 job, .int .i64 used, .bool st] w fun e w' => e = .returned (.int .i64 7) ∧ w = w' := by
  go_enter Try.func31, Try.ntmps31
  go_wp2
  go_ret
  exact ⟨rfl, rfl⟩

theorem midS_C {s : Sch} {i : Nat} {job used : Int} {st : Bool} : (midS (useS s i used) i job st).Q.length = s.Q.length := by
  unfold midS
  split
  · unfold outM; split <;> rfl
  · split <;> rfl

section
variable {ow : Nat → Nat} {B : Nat} {w : World} {p rq : Nat} {vt : Value} {tb qb : Nat → Nat} {s : Sch}

set_option maxHeartbeats 4000000 in
theorem dspent_any {K : Nat} (job used : Int) (st : Bool) (h : DAt ow B w p rq vt tb qb s) (ok : Ok K s) (hK : K ≤ 1000) :
    Calls Try.prog 31 #[.pointer (some ⟨p, 0, none⟩), .int .i64 job, .int .i64 used, .bool st] w fun e w' => e = .returned (.int .i64 (spentM s job used st).1) ∧ DDid ow B p rq vt tb qb (spentM s job used st).2 w w' := by
  have HF := Lib.hid (dfirst_any h (Nat.le_trans ok.rk hK))
  have H := Lib.hid h
  unfold spentM
  by_cases hr : s.R = []
  · rw [if_pos hr]
    rw [if_pos hr] at HF
    have HO := Lib.hid (of_out (-1) h (.inl (by decide)))
    clear h ok hr
    go_enter Try.func31, Try.ntmps31
    go_wp2_with fail
    refine HF.out.mono ?_
    rintro e w1 ⟨rfl, rfl⟩
    go_wp2_with fail
    refine HO.out.mono ?_
    rintro e w1 ⟨rfl, rfl⟩
    go_wp2
    go_ret
    exact ⟨rfl, DDid.same H.out (Below.refl _ _)⟩
  rw [if_neg hr]
  rw [if_neg hr] at HF
  obtain ⟨i, hi, hi2, hne⟩ := ok.head hr
  rw [hi] at HF
  have e1 : (s.R.headD 0).toNat = i := by rw [hi]; rfl
  rw [e1]
  have HO := Lib.hid (of_in i h hi2)
  have HFR := Lib.hid (tfront_any i h hi2 (Nat.le_trans (ok.jk i hi2) hK))
  have q0 := (h.ten i hi2).1.cell (i := 0) (x := .pointer (some ⟨qb i, 0, none⟩)) rfl
  have q2 := (h.ten i hi2).1.cell (i := 2) (x := .int .i64 (s.C.getD i 0)) rfl
  have q3 := (h.ten i hi2).1.free 2
  have hcb := ok.c i hi2
  have hqb := ok.q i hi2
  obtain ⟨f, hf⟩ : ∃ f, (s.J.getD i []).headD 0 = f := ⟨_, rfl⟩
  rw [hf] at HFR ⊢
  obtain ⟨c, hc⟩ : ∃ c, s.C.getD i 0 = c := ⟨_, rfl⟩
  have HCC := Lib.hid hc
  rw [hc] at q2 hcb ⊢
  obtain ⟨pe, hpe⟩ : ∃ z, popE (s.J.getD i []) = z := ⟨_, rfl⟩
  rw [hpe] at HFR
  have OK := Lib.hid ok
  clear h ok hr hi hf hc hpe hne e1
  by_cases hfj : f = job
  · subst hfj
    rw [if_neg (fun e => e rfl)]
    by_cases hu0 : used < 0
    · rw [if_pos (.inl hu0)]
      have d0 : decide (used < 0) = true := decide_eq_true hu0
      clear hu0
      go_enter Try.func31, Try.ntmps31
      go_wp2_with fail
      refine HF.out.mono ?_
      rintro e w1 ⟨rfl, rfl⟩
      go_wp2_with fail
      refine HO.out.mono ?_
      rintro e w1 ⟨rfl, rfl⟩
      go_wp2_with fail
      refine HFR.out.mono ?_
      rintro e w1 ⟨rfl, rfl⟩
      go_wp2
      go_ret
      exact ⟨rfl, DDid.same H.out (Below.refl _ _)⟩
    have d0 : decide (used < 0) = false := decide_eq_false hu0
    by_cases huc : c < used
    · rw [if_pos (.inr huc)]
      have d1 : decide (c < used) = true := decide_eq_true huc
      clear huc
      go_enter Try.func31, Try.ntmps31
      go_wp2_with fail
      refine HF.out.mono ?_
      rintro e w1 ⟨rfl, rfl⟩
      go_wp2_with fail
      refine HO.out.mono ?_
      rintro e w1 ⟨rfl, rfl⟩
      go_wp2_with fail
      refine HFR.out.mono ?_
      rintro e w1 ⟨rfl, rfl⟩
      go_wp2
      go_ret
      exact ⟨rfl, DDid.same H.out (Below.refl _ _)⟩
    have d1 : decide (c < used) = false := decide_eq_false huc
    rw [if_neg (fun e => e.elim hu0 huc)]
    obtain ⟨h1, f1⟩ := DAt.credit H.out hi2 (c - used)
    have hus : ({ s with C := s.C.set i (c - used) } : Sch) = useS s i used := by unfold useS; rw [HCC.out]
    rw [hus] at h1
    have ok1 : Ok K (useS s i used) := OK.out.setC i _ (by rw [HCC.out]; omega)
    have hc1 : (useS s i used).C.getD i 0 = c - used := by unfold useS; rw [getD_set_eq (by rw [OK.out.lc]; exact hi2), HCC.out]
    obtain ⟨c2, hc2⟩ : ∃ c2, c - used = c2 := ⟨_, rfl⟩
    have ww1 : IntKind.i64.wrap (c - used) = c - used := IntWalk.i64_in _ (by omega)
    have ww2 : IntKind.i64.wrap c2 = c2 := IntWalk.i64_in _ (by omega)
    rw [hc2] at h1 f1 hc1
    have H1 := Lib.hid h1
    have F1 := Lib.hid f1
    have OK1 := Lib.hid ok1
    have HC1 := Lib.hid hc1
    have hq1 : (useS s i used).Q.length = s.Q.length := rfl
    have hi3 : i < (useS s i used).Q.length := hi2
    obtain ⟨s1, hs1⟩ : ∃ s1, useS s i used = s1 := ⟨_, rfl⟩
    rw [hs1] at H1 OK1 HC1 hi3 ⊢
    have HOUT := Lib.hid (fun (w1 : World) (h : DAt ow B w1 p rq vt tb qb s1) => dout_any i f h hi3 (Nat.le_trans (OK1.out.jk i hi3) hK) (Nat.le_trans OK1.out.rk hK))
    have HROT := Lib.hid (fun (w1 : World) (h : DAt ow B w1 p rq vt tb qb s1) => trot_any i h hi3 (Nat.le_trans (OK1.out.jk i hi3) hK))
    have hcase : (st = true ∧ midS s1 i f st = outM s1 i f) ∨ (st = false ∧ c2 = 0 ∧ midS s1 i f st = rotS s1 i) ∨ (st = false ∧ c2 ≠ 0 ∧ midS s1 i f st = s1) := by
      unfold midS
      rw [HC1.out]
      cases st with
      | true => exact .inl ⟨rfl, rfl⟩
      | false =>
        rw [if_neg Bool.false_ne_true]
        by_cases e : c2 = 0
        · exact .inr (.inl ⟨rfl, e, if_pos e⟩)
        · exact .inr (.inr ⟨rfl, e, if_neg e⟩)
    have okm : Ok K (midS s1 i f st) := by
      unfold midS
      split
      · exact OK1.out.out hi3 f
      · split
        · exact OK1.out.rotJ i
        · exact OK1.out
    have OKM := Lib.hid okm
    have him : i < (midS s1 i f st).Q.length := by rw [← hs1, midS_C]; exact hi2
    obtain ⟨s2, hs2⟩ : ∃ s2, midS s1 i f st = s2 := ⟨_, rfl⟩
    rw [hs2] at OKM him hcase ⊢
    have TAIL := Lib.hid (fun (ow2 : Nat → Nat) (w2 : World) (h2 : DAt ow2 B w2 p rq vt tb qb s2) (f2 : Fr ow ow2 w w2) => (⟨
      (h2.ten i him).1.cell (i := 0) (x := .pointer (some ⟨qb i, 0, none⟩)) rfl,
      (h2.ten i him).1.cell (i := 2) (x := .int .i64 (s2.C.getD i 0)) rfl,
      tlen_any i h2 him, h2.box.cell (i := 1) (x := .pointer (some ⟨rq, 0, none⟩)) rfl, rrot_any h2 (Nat.le_trans OKM.out.rk hK)⟩ :
        w2.cell? ⟨tb i, 0, none⟩ = some (.pointer (some ⟨qb i, 0, none⟩)) ∧ w2.cell? ⟨tb i, 2, none⟩ = some (.int .i64 (s2.C.getD i 0)) ∧
        Calls Try.prog 60 #[.pointer (some ⟨qb i, 0, none⟩)] w2 (fun e w' => e = .returned (.int .i64 ((s2.J.getD i []).length : Int)) ∧ w2 = w') ∧
        w2.cell? ⟨p, 1, none⟩ = some (.pointer (some ⟨rq, 0, none⟩)) ∧
        Calls Try.prog 62 #[.pointer (some ⟨rq, 0, none⟩)] w2 (fun e w' => e = .returned (.tuple #[]) ∧ DDid ow2 B p rq vt tb qb { s2 with R := rotL s2.R } w2 w')))
    have hrest : (restS s2 i = { s2 with R := rotL s2.R } ∧ s2.C.getD i 0 = 0 ∧ 0 < (s2.J.getD i []).length) ∨ (restS s2 i = s2 ∧ s2.C.getD i 0 = 0 ∧ (s2.J.getD i []).length = 0) ∨ (restS s2 i = s2 ∧ s2.C.getD i 0 ≠ 0) := by
      unfold restS
      by_cases a : s2.C.getD i 0 = 0
      · by_cases b : s2.J.getD i [] = []
        · exact .inr (.inl ⟨if_neg (fun q => q.2 b), a, by rw [b]; rfl⟩)
        · exact .inl ⟨if_pos ⟨a, b⟩, a, List.length_pos_iff.2 b⟩
      · exact .inr (.inr ⟨if_neg (fun q => a q.1), a⟩)
    obtain ⟨c3, hc3⟩ : ∃ z, s2.C.getD i 0 = z := ⟨_, rfl⟩
    obtain ⟨N, hN⟩ : ∃ z, (s2.J.getD i []).length = z := ⟨_, rfl⟩
    obtain ⟨s3, hs3⟩ : ∃ z, restS s2 i = z := ⟨_, rfl⟩
    rw [hc3, hN, hs3] at hrest
    rw [hc3, hN] at TAIL
    rw [hs3]
    have hR0 : s1.R.length ≤ 1000 := Nat.le_trans OK1.out.rk hK
    have HC3 := Lib.hid (show s2 = s1 → c3 = c2 from fun e => by rw [← hc3, e, HC1.out])
    clear h1 f1 hus ok1 hc1 hs1 okm hs2 hc3 hN hs3 hu0 huc
    rcases hcase with ⟨rfl, hm⟩ | ⟨rfl, hc20, hm⟩ | ⟨rfl, hc20, hm⟩
    · have HM := Lib.hid hm
      clear hm
      go_enter Try.func31, Try.ntmps31
      go_wp2_with fail
      refine HF.out.mono ?_
      rintro e w1 ⟨rfl, rfl⟩
      go_wp2_with fail
      refine HO.out.mono ?_
      rintro e w1 ⟨rfl, rfl⟩
      go_wp2_with fail
      refine HFR.out.mono ?_
      rintro e w1 ⟨rfl, rfl⟩
      go_wp2_with fail
      refine (HOUT.out _ H1.out).mono ?_
      rintro e w2 ⟨rfl, hd⟩
      have HD2 := Lib.hid (show DDid ow B p rq vt tb qb s2 (w.setCell ⟨tb i, 2, none⟩ (.int .i64 c2)) w2 by rw [HM.out]; exact hd)
      clear hd HM
      have h2 := HD2.out
      obtain ⟨ow2, h2, f2⟩ := h2
      have F2 := Lib.hid (F1.out.trans f2)
      obtain ⟨v0, v2, HL2, v1, HR2⟩ := TAIL.out ow2 w2 h2 F2.out
      have HL := Lib.hid HL2
      have HR := Lib.hid HR2
      have H2 := Lib.hid h2
      clear h2 f2 HL2 HR2 TAIL HD2 q0 q2 q3 HOUT HROT
      rcases hrest with ⟨hs3, hc30, hN0⟩ | ⟨hs3, hc30, hN0⟩ | ⟨hs3, hc30⟩
      · have HS3 := Lib.hid hs3
        have t2 : decide ((0 : Int) < (N : Int)) = true := decide_eq_true (by omega)
        have t2' : decide (0 < N) = true := decide_eq_true hN0
        subst hc30
        clear hs3 hN0
        go_wp2_with fail
        refine HL.out.mono ?_
        rintro e w3 ⟨rfl, rfl⟩
        go_wp2_with fail
        refine HR.out.mono ?_
        rintro e w3 ⟨rfl, ow3, h3, f3⟩
        have HD := Lib.hid (show DDid ow B p rq vt tb qb s3 w w3 by rw [HS3.out]; exact ⟨ow3, h3, F2.out.trans f3⟩)
        clear h3 f3
        go_wp2
        go_ret
        exact ⟨rfl, HD.out⟩
      · have HD := Lib.hid (show DDid ow B p rq vt tb qb s3 w w2 by rw [hs3]; exact ⟨ow2, H2.out, F2.out⟩)
        subst hc30
        subst hN0
        clear hs3
        go_wp2_with fail
        refine HL.out.mono ?_
        rintro e w3 ⟨rfl, rfl⟩
        go_wp2
        go_ret
        exact ⟨rfl, HD.out⟩
      · have HD := Lib.hid (show DDid ow B p rq vt tb qb s3 w w2 by rw [hs3]; exact ⟨ow2, H2.out, F2.out⟩)
        have t3 : (c3 == 0) = false := beq_eq_false_iff_ne.2 hc30
        clear hs3 hc30
        go_wp2
        go_ret
        exact ⟨rfl, HD.out⟩
    · have HM := Lib.hid hm
      have z0 := (H1.out.ten i hi3).1.cell (i := 0) (x := .pointer (some ⟨qb i, 0, none⟩)) rfl
      subst hc20
      clear hm
      go_enter Try.func31, Try.ntmps31
      go_wp2_with fail
      refine HF.out.mono ?_
      rintro e w1 ⟨rfl, rfl⟩
      go_wp2_with fail
      refine HO.out.mono ?_
      rintro e w1 ⟨rfl, rfl⟩
      go_wp2_with fail
      refine HFR.out.mono ?_
      rintro e w1 ⟨rfl, rfl⟩
      go_wp2_with fail
      refine (HROT.out _ H1.out).mono ?_
      rintro e w2 ⟨rfl, hd⟩
      have HD2 := Lib.hid (show DDid ow B p rq vt tb qb s2 (w.setCell ⟨tb i, 2, none⟩ (.int .i64 0)) w2 by rw [HM.out]; exact hd)
      clear hd HM z0
      have h2 := HD2.out
      obtain ⟨ow2, h2, f2⟩ := h2
      have F2 := Lib.hid (F1.out.trans f2)
      obtain ⟨v0, v2, HL2, v1, HR2⟩ := TAIL.out ow2 w2 h2 F2.out
      have HL := Lib.hid HL2
      have HR := Lib.hid HR2
      have H2 := Lib.hid h2
      clear h2 f2 HL2 HR2 TAIL HD2 q0 q2 q3 HOUT HROT
      rcases hrest with ⟨hs3, hc30, hN0⟩ | ⟨hs3, hc30, hN0⟩ | ⟨hs3, hc30⟩
      · have HS3 := Lib.hid hs3
        have t2 : decide ((0 : Int) < (N : Int)) = true := decide_eq_true (by omega)
        have t2' : decide (0 < N) = true := decide_eq_true hN0
        subst hc30
        clear hs3 hN0
        go_wp2_with fail
        refine HL.out.mono ?_
        rintro e w3 ⟨rfl, rfl⟩
        go_wp2_with fail
        refine HR.out.mono ?_
        rintro e w3 ⟨rfl, ow3, h3, f3⟩
        have HD := Lib.hid (show DDid ow B p rq vt tb qb s3 w w3 by rw [HS3.out]; exact ⟨ow3, h3, F2.out.trans f3⟩)
        clear h3 f3
        go_wp2
        go_ret
        exact ⟨rfl, HD.out⟩
      · have HD := Lib.hid (show DDid ow B p rq vt tb qb s3 w w2 by rw [hs3]; exact ⟨ow2, H2.out, F2.out⟩)
        subst hc30
        subst hN0
        clear hs3
        go_wp2_with fail
        refine HL.out.mono ?_
        rintro e w3 ⟨rfl, rfl⟩
        go_wp2
        go_ret
        exact ⟨rfl, HD.out⟩
      · have HD := Lib.hid (show DDid ow B p rq vt tb qb s3 w w2 by rw [hs3]; exact ⟨ow2, H2.out, F2.out⟩)
        have t3 : (c3 == 0) = false := beq_eq_false_iff_ne.2 hc30
        clear hs3 hc30
        go_wp2
        go_ret
        exact ⟨rfl, HD.out⟩
    · have hc30 : c3 ≠ 0 := by rw [HC3.out hm]; exact hc20
      have hs3 : s3 = s2 := by
        rcases hrest with ⟨_, q, _⟩ | ⟨_, q, _⟩ | ⟨q, _⟩
        · exact absurd q hc30
        · exact absurd q hc30
        · exact q
      have HD := Lib.hid (show DDid ow B p rq vt tb qb s3 w (w.setCell ⟨tb i, 2, none⟩ (.int .i64 c2)) by rw [hs3, hm]; exact ⟨ow, H1.out, F1.out⟩)
      have t9 : (c2 == 0) = false := beq_eq_false_iff_ne.2 hc20
      clear hm hrest hs3 hc30 TAIL HOUT HROT HC3
      go_enter Try.func31, Try.ntmps31
      go_wp2_with fail
      refine HF.out.mono ?_
      rintro e w1 ⟨rfl, rfl⟩
      go_wp2_with fail
      refine HO.out.mono ?_
      rintro e w1 ⟨rfl, rfl⟩
      go_wp2_with fail
      refine HFR.out.mono ?_
      rintro e w1 ⟨rfl, rfl⟩
      go_wp2
      go_ret
      exact ⟨rfl, HD.out⟩
  · rw [if_pos hfj]
    have t1 : (f == job) = false := beq_eq_false_iff_ne.2 hfj
    clear hfj
    go_enter Try.func31, Try.ntmps31
    go_wp2_with fail
    refine HF.out.mono ?_
    rintro e w1 ⟨rfl, rfl⟩
    go_wp2_with fail
    refine HO.out.mono ?_
    rintro e w1 ⟨rfl, rfl⟩
    go_wp2_with fail
    refine HFR.out.mono ?_
    rintro e w1 ⟨rfl, rfl⟩
    go_wp2
    go_ret
    exact ⟨rfl, DDid.same H.out (Below.refl _ _)⟩
end
end Go.Proofs.Ytmgjmpmcadjemaa

/- Package picks: the law PicksSteps. -/
import Derived.Test.YtoebnibhkdidhaaPicK
namespace Go.Proofs.Ytoebnibhkdidhaa
open Go.RowKit

theorem RInts.keepB {S : Nat → Prop} {w w' : World} {v : Value} {l : List Int} (h : RInts w v l) (k : Keep S w w') (hs : l ≠ [] → ∀ b, v.ownBlock = some b → ¬ S b) : RInts w' v l := by
  cases l with
  | nil =>
    obtain ⟨a, cap, rfl, h1, h2, _⟩ := h.1
    exact ⟨⟨a, cap, rfl, h1, h2, fun h => absurd h (Nat.lt_irrefl 0)⟩, h.2⟩
  | cons x l => exact h.keep k (fun b hb => hs (by simp) b hb)
/-- what a reader has so far -/
def curS (come : Bool) (cut : Nat) (S : List UInt8) : List UInt8 := if come then S else S.take cut
theorem curS_bits (come : Bool) (cut : Nat) (S : List UInt8) : ∃ t, bitsL S = bitsL (curS come cut S) ++ t := by
  cases come with
  | true => exact ⟨[], by simp [curS]⟩
  | false => exact ⟨bitsL (S.drop cut), by rw [curS, if_neg Bool.false_ne_true, ← bitsL_append, List.take_append_drop]⟩
theorem curS_len (come : Bool) (cut : Nat) (S : List UInt8) : (curS come cut S).length ≤ S.length := by
  unfold curS
  split
  · exact Nat.le_refl _
  · rw [List.length_take]; omega

def GG (g : Nat) (vg : Value) (j : Nat) : Prop := j = g ∨ (vg.ownBlock = some j ∧ j < g + 1)
/-- the state of a run in pieces -/
structure PSt (w wr : World) (p r g t count : Nat) (O : List UInt8) (l : List Int) (come : Bool) (cut c : Nat) (S : List UInt8) (vg : Value) (rl : List Int) (rt ru ro : Nat) (re : Int) : Prop where
  ps : PS p (GG g vg) wr p r t count O l false (curS come cut S) 0 c
  go : goP t count O l c ((bitsL S).drop c) = (rl, rt, ru, ro, re)
  st : StP t count O l
  box : Blk wr g [vg, .int .i64 (rt : Int), .int .i64 (ru : Int), .int .i64 (ro : Int), .int .i64 re] 60
  rg : RInts wr vg rl
  bl : Below w.heap.size w wr
  wp : w.heap.size ≤ p
  pr : p < r
  gr : g ≠ r
  vr : vg.ownBlock ≠ some r
  vg1 : rl ≠ [] → ∀ j, vg.ownBlock = some j → j < g + 1
theorem PSt.below {w wr w2 : World} {p r g t count : Nat} {O : List UInt8} {l : List Int} {come : Bool} {cut c : Nat} {S : List UInt8} {vg : Value} {rl : List Int} {rt ru ro : Nat} {re : Int} (h : PSt w wr p r g t count O l come cut c S vg rl rt ru ro re) (k : Below wr.heap.size wr w2) : PSt w w2 p r g t count O l come cut c S vg rl rt ru ro re :=
  ⟨h.ps.below k, h.go, h.st, h.box.below k, h.rg.below k, h.bl.trans (below_of k h.bl.size), h.wp, h.pr, h.gr, h.vr, h.vg1⟩
theorem PSt.rest {w wr : World} {p r g t count : Nat} {O : List UInt8} {l : List Int} {come : Bool} {cut c : Nat} {S : List UInt8} {vg : Value} {rl : List Int} {rt ru ro : Nat} {re : Int} (h : PSt w wr p r g t count O l come cut c S vg rl rt ru ro re) :
    ∃ tl, (bitsL S).drop c = (bitsL (curS come cut S)).drop c ++ tl := by
  obtain ⟨t, ht⟩ := curS_bits come cut S
  have hc := h.ps.rd.hi
  exact ⟨t, by rw [ht, List.drop_append_of_le_length (by rw [bitsL_len]; exact hc)]⟩
/-- a step, or more bits -/
theorem PSt.turn {w wr w2 : World} {p r g t count t2 count2 : Nat} {O O2 : List UInt8} {l l2 : List Int} {come come2 : Bool} {cut c c2 : Nat} {S : List UInt8} {vg : Value} {rl : List Int} {rt ru ro : Nat} {re : Int} (h : PSt w wr p r g t count O l come cut c S vg rl rt ru ro re)
    (k : Keep (MayTurn p (GG g vg) r) wr w2) (ps : PS p (GG g vg) w2 p r t2 count2 O2 l2 false (curS come2 cut S) 0 c2) (go : goP t2 count2 O2 l2 c2 ((bitsL S).drop c2) = (rl, rt, ru, ro, re)) (st : StP t2 count2 O2 l2) :
    PSt w w2 p r g t2 count2 O2 l2 come2 cut c2 S vg rl rt ru ro re := by
  refine ⟨ps, go, st, h.box.keep k (fun q => q.elim h.gr (fun z => z.2 (.inl rfl))), h.rg.keepB k (fun hne b hb q => q.elim (fun e => h.vr (by rw [hb, e])) (fun z => z.2 (.inr ⟨hb, h.vg1 hne b hb⟩))), ?_, h.wp, h.pr, h.gr, h.vr, h.vg1⟩
  refine h.bl.trans (k.below (B := w.heap.size) h.bl.size (fun j hj q => q.elim (fun e => ?_) (fun z => ?_)))
  · have := h.pr; have := h.wp; omega
  · have := z.1; have := h.wp; omega

set_option maxHeartbeats 8000000 in
set_option maxRecDepth 100000 in
theorem lawPicksSteps {s : ByteArray} {cu : Int} {w : World} (_hs : s.size ≤ maxLen) (_ha1 : -9223372036854775808 ≤ cu) (_ha2 : cu ≤ 9223372036854775807) :
    Calls Try.prog 13 #[.string s, .int .i64 cu] w fun e w' => e = .returned (.bool true) ∧ Below w.heap.size w w' := by
  have HLT := Lib.hid three13_any
  by_cases hz : 60 < s.size
  · have t1 : decide ((60 : Int) < (s.size : Int)) = true := decide_eq_true (by omega)
    have t1' : decide (60 < s.size) = true := decide_eq_true (by omega)
    clear hz
    go_enter Try.func13, Try.ntmps13
    go_wp2_with fail
    refine (HLT.out _).mono ?_
    rintro e w1 ⟨rfl, hb⟩
    go_wp2
    go_ret
    exact ⟨rfl, hb⟩
  have t1 : decide ((60 : Int) < (s.size : Int)) = false := decide_eq_false (by omega)
  have t1' : decide (60 < s.size) = false := decide_eq_false (by omega)
  by_cases ha : cu < 0
  · have t2 : decide (cu < 0) = true := decide_eq_true ha
    clear ha hz
    go_enter Try.func13, Try.ntmps13
    go_wp2_with fail
    refine (HLT.out _).mono ?_
    rintro e w1 ⟨rfl, hb⟩
    go_wp2
    go_ret
    exact ⟨rfl, hb⟩
  have t2 : decide (cu < 0) = false := decide_eq_false ha
  by_cases hb8 : (s.size : Int) < cu
  · have t3 : decide ((s.size : Int) < cu) = true := decide_eq_true hb8
    clear ha hz hb8
    go_enter Try.func13, Try.ntmps13
    go_wp2_with fail
    refine (HLT.out _).mono ?_
    rintro e w1 ⟨rfl, hb⟩
    go_wp2
    go_ret
    exact ⟨rfl, hb⟩
  have t3 : decide ((s.size : Int) < cu) = false := decide_eq_false hb8
  obtain ⟨cut, rfl⟩ : ∃ c : Nat, cu = c := ⟨cu.toNat, by omega⟩
  obtain ⟨S, hS⟩ : ∃ S, s = str S := ⟨_, str_of s⟩
  have hsz : s.size = S.length := by rw [hS, str_size]
  have hSl : S.length ≤ 60 := by omega
  have hcut : cut ≤ S.length := by omega
  have hX1 : s.extract 0 cut = str (S.take cut) := by rw [hS, str_extract, List.drop_zero, Nat.sub_zero]
  have hX2 : s.extract cut s.size = str (S.drop cut) := by rw [hS, str_extract, str_size, List.take_of_length_le (by rw [List.length_drop]; omega)]
  have HNR := Lib.hid (fun w => rnew_any (str (S.take cut)) w (by rw [str_size, List.length_take]; omega))
  rw [show (str (S.take cut)).data.toList = S.take cut from rfl] at HNR
  have HRB := Lib.hid (fun w => refbits_any s S w hS (by omega))
  have HRF := Lib.hid (fun w => refread_any _ (bitsL S) w rfl (by rw [bitsL_len]; omega))
  unfold RefQ at HRF
  have HGO := Lib.hid (show refP (bitsL S) = goP 0 0 LET [] 0 (bitsL S) from rfl)
  obtain ⟨⟨rl, rt, ru, ro, re⟩, hrf⟩ : ∃ z, refP (bitsL S) = z := ⟨_, rfl⟩
  rw [hrf] at HRF HGO
  have hmore : ∀ (r : Nat) (c : Nat) (w : World), ReaderAt w r (S.take cut) 0 c → Calls Try.prog 53 #[.pointer (some ⟨r, 0, none⟩), .string (str (S.drop cut))] w fun e w' => e = .returned (.int .i64 0) ∧ RDid r S 0 c w w' := by
    intro r c w h
    have := rmore_any r (S.take cut) (S.drop cut) 0 c _ w h rfl (by rw [List.length_take, List.length_drop]; omega)
    rwa [List.take_append_drop] at this
  have HMO := Lib.hid hmore
  obtain ⟨sb, hsb⟩ : ∃ z, stx (bitsL S) = z := ⟨_, rfl⟩
  rw [hsb] at HRB HRF
  obtain ⟨s1, hs1⟩ : ∃ z, str (S.take cut) = z := ⟨_, rfl⟩
  obtain ⟨s2, hs2⟩ : ∃ z, str (S.drop cut) = z := ⟨_, rfl⟩
  rw [hs1] at hX1 HNR
  rw [hs2] at hX2 HMO
  have hsi : (s.size : Int) = (S.length : Int) := by omega
  have e8 : IntKind.i64.wrap (8 * (S.length : Int)) = 8 * (S.length : Int) := IntWalk.i64_in _ (by omega)
  have e9 : IntKind.i64.wrap (8 * (S.length : Int) + 9) = 8 * (S.length : Int) + 9 := IntWalk.i64_in _ (by omega)
  have hci : (cut : Int) ≤ (S.length : Int) := by omega
  obtain ⟨N, hN⟩ : ∃ z, 8 * S.length + 9 = z := ⟨_, rfl⟩
  have hNi : 8 * (S.length : Int) + 9 = (N : Int) := by omega
  have HNL := Lib.hid (show N = 8 * S.length + 9 ∧ N ≤ 489 by omega)
  have hNw : IntKind.i64.wrap (N : Int) = (N : Int) := IntWalk.i64_in _ (by omega)
  clear ha hz hb8 hS hsz hrf hsb hs1 hs2 hmore hN
  go_enter Try.func13, Try.ntmps13
  go_wp2_with fail
  refine (pnew_any w).mono ?_
  rintro e w1 ⟨p, rfl, hp, hd1, hb1⟩
  have HD1 := Lib.hid hd1
  have HB1 := Lib.hid hb1
  have HP := Lib.hid hp
  clear hd1 hb1 hp
  go_wp2_with fail
  refine (HNR.out _).mono ?_
  rintro e w2 ⟨r, rfl, hr, hrd, hb2⟩
  have HRL := Lib.hid (show r < w2.heap.size from hrd.box.lt)
  have HPR := Lib.hid (show p < r by have := HD1.out.box.lt; omega)
  have HDS := Lib.hid (show PS p (fun _ => False) w2 p r 0 0 LET [] false (S.take cut) 0 0 from
    ⟨⟨_, HD1.out.below hb2, fun g hg => by simp [Value.ownBlock] at hg, by simp [Value.ownBlock]⟩, hrd, by have := HPR.out; omega, ⟨Nat.le_refl _, fun h => h⟩, nog w2⟩)
  have HB2 := Lib.hid (HB1.out.trans (below_of hb2 HB1.out.size))
  clear HNR hr hrd hb2 HD1 HB1
  go_wp2_with fail
  refine (HRB.out _).mono ?_
  rintro e w3 ⟨rfl, rfl⟩
  clear HRB
  go_wp2_with fail
  refine (HRF.out _).mono ?_
  rintro e w3 ⟨vg, rfl, hvg, hfg, hb3⟩
  dsimp only at hvg ⊢
  obtain ⟨ag, cg, rfl, -, -⟩ := hvg.shape
  have hal := below_alloc w3 (.cells #[.slice ag rl.length cg, .int .i64 (rt : Int), .int .i64 (ru : Int), .int .i64 (ro : Int), .int .i64 re] 60 (0, 0))
  have hq := below_two hb3 hal
  have hpst : PSt w (w3.alloc (.cells #[.slice ag rl.length cg, .int .i64 (rt : Int), .int .i64 (ru : Int), .int .i64 (ro : Int), .int .i64 re] 60 (0, 0))) p r w3.heap.size 0 0 LET [] false cut 0 S (.slice ag rl.length cg) rl rt ru ro re := by
    have h3 := hb3.size
    refine ⟨HDS.out.more hq (fun j hj => .inr ?_), by rw [List.drop_zero]; exact HGO.out.symm, StP.start, Blk.new w3 _ _, hvg.below hal, HB2.out.trans (below_of hq HB2.out.size), HP.out, HPR.out, by have := HRL.out; omega, fun e => by have := hfg r e; have := HRL.out; omega, fun hne j hj => ?_⟩
    · rcases hj with rfl | ⟨h1, h2⟩
      · simp; omega
      · have := hfg j h1; simp; omega
    · have := rints_lt hvg (by cases rl with | nil => exact absurd rfl hne | cons x l => simp) j hj
      omega
  obtain ⟨g, hg⟩ : ∃ z, w3.heap.size = z := ⟨_, rfl⟩
  rw [hg] at hpst
  have HST := Lib.hid hpst
  have HGL := Lib.hid hg
  clear HRF hvg hfg hb3 hal hq hpst HDS HB2 HGO
  go_wp2
  go_loopw [8, 37] (fun cv i wr => ∃ (k t count : Nat) (O : List UInt8) (l : List Int) (come : Bool) (c : Nat), k ≤ N ∧ i = .int .i64 (k : Int) ∧ cv = .bool come ∧ k ≤ c + come.toNat ∧ Hid (PSt w wr p r g t count O l come cut c S (.slice ag rl.length cg) rl rt ru ro re)) (fun _ i _ => N - (intOf i).toNat)
  case atStart => exact ⟨0, 0, 0, LET, [], false, 0, Nat.zero_le _, rfl, rfl, Nat.zero_le _, HST.out⟩
  case round =>
    clear HST
    obtain ⟨k, t, count, O, l, come, c, hkN, rfl, rfl, hkc, HS⟩ := hrel
    have hN2 := HNL.out
    have hc8 : c ≤ 8 * S.length := by have h1 := HS.out.ps.rd.hi; have h2 := curS_len come cut S; omega
    rcases Nat.lt_or_ge k N with hlt | hge
    rotate_left
    · exfalso
      have : come.toNat ≤ 1 := by cases come <;> decide
      omega
    · have hltI : (k : Int) < 8 * (S.length : Int) + 9 := by omega
      have hltN : (k : Int) < (N : Int) := by omega
      have HN1 := Lib.hid (show k + 1 ≤ N ∧ c ≤ 8 * S.length from ⟨hlt, hc8⟩)
      clear hN2
      obtain ⟨vl, h1, hzv, hnr⟩ := HS.out.ps.ex
      cases hq : doneB count l with
      | true =>
        obtain ⟨hc0, hlc⟩ := doneB_yes hq
        have he : (rl, rt, ru, ro, re) = (l, t, c, c, (0 : Int)) := by rw [← HS.out.go, goP_done _ hlc hc0]
        simp only [Prod.mk.injEq] at he
        obtain ⟨rfl, rfl, rfl, rfl, rfl⟩ := he
        have HDN := Lib.hid (pdone_any p rt count O vl rl false true wr h1 hq)
        have HD1 := Lib.hid h1
        have hrl : rl.length ≤ 1000000 := by have := HS.out.st.le; have := HS.out.st.cnt; omega
        have HSD := Lib.hid (fun w h => pStep_done p r rt count O vl rl false w h hq)
        have HAT := Lib.hid (fun w h => rat_any r (curS come cut S) 0 ro w h)
        have HTB := Lib.hid (fun w h => ptables_any p rt count O vl rl false w h)
        have HLS := Lib.hid (fun w h => ppicks_any p rt count O vl rl false w h hrl)
        clear h1 hzv hnr hc0 hlc hq
        go_wp2_with fail
        refine HDN.out.mono ?_
        rintro e x1 ⟨rfl, hq⟩
        have hqd := below_two hq (below_drew1 _)
        have H1 := Lib.hid (HS.out.below hqd)
        have HDX := Lib.hid (HD1.out.below hqd)
        have hbx := H1.out.box
        have g0 := hbx.cell (i := 0) (x := .slice ag rl.length cg) rfl
        have g1 := hbx.cell (i := 1) (x := .int .i64 (rt : Int)) rfl
        have g2 := hbx.cell (i := 2) (x := .int .i64 (ro : Int)) rfl
        have g4 := hbx.cell (i := 4) (x := .int .i64 0) rfl
        clear HDN hq hqd hbx HS HD1
        go_wp2
        go_region_held3 (fun w' => w'.cell? ⟨g, 0, none⟩ = some (.slice ag rl.length cg) ∧ w'.cell? ⟨g, 1, none⟩ = some (.int .i64 (rt : Int)) ∧ w'.cell? ⟨g, 2, none⟩ = some (.int .i64 (ro : Int)) ∧ w'.cell? ⟨g, 4, none⟩ = some (.int .i64 0))
          (first | (with_reducible exact ⟨g0, g1, g2, g4⟩) | (with_reducible exact ⟨cellB g0 hA1, cellB g1 hA1, cellB g2 hA1, cellB g4 hA1⟩) | (with_reducible exact ⟨cellB g0 hA3, cellB g1 hA3, cellB g2 hA3, cellB g4 hA3⟩) | (with_reducible exact ⟨cellB g0 hA4, cellB g1 hA4, cellB g2 hA4, cellB g4 hA4⟩) | (with_reducible exact ⟨cellB g0 hA5, cellB g1 hA5, cellB g2 hA5, cellB g4 hA5⟩) | assumption)
          (first
            | (go_at_call 29; refine (HLT.out _).mono ?_; rintro e y5 ⟨rfl, hq⟩; have hA5 := below_two hA4 hq; clear hq)
            | (go_at_call 17; refine (ints_same _ _ rl _ hv3 (H1.out.rg.below hA3)).mono ?_; rintro e y4 ⟨rfl, hd⟩; have hA4 := below_two hA3 (below_drawn hd); clear hd)
            | (go_at_call 46; refine (HLS.out _ (HDX.out.below hA1)).mono ?_; rintro e y3 ⟨v3, rfl, hv3, hf3, hq⟩; have hA3 := below_two hA1 hq; clear hq hf3)
            | (go_at_call 45; refine (HTB.out _ (HDX.out.below hA1)).mono ?_; rintro e y2b ⟨rfl, rfl⟩)
            | (go_at_call 35; refine (HAT.out _ (H1.out.ps.rd.below hA1)).mono ?_; rintro e y2 ⟨rfl, rfl⟩)
            | (go_at_call 42; refine (HSD.out _ HDX.out).mono ?_; rintro e y1 ⟨rfl, hA1⟩))
        all_goals
          have HE := Lib.hid (H1.out.bl.trans (below_of hA5 H1.out.bl.size))
          clear g0 g1 g2 g4 hv3
          go_wp2
          go_ret
          exact ⟨rfl, HE.out⟩
      | false =>
        have HND := Lib.hid (doneB_no hq)
        have HDN := Lib.hid (pdone_any p t count O vl l false false wr h1 hq)
        have HSA := Lib.hid (fun w h hB => pStep_any p (GG g (.slice ag rl.length cg)) p r t count O l (curS come cut S) 0 c w h hB HS.out.st hq)
        have HCS := Lib.hid (stepP_cases t count O ((bitsL (curS come cut S)).drop c))
        obtain ⟨tl, htl⟩ := HS.out.rest
        have HMR := Lib.hid (fun h => stepP_more (t := t) (count := count) (O := O) (r := (bitsL (curS come cut S)).drop c) tl h)
        rw [← htl] at HMR
        have HNIL := Lib.hid (show come = true → stepP t count O ((bitsL S).drop c) = stepP t count O ((bitsL (curS come cut S)).drop c) from fun h => by rw [h]; rfl)
        obtain ⟨⟨er, u, t', c', O', app⟩, hst⟩ : ∃ z, stepP t count O ((bitsL (curS come cut S)).drop c) = z := ⟨_, rfl⟩
        rw [hst] at HSA HCS HMR HNIL
        dsimp only at HCS HMR
        have HGS := Lib.hid (fun h : stepP t count O ((bitsL S).drop c) = (er, u, t', c', O', app) => goP_step c h HS.out.st HND.out)
        have HQW := Lib.hid hq
        have hkc2 := Lib.hid hkc
        clear h1 hzv hnr hst htl hq
        go_wp2_with fail
        refine HDN.out.mono ?_
        rintro e x1 ⟨rfl, hq⟩
        have H1 := Lib.hid (HS.out.below hq)
        clear HDN hq HS
        go_wp2_with fail
        refine (rat_any r _ 0 c _ H1.out.ps.rd).mono ?_
        rintro e x2 ⟨rfl, rfl⟩
        go_wp2_with fail
        refine (HSA.out _ H1.out.ps (by have := H1.out.ps.rd.box.lt; have := H1.out.pr; omega)).mono ?_
        rintro e x2 ⟨rfl, hds2, hk2⟩
        dsimp only at hds2 ⊢
        have HDS2 := Lib.hid hds2
        have HK2 := Lib.hid hk2
        clear HSA hds2 hk2
        rcases HCS.out with rfl | h3 | ⟨u2, h3⟩
        · have hgs := HGS.out (HMR.out (by decide))
          have hgs2 : StP t' c' O' (l ++ app) ∧ 0 < u ∧ goP t count O l c ((bitsL S).drop c) = goP t' c' O' (l ++ app) (c + u) (((bitsL S).drop c).drop u) := by
            rcases hgs with ⟨_, h1, _, _, h4, h5⟩ | ⟨h, _⟩ | ⟨h, _⟩
            · exact ⟨h1, h4, h5⟩
            · exact absurd h (by decide)
            · exact absurd h (by decide)
          obtain ⟨hst2, hu0, hgo⟩ := hgs2
          rw [List.drop_drop] at hgo
          have HT := Lib.hid (H1.out.turn HK2.out HDS2.out (hgo.symm.trans H1.out.go) hst2)
          have HKC := Lib.hid (show k + 1 ≤ c + u + come.toNat by have := hkc2.out; omega)
          clear hgs hst2 hu0 hgo
          go_wp2
          go_roundw
          case rel => exact ⟨k + 1, t', c', O', _, come, c + u, HN1.out.1, by go_num, rfl, HKC.out, HT.out⟩
          case measure => simp [intOf]; omega
        · have h3 := h3.symm
          simp only [Prod.mk.injEq] at h3
          obtain ⟨rfl, rfl, rfl, rfl, rfl, rfl⟩ := h3
          cases come with
          | true =>
            have hgs := HGS.out (HNIL.out rfl)
            have he : (rl, rt, ru, ro, re) = (([] : List Int), (0 : Nat), (0 : Nat), (0 : Nat), (3 : Int)) := by
              rcases hgs with ⟨h, _⟩ | ⟨_, _, _, _, _, _, h5⟩ | ⟨h, _⟩
              · exact absurd h (by decide)
              · exact H1.out.go.symm.trans h5
              · exact absurd h (by decide)
            simp only [Prod.mk.injEq] at he
            obtain ⟨rfl, rfl, rfl, rfl, rfl⟩ := he
            have HB2 := Lib.hid (H1.out.bl.trans (HK2.out.below (B := w.heap.size) H1.out.bl.size (fun j hj q => q.elim (fun e => by have := H1.out.pr; have := H1.out.wp; omega) (fun z => by have := z.1; have := H1.out.wp; omega))))
            have hbx := H1.out.box.keep HK2.out (fun q => q.elim H1.out.gr (fun z => z.2 (.inl rfl)))
            have g4 := hbx.cell (i := 4) (x := .int .i64 3) rfl
            have HRR := Lib.hid (show ReaderAt x2 r (curS true cut S) 0 c from HDS2.out.rd)
            clear hgs hbx
            go_wp2_with fail
            refine (rat_any r _ 0 c _ HRR.out).mono ?_
            rintro e x3 ⟨rfl, rfl⟩
            go_wp2_with fail
            refine (HLT.out _).mono ?_
            rintro e x3 ⟨rfl, hq⟩
            have HB3 := Lib.hid (HB2.out.trans (below_of hq HB2.out.size))
            clear hq g4
            go_wp2
            go_ret
            exact ⟨rfl, HB3.out⟩
          | false =>
            have HRR := Lib.hid (show ReaderAt x2 r (S.take cut) 0 c from HDS2.out.rd)
            have HM := Lib.hid (HMO.out r c x2 HRR.out)
            have HD2 := Lib.hid (show PS p (GG g (.slice ag rl.length cg)) x2 p r t count O l false (S.take cut) 0 c by
              have := HDS2.out
              rw [List.append_nil] at this
              exact this)
            clear HDS2
            go_wp2_with fail
            refine (rat_any r _ 0 c _ HRR.out).mono ?_
            rintro e x3 ⟨rfl, rfl⟩
            go_wp2_with fail
            refine HM.out.mono ?_
            rintro e x3 ⟨rfl, hd3⟩
            have HT := Lib.hid (H1.out.turn (come2 := true) (HK2.out.trans (RDid.turn hd3)) (show PS p (GG g (.slice ag rl.length cg)) x3 p r t count O l false (curS true cut S) 0 c from HD2.out.move hd3) H1.out.go H1.out.st)
            have HKC := Lib.hid (show k + 1 ≤ c + true.toNat by have := hkc2.out; simp at this ⊢; exact this)
            clear HM hd3
            go_wp2
            go_roundw
            case rel => exact ⟨k + 1, t, count, O, l, true, c, HN1.out.1, by go_num, rfl, HKC.out, HT.out⟩
            case measure => simp [intOf]; omega
        · have h3 := h3.symm
          simp only [Prod.mk.injEq] at h3
          obtain ⟨rfl, rfl, rfl, rfl, rfl, rfl⟩ := h3
          have hgs := HGS.out (HMR.out (by decide))
          obtain ⟨z, hz⟩ : ∃ z, c + u2 = z := ⟨_, rfl⟩
          rw [hz] at hgs
          have he : (rl, rt, ru, ro, re) = (([] : List Int), (0 : Nat), (0 : Nat), z, (25 : Int)) := by
            rcases hgs with ⟨h, _⟩ | ⟨h, _⟩ | ⟨_, _, _, _, _, _, h5⟩
            · exact absurd h (by decide)
            · exact absurd h (by decide)
            · exact H1.out.go.symm.trans h5
          simp only [Prod.mk.injEq] at he
          obtain ⟨rfl, rfl, rfl, rfl, rfl⟩ := he
          have HB2 := Lib.hid (H1.out.bl.trans (HK2.out.below (B := w.heap.size) H1.out.bl.size (fun j hj q => q.elim (fun e => by have := H1.out.pr; have := H1.out.wp; omega) (fun z => by have := z.1; have := H1.out.wp; omega))))
          have hbx := H1.out.box.keep HK2.out (fun q => q.elim H1.out.gr (fun z => z.2 (.inl rfl)))
          have g3 := hbx.cell (i := 3) (x := .int .i64 (ro : Int)) rfl
          have g4 := hbx.cell (i := 4) (x := .int .i64 25) rfl
          have hd2 := HDS2.out
          rw [List.append_nil, hz] at hd2
          have hd3 : PS p (GG g (.slice ag ([] : List Int).length cg)) x2 p r t count O l true (curS come cut S) 0 ro := hd2
          obtain ⟨vl2, q1, -, -⟩ := hd3.ex
          have hdr := below_drew1 x2
          have g3' := cellB g3 hdr
          have g4' := cellB g4 hdr
          have HRD := Lib.hid (hd3.rd.below hdr)
          have HQ1 := Lib.hid (q1.below hdr)
          have HSW := Lib.hid (pStep_wrong p r t count O vl2 l x2.drew HQ1.out HQW.out)
          have HBD := Lib.hid (HB2.out.trans (below_of hdr HB2.out.size))
          clear hgs hbx hd2 hd3 q1 HDS2 hz g3 g4 hdr
          go_wp2
          go_region_held3 (fun w' => w'.cell? ⟨g, 3, none⟩ = some (.int .i64 (ro : Int)) ∧ w'.cell? ⟨g, 4, none⟩ = some (.int .i64 25))
            (first | (with_reducible exact ⟨g3', g4'⟩) | (with_reducible exact ⟨cellB g3' hA1, cellB g4' hA1⟩) | (with_reducible exact ⟨cellB g3' hA4, cellB g4' hA4⟩) | (with_reducible exact ⟨cellB g3' hA5, cellB g4' hA5⟩) | assumption)
            (first
              | (go_at_call 29; refine (HLT.out _).mono ?_; rintro e y5 ⟨rfl, hq⟩; have hA5 := below_two hA4 hq; clear hq)
              | (go_at_call 44; refine (pdone_any p t count O vl2 l true false _ (HQ1.out.below hA1) HQW.out).mono ?_; rintro e y4 ⟨rfl, hq⟩; have hA4 := below_two hA1 hq; clear hq)
              | (go_at_call 35; refine (rat_any r _ 0 ro _ (HRD.out.below hA1)).mono ?_; rintro e y3 ⟨rfl, rfl⟩)
              | (go_at_call 35; refine (rat_any r _ 0 ro _ HRD.out).mono ?_; rintro e y2 ⟨rfl, rfl⟩)
              | (go_at_call 42; refine HSW.out.mono ?_; rintro e y1 ⟨rfl, hA1⟩))
          all_goals
            have HE := Lib.hid (HBD.out.trans (below_of hA5 HBD.out.size))
            clear g3' g4'
            go_wp2
            go_ret
            exact ⟨rfl, HE.out⟩
end Go.Proofs.Ytoebnibhkdidhaa

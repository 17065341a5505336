/- Package picks: Step, Read. -/
import Derived.Test.YtoebnibhkdidhaaPicF
import Derived.Deep.LoopGhost
namespace Go.Proofs.Ytoebnibhkdidhaa
open Go.RowKit

def doneB (count : Nat) (l : List Int) : Bool := decide (count ≠ 0) && decide (l.length = count)
theorem doneB_no {count : Nat} {l : List Int} (h : doneB count l = false) : ¬ (count ≠ 0 ∧ l.length = count) := by
  rintro ⟨h1, h2⟩
  unfold doneB at h
  rw [decide_eq_true h1, decide_eq_true h2] at h
  cases h
theorem doneB_yes {count : Nat} {l : List Int} (h : doneB count l = true) : count ≠ 0 ∧ l.length = count := by
  unfold doneB at h
  simpa using h
/-- what Step leaves -/
def StepQ (B : Nat) (G : Nat → Prop) (p r t count : Nat) (l : List Int) (S : List UInt8) (d a : Nat) (st : Int × Nat × Nat × Nat × List UInt8 × List Int) (w : World) (x : Ending) (w' : World) : Prop :=
  x = .returned (.int .i64 st.1) ∧ PS B G w' p r st.2.2.1 st.2.2.2.1 st.2.2.2.2.1 (l ++ st.2.2.2.2.2) (decide (st.1 = 25)) S d (a + st.2.1) ∧ Keep (MayTurn B G r) w w'

set_option maxHeartbeats 1000000 in
theorem pStep_any (B : Nat) (G : Nat → Prop) (p r t count : Nat) (O : List UInt8) (l : List Int) (S : List UInt8) (d a : Nat) (w : World) (h : PS B G w p r t count O l false S d a) (hB : B ≤ w.heap.size) (hs : StP t count O l) (hq : doneB count l = false) :
    Calls Try.prog 42 #[.pointer (some ⟨p, 0, none⟩), .pointer (some ⟨r, 0, none⟩)] w (StepQ B G p r t count l S d a (stepP t count O ((bitsL S).drop a)) w) := by
  have hmf' := hmf
  have HC := Lib.hid (stepP_cases t count O ((bitsL S).drop a))
  obtain ⟨vl, h1, -, -⟩ := h.ex
  have HD := Lib.hid (pdone_any p t count O vl l false false w h1 hq)
  have H := Lib.hid h
  have HPR := Lib.hid h1
  have HT : Hid (∀ w, PS B G w p r t count O l false S d a → B ≤ w.heap.size → Calls Try.prog (if count = 0 then 65 else 64) #[.pointer (some ⟨p, 0, none⟩), .pointer (some ⟨r, 0, none⟩)] w (Stp B G p r t count l S d a (stepP t count O ((bitsL S).drop a)) w)) := Lib.hid (fun w h hB => by
    by_cases h0 : count = 0
    · rw [if_pos h0]
      subst h0
      exact phead_any B G p r t O l S d a w h
    · rw [if_neg h0]
      exact ppick_any B G p r t count O l S d a w h hB hs.ord (hs.tab h0) h0 (by have := hs.le; have := hs.cnt; omega))
  obtain ⟨⟨er, u, t', c', O', app⟩, hst⟩ : ∃ z, stepP t count O ((bitsL S).drop a) = z := ⟨_, rfl⟩
  rw [hst] at HC HT ⊢
  have hC : er = 0 ∨ (er = 3 ∧ u = 0 ∧ t' = t ∧ c' = count ∧ O' = O ∧ app = []) ∨ er = 25 := by
    rcases HC.out with h | h | ⟨u2, h⟩
    · exact .inl h
    · simp only [Prod.mk.injEq] at h
      exact .inr (.inl h)
    · simp only [Prod.mk.injEq] at h
      exact .inr (.inr h.1)
  have HCC := Lib.hid hC
  clear h h1 hs hq hst hC HC
  by_cases h0 : count = 0
  · rw [if_pos h0] at HT
    have hc0 : ((count : Int) == 0) = true := beq_iff_eq.2 (by omega)
    clear h0
    go_enter Try.func42, Try.ntmps42
    go_wp2_with fail
    refine HD.out.mono ?_
    rintro e w1 ⟨rfl, hb⟩
    have HB1 := Lib.hid hb
    have H1 := Lib.hid (H.out.below hb)
    have c1 := (HPR.out.below hb).c1
    have c9 := (HPR.out.below hb).c9
    have HA := Lib.hid (rat_any r S d a w1 H1.out.rd)
    have HBW := Lib.hid (Nat.le_trans hB hb.size)
    clear HD hb
    go_wp2_with fail
    refine HA.out.mono ?_
    rintro e w2 ⟨rfl, rfl⟩
    clear HA
    go_wp2_with fail
    refine (HT.out _ H1.out HBW.out).mono ?_
    rintro e w3 ⟨rfl, a2, h3, ha2, hk3⟩
    have H3 := Lib.hid h3
    have HK3 := Lib.hid ((Keep.of_below HB1.out (MayTurn B G r)).trans hk3)
    have HA2 := Lib.hid ha2
    clear HT h3 ha2 hk3 c1 c9
    dsimp only
    rcases HCC.out with rfl | ⟨rfl, rfl, rfl, rfl, rfl, rfl⟩ | rfl
    · go_wp2
      go_ret
      refine ⟨rfl, ?_, HK3.out⟩
      have e := HA2.out (by decide)
      have h := H3.out
      rw [e] at h
      exact h
    · have HS := Lib.hid (rseek_ok r S d a2 a w3 H3.out.rd H.out.rd.lo H.out.rd.hi)
      go_wp2_with fail
      refine HS.out.mono ?_
      rintro e w4 ⟨rfl, hd⟩
      have H4 := Lib.hid (H3.out.move hd)
      have HK4 := Lib.hid (HK3.out.trans (RDid.turn (B := B) (G := G) hd))
      clear HS hd
      go_wp2
      go_ret
      exact ⟨rfl, H4.out, HK4.out⟩
    · go_wp2
      go_ret
      refine ⟨rfl, ?_, HK3.out⟩
      have e := HA2.out (by decide)
      have h := H3.out
      rw [e] at h
      exact h
  · rw [if_neg h0] at HT
    have hc0 : ((count : Int) == 0) = false := beq_eq_false_iff_ne.2 (by omega)
    clear h0
    go_enter Try.func42, Try.ntmps42
    go_wp2_with fail
    refine HD.out.mono ?_
    rintro e w1 ⟨rfl, hb⟩
    have HB1 := Lib.hid hb
    have H1 := Lib.hid (H.out.below hb)
    have c1 := (HPR.out.below hb).c1
    have c9 := (HPR.out.below hb).c9
    have HA := Lib.hid (rat_any r S d a w1 H1.out.rd)
    have HBW := Lib.hid (Nat.le_trans hB hb.size)
    clear HD hb
    go_wp2_with fail
    refine HA.out.mono ?_
    rintro e w2 ⟨rfl, rfl⟩
    clear HA
    go_wp2_with fail
    refine (HT.out _ H1.out HBW.out).mono ?_
    rintro e w3 ⟨rfl, a2, h3, ha2, hk3⟩
    have H3 := Lib.hid h3
    have HK3 := Lib.hid ((Keep.of_below HB1.out (MayTurn B G r)).trans hk3)
    have HA2 := Lib.hid ha2
    clear HT h3 ha2 hk3 c1 c9
    dsimp only
    rcases HCC.out with rfl | ⟨rfl, rfl, rfl, rfl, rfl, rfl⟩ | rfl
    · go_wp2
      go_ret
      refine ⟨rfl, ?_, HK3.out⟩
      have e := HA2.out (by decide)
      have h := H3.out
      rw [e] at h
      exact h
    · have HS := Lib.hid (rseek_ok r S d a2 a w3 H3.out.rd H.out.rd.lo H.out.rd.hi)
      go_wp2_with fail
      refine HS.out.mono ?_
      rintro e w4 ⟨rfl, hd⟩
      have H4 := Lib.hid (H3.out.move hd)
      have HK4 := Lib.hid (HK3.out.trans (RDid.turn (B := B) (G := G) hd))
      clear HS hd
      go_wp2
      go_ret
      exact ⟨rfl, H4.out, HK4.out⟩
    · go_wp2
      go_ret
      refine ⟨rfl, ?_, HK3.out⟩
      have e := HA2.out (by decide)
      have h := H3.out
      rw [e] at h
      exact h
theorem pStep_done (p r t count : Nat) (O : List UInt8) (vl : Value) (l : List Int) (wrong : Bool) (w : World) (h : PRAt w p t count O vl l wrong) (hq : doneB count l = true) :
    Calls Try.prog 42 #[.pointer (some ⟨p, 0, none⟩), .pointer (some ⟨r, 0, none⟩)] w fun e w' => e = .returned (.int .i64 7) ∧ Below w.heap.size w w' := by
  have HD := Lib.hid (pdone_any p t count O vl l wrong true w h hq)
  clear h hq
  go_enter Try.func42, Try.ntmps42
  go_wp2_with fail
  refine HD.out.mono ?_
  rintro e w1 ⟨rfl, hb⟩
  clear HD
  go_wp2
  go_ret
  exact ⟨rfl, hb⟩
theorem pStep_wrong (p r t count : Nat) (O : List UInt8) (vl : Value) (l : List Int) (w : World) (h : PRAt w p t count O vl l true) (hq : doneB count l = false) :
    Calls Try.prog 42 #[.pointer (some ⟨p, 0, none⟩), .pointer (some ⟨r, 0, none⟩)] w fun e w' => e = .returned (.int .i64 25) ∧ Below w.heap.size w w' := by
  have HD := Lib.hid (pdone_any p t count O vl l true false w h hq)
  have H := Lib.hid h
  clear h hq
  go_enter Try.func42, Try.ntmps42
  go_wp2_with fail
  refine HD.out.mono ?_
  rintro e w1 ⟨rfl, hb⟩
  have c9 := (H.out.below hb).c9
  clear HD
  go_wp2
  go_ret
  exact ⟨rfl, hb⟩
theorem pStep_nil1 (v : Option Addr) (w : World) :
    Calls Try.prog 42 #[.pointer none, .pointer v] w fun e w' => e = .returned (.int .i64 7) ∧ w = w' := by
  go_enter Try.func42, Try.ntmps42
  go_wp2
  go_ret
  exact ⟨rfl, rfl⟩
theorem pStep_nil2 (p : Nat) (w : World) :
    Calls Try.prog 42 #[.pointer (some ⟨p, 0, none⟩), .pointer none] w fun e w' => e = .returned (.int .i64 7) ∧ w = w' := by
  go_enter Try.func42, Try.ntmps42
  go_wp2
  go_ret
  exact ⟨rfl, rfl⟩

set_option maxHeartbeats 2000000 in
theorem pread_any (r : Nat) (S : List UInt8) (d a : Nat) (w : World) (h : ReaderAt w r S d a) :
    Calls Try.prog 32 #[.pointer (some ⟨r, 0, none⟩)] w fun e w' => ∃ v, e = .returned (.tuple #[v, .int .i64 ((refP ((bitsL S).drop a)).2.1 : Int), .int .i64 (refP ((bitsL S).drop a)).2.2.2.2]) ∧ RInts w' v (refP ((bitsL S).drop a)).1 ∧ FreshV w.heap.size v ∧ RDid r S d (a + (refP ((bitsL S).drop a)).2.2.1) w w' := by
  have HN := Lib.hid (pnew_any w)
  have H := Lib.hid h
  have HRF := Lib.hid (show refP ((bitsL S).drop a) = goP 0 0 LET [] 0 ((bitsL S).drop a) from rfl)
  have HLA := Lib.hid (show a ≤ (bitsL S).length by rw [bitsL_len]; exact h.hi)
  obtain ⟨⟨rl, rt, ru, rto, re⟩, hrf⟩ : ∃ z, refP ((bitsL S).drop a) = z := ⟨_, rfl⟩
  rw [hrf] at HRF ⊢
  dsimp only
  clear h hrf
  go_enter Try.func32, Try.ntmps32
  go_wp2_with fail
  refine HN.out.mono ?_
  rintro e w1 ⟨p, rfl, hp, h1, hb1⟩
  have HB1 := Lib.hid hb1
  have HP := Lib.hid hp
  have HRD := Lib.hid (H.out.below hb1)
  have HS1 := Lib.hid (show PS w.heap.size (fun _ => False) w1 p r 0 0 LET [] false S d a from ⟨⟨_, h1, fun g hg => by simp [Value.ownBlock] at hg, by simp [Value.ownBlock]⟩, HRD.out, by have := H.out.box.lt; omega, ⟨hp, fun h => h⟩, nog w1⟩)
  have HA := Lib.hid (rat_any r S d a w1 HRD.out)
  clear HN h1 hb1 hp
  go_wp2_with fail
  refine HA.out.mono ?_
  rintro e w2 ⟨rfl, rfl⟩
  clear HA
  go_wp2
  go_loopg [] (((bitsL S).drop a).length) (fun g wr => ∃ (t count : Nat) (O : List UInt8) (l : List Int) (c : Nat), Hid (PS w.heap.size (fun _ => False) wr p r t count O l false S d (a + c)) ∧ Hid (goP t count O l c (((bitsL S).drop a).drop c) = (rl, rt, ru, rto, re)) ∧ Hid (StP t count O l) ∧ c ≤ ((bitsL S).drop a).length ∧ ((bitsL S).drop a).length - c = g ∧ Hid (Keep (MayTurn w.heap.size (fun _ => False) r) w wr))
  case atStart => exact ⟨0, 0, LET, [], 0, HS1.out, by rw [List.drop_zero]; exact HRF.out.symm, StP.start, Nat.zero_le _, rfl, Keep.of_below HB1.out _⟩
  case round =>
    clear HS1 HB1 HRD
    obtain ⟨t, count, O, l, c, HS, HG, HTS, hcl, rfl, HK⟩ := hrel
    have HBW := Lib.hid HK.out.size
    obtain ⟨vl, h1, hfv, -⟩ := HS.out.ex
    cases hq : doneB count l with
    | false =>
      have HD := Lib.hid (pdone_any p t count O vl l false false wr h1 hq)
      have HST := Lib.hid (fun w2 h hB => pStep_any w.heap.size (fun _ => False) p r t count O l S d (a + c) w2 h hB HTS.out hq)
      obtain ⟨⟨er, u, t', c', O', app⟩, hst⟩ : ∃ z, stepP t count O ((bitsL S).drop (a + c)) = z := ⟨_, rfl⟩
      have HX := Lib.hid (goP_step c (show stepP t count O (((bitsL S).drop a).drop c) = (er, u, t', c', O', app) by rw [List.drop_drop]; exact hst) HTS.out (doneB_no hq))
      rw [hst] at HST
      clear h1 hfv hst hq
      go_wp2_with fail
      refine HD.out.mono ?_
      rintro e w3 ⟨rfl, hb⟩
      have H3 := Lib.hid (HS.out.below hb)
      have HK3 := Lib.hid (HK.out.trans (Keep.of_below hb _))
      have HBW3 := Lib.hid (Nat.le_trans HBW.out hb.size)
      clear HD hb
      go_wp2_with fail
      refine (HST.out _ H3.out HBW3.out).mono ?_
      rintro e w4 ⟨rfl, h4, hk4⟩
      have H4 := Lib.hid h4
      have HK4 := Lib.hid (HK3.out.trans hk4)
      clear HST h4 hk4
      dsimp only
      rcases HX.out with ⟨rfl, hst', hc0, hul, hu0, hgo⟩ | ⟨rfl, rfl, rfl, rfl, rfl, rfl, hgo⟩ | ⟨rfl, hul, rfl, rfl, rfl, rfl, hgo⟩
      · have HGO := Lib.hid (show goP t' c' O' (l ++ app) (c + u) (((bitsL S).drop a).drop (c + u)) = (rl, rt, ru, rto, re) by rw [← List.drop_drop, ← hgo]; exact HG.out)
        have HST2 := Lib.hid hst'
        have H5 := Lib.hid (show PS w.heap.size (fun _ => False) w4 p r t' c' O' (l ++ app) false S d (a + (c + u)) by rw [← Nat.add_assoc]; exact H4.out)
        have HUL := Lib.hid (show c + u ≤ ((bitsL S).drop a).length ∧ ((bitsL S).drop a).length - (c + u) < ((bitsL S).drop a).length - c by rw [List.length_drop] at hul; omega)
        clear hst' hc0 hul hu0 hgo
        go_wp2
        go_roundg (((bitsL S).drop a).length - (c + u))
        case rel => exact ⟨t', c', O', _, c + u, H5.out, HGO.out, HST2.out, HUL.out.1, rfl, HK4.out⟩
        case measure => have := HUL.out.2; simp only [List.length_drop] at this ⊢; exact this
      · have HE := Lib.hid (show (rl, rt, ru, rto, re) = (([] : List Int), (0 : Nat), (0 : Nat), (0 : Nat), (3 : Int)) by rw [← HG.out, hgo])
        have HSK := Lib.hid (rseek_ok r S d _ a w4 H4.out.rd H.out.lo H.out.hi)
        clear hgo
        go_wp2_with fail
        refine HSK.out.mono ?_
        rintro e w5 ⟨rfl, hd⟩
        have HK5 := Lib.hid (MayTurn.own (HK4.out.trans (RDid.turn hd)))
        have HR5 := Lib.hid hd.1
        clear HSK hd
        go_wp2
        refine bodyPost_ret (v := .tuple #[.slice none 0 0, .int .i64 0, .int .i64 3]) (by simp [results, Try.results32, go_sem]) rfl ?_
        have he := HE.out
        simp only [Prod.mk.injEq] at he
        obtain ⟨rfl, rfl, rfl, rfl, rfl⟩ := he
        exact ⟨_, rfl, RInts.nil _, FreshV.nil _, HR5.out, HK5.out⟩
      · have HE := Lib.hid (show (rl, rt, ru, re) = (([] : List Int), (0 : Nat), (0 : Nat), (25 : Int)) by have := HG.out; rw [hgo] at this; simp only [Prod.mk.injEq] at this ⊢; exact ⟨this.1.symm, this.2.1.symm, this.2.2.1.symm, this.2.2.2.2.symm⟩)
        have HSK := Lib.hid (rseek_ok r S d _ a w4 H4.out.rd H.out.lo H.out.hi)
        clear hgo hul
        go_wp2_with fail
        refine HSK.out.mono ?_
        rintro e w5 ⟨rfl, hd⟩
        have HK5 := Lib.hid (MayTurn.own (HK4.out.trans (RDid.turn hd)))
        have HR5 := Lib.hid hd.1
        clear HSK hd
        go_wp2
        refine bodyPost_ret (v := .tuple #[.slice none 0 0, .int .i64 0, .int .i64 25]) (by simp [results, Try.results32, go_sem]) rfl ?_
        have he := HE.out
        simp only [Prod.mk.injEq] at he
        obtain ⟨rfl, rfl, rfl, rfl⟩ := he
        exact ⟨_, rfl, RInts.nil _, FreshV.nil _, HR5.out, HK5.out⟩
    | true =>
      obtain ⟨hcn, hlc⟩ := doneB_yes hq
      have HE := Lib.hid (show (rl, rt, ru, rto, re) = (l, t, c, c, (0 : Int)) by rw [← HG.out, goP_done _ hlc hcn])
      have HD := Lib.hid (pdone_any p t count O vl l false true wr h1 hq)
      have HD1 := Lib.hid h1
      have hln2 : l.length ≤ 1000000 := by have := HTS.out.cnt; omega
      clear h1 hfv hcn hlc hq
      go_wp2_with fail
      refine HD.out.mono ?_
      rintro e w3 ⟨rfl, hb⟩
      have hb3 := below_two hb (below_drew1 _)
      have h3 := HD1.out.below hb3
      have HL := Lib.hid (fun w h => ppicks_any p t count O vl l false w h hln2)
      have H3 := Lib.hid (HS.out.below hb3)
      have HK3 := Lib.hid (HK.out.trans (Keep.of_below hb3 _))
      have HP3 := Lib.hid h3
      have c0 := h3.c0
      clear HD hb hb3 h3
      go_wp2
      go_region_law (go_simp; go_at_call 46; refine (HL.out _ HP3.out).mono ?_; rintro e w4 ⟨v4, rfl, hv4, hf4, hb4⟩; have c04 := cellB c0 hb4)
      all_goals
        have HV4 := Lib.hid hv4
        have HF4 := Lib.hid (show FreshV w.heap.size v4 from fun g hg => Nat.le_trans HK3.out.size (hf4 g hg))
        have HR4 := Lib.hid (H3.out.below hb4).rd
        have HK4 := Lib.hid (MayTurn.own (HK3.out.trans (Keep.of_below hb4 _)))
        obtain ⟨a4, c4, rfl, -, -⟩ := hv4.shape
        clear hv4 hf4 hb4 c04
        go_wp2
        refine bodyPost_ret (v := .tuple #[.slice a4 l.length c4, .int .i64 (t : Int), .int .i64 0]) (by simp [results, Try.results32, go_sem]) rfl ?_
        have he := HE.out
        simp only [Prod.mk.injEq] at he
        obtain ⟨rfl, rfl, rfl, rfl, rfl⟩ := he
        exact ⟨_, rfl, HV4.out, HF4.out, HR4.out, HK4.out⟩
theorem pread_nil (w : World) :
    Calls Try.prog 32 #[.pointer none] w fun e w' => e = .returned (.tuple #[.slice none 0 0, .int .i64 0, .int .i64 7]) ∧ w = w' := by
  go_enter Try.func32, Try.ntmps32
  go_wp2
  refine bodyPost_ret (v := .tuple #[.slice none 0 0, .int .i64 0, .int .i64 7]) (by simp [results, Try.results32, go_sem]) rfl ?_
  exact ⟨rfl, rfl⟩
end Go.Proofs.Ytoebnibhkdidhaa

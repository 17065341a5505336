/- Package delta: Step, Read. -/
import Derived.Test.YtjpjdecbkekcfaaDelD
import Derived.Deep.LoopGhost
namespace Go.Proofs.Ytjpjdecbkekcfaa
open Go.RowKit

theorem stepD_cases (now : Int) (r : List Bool) : (stepD now r).1 = 0 ∨ ((stepD now r).1 = 3 ∧ (stepD now r).2.1 = 0) ∨ (stepD now r).1 = 22 := by
  unfold stepD
  split
  · split
    · exact .inr (.inl ⟨rfl, rfl⟩)
    · split
      · exact .inl rfl
      · exact .inr (.inr rfl)
  · split
    · exact .inr (.inl ⟨rfl, rfl⟩)
    · exact .inl rfl
    · exact .inr (.inl ⟨rfl, rfl⟩)
    · split
      · exact .inl rfl
      · exact .inr (.inr rfl)

/-- what Step leaves -/
def StepQ (B : Nat) (G : Nat → Prop) (p r : Nat) (size now : Int) (l : List Int) (S : List UInt8) (d a : Nat) (st : Int × Nat × Int × Bool) (w : World) (x : Ending) (w' : World) : Prop :=
  x = .returned (.int .i64 st.1) ∧ DS B G w' p r size st.2.2.1 (if st.2.2.2 then l ++ [now] else l) (decide (st.1 = 22)) S d (a + st.2.1) ∧ Keep (MayTurn B G r) w w'

set_option maxHeartbeats 1000000 in
theorem dStep_any (B : Nat) (G : Nat → Prop) (p r : Nat) (size now : Int) (l : List Int) (S : List UInt8) (d a : Nat) (w : World) (h : DS B G w p r size now l false S d a) (hB : B ≤ w.heap.size) (hn : now = 0 ∨ okD now = true) (hl : l.length ≤ 1000) (hq : ((l.length : Int) == size) = false) :
    Calls Try.prog 44 #[.pointer (some ⟨p, 0, none⟩), .pointer (some ⟨r, 0, none⟩)] w (StepQ B G p r size now l S d a (stepD now ((bitsL S).drop a)) w) := by
  have HC := Lib.hid (stepD_cases now ((bitsL S).drop a))
  obtain ⟨vl, h1, -, -⟩ := h.ex
  have HD := Lib.hid (ddone_any p size now vl l false false w h1 hq)
  have HT := Lib.hid (fun w h hB => dstep0_any B G p r size now l S d a w h hB hn hl)
  have H := Lib.hid h
  have HBX := Lib.hid h1.box
  obtain ⟨⟨er, u, n', app⟩, hst⟩ : ∃ z, stepD now ((bitsL S).drop a) = z := ⟨_, rfl⟩
  rw [hst] at HC HT ⊢
  dsimp only at HC
  clear h h1 hn hl hq hst
  go_enter Try.func44, Try.ntmps44
  go_wp2_with fail
  refine HD.out.mono ?_
  rintro e w1 ⟨rfl, hb⟩
  have HB1 := Lib.hid hb
  have H1 := Lib.hid (H.out.below hb)
  have c3 := (HBX.out.below hb).cell (i := 3) (x := .bool false) rfl
  have HA := Lib.hid (rat_any r S d a w1 H1.out.rd)
  have HBW := Lib.hid (Nat.le_trans hB hb.size)
  clear HD hb
  go_wp2_with fail
  refine HA.out.mono ?_
  rintro e w2 ⟨rfl, rfl⟩
  clear HA c3
  go_wp2_with fail
  refine (HT.out _ H1.out HBW.out).mono ?_
  rintro e w3 ⟨rfl, a2, h3, ha2, hk3⟩
  have H3 := Lib.hid h3
  have HK3 := Lib.hid ((Keep.of_below HB1.out (MayTurn B G r)).trans hk3)
  have HA2 := Lib.hid ha2
  clear HT h3 ha2 hk3
  dsimp only
  rcases HC.out with rfl | ⟨rfl, rfl⟩ | rfl
  · go_wp2
    go_ret
    refine ⟨rfl, ?_, HK3.out⟩
    have e := HA2.out (by decide)
    have h := H3.out
    rw [e] at h
    exact h
  · have HS := Lib.hid (rseek_ok r S d a2 a w3 H3.out.rd H.out.rd.lo H.out.rd.hi)
    go_wp2_with fail
    refine HS.out.mono ?_
    rintro e w4 ⟨rfl, hd⟩
    have H4 := Lib.hid (H3.out.move hd)
    have HK4 := Lib.hid (HK3.out.trans (RDid.turn (B := B) (G := G) hd))
    clear HS hd
    go_wp2
    go_ret
    exact ⟨rfl, H4.out, HK4.out⟩
  · go_wp2
    go_ret
    refine ⟨rfl, ?_, HK3.out⟩
    have e := HA2.out (by decide)
    have h := H3.out
    rw [e] at h
    exact h
theorem dStep_done (p r : Nat) (size now : Int) (vl : Value) (l : List Int) (wrong : Bool) (w : World) (h : DRAt w p size now vl l wrong) (hq : ((l.length : Int) == size) = true) :
    Calls Try.prog 44 #[.pointer (some ⟨p, 0, none⟩), .pointer (some ⟨r, 0, none⟩)] w fun e w' => e = .returned (.int .i64 7) ∧ Below w.heap.size w w' := by
  have HD := Lib.hid (ddone_any p size now vl l wrong true w h hq)
  clear h hq
  go_enter Try.func44, Try.ntmps44
  go_wp2_with fail
  refine HD.out.mono ?_
  rintro e w1 ⟨rfl, hb⟩
  clear HD
  go_wp2
  go_ret
  exact ⟨rfl, hb⟩
theorem dStep_wrong (p r : Nat) (size now : Int) (vl : Value) (l : List Int) (w : World) (h : DRAt w p size now vl l true) (hq : ((l.length : Int) == size) = false) :
    Calls Try.prog 44 #[.pointer (some ⟨p, 0, none⟩), .pointer (some ⟨r, 0, none⟩)] w fun e w' => e = .returned (.int .i64 22) ∧ Below w.heap.size w w' := by
  have HD := Lib.hid (ddone_any p size now vl l true false w h hq)
  have HBX := Lib.hid h.box
  clear h hq
  go_enter Try.func44, Try.ntmps44
  go_wp2_with fail
  refine HD.out.mono ?_
  rintro e w1 ⟨rfl, hb⟩
  have c3 := (HBX.out.below hb).cell (i := 3) (x := .bool true) rfl
  clear HD
  go_wp2
  go_ret
  exact ⟨rfl, hb⟩
theorem dStep_nil1 (v : Option Addr) (w : World) :
    Calls Try.prog 44 #[.pointer none, .pointer v] w fun e w' => e = .returned (.int .i64 7) ∧ w = w' := by
  go_enter Try.func44, Try.ntmps44
  go_wp2
  go_ret
  exact ⟨rfl, rfl⟩
theorem dStep_nil2 (p : Nat) (w : World) :
    Calls Try.prog 44 #[.pointer (some ⟨p, 0, none⟩), .pointer none] w fun e w' => e = .returned (.int .i64 7) ∧ w = w' := by
  go_enter Try.func44, Try.ntmps44
  go_wp2
  go_ret
  exact ⟨rfl, rfl⟩

theorem MayTurn.own {w w' : World} {r : Nat} (h : Keep (MayTurn w.heap.size (fun _ => False) r) w w') : Keep (fun j => j = r) w w' := h.mono (fun j hj e => e.elim id (fun h => by have := h.1; omega))
theorem nog : ∀ (w : World) (j : Nat), (fun _ : Nat => False) j → j < w.heap.size := fun _ _ h => h.elim
theorem cleanD {e : Int} (h : e = 0) : decide (e = 22) = false := by subst h; rfl

set_option maxHeartbeats 2000000 in
theorem dread_any (r : Nat) (S : List UInt8) (d a : Nat) (n : Nat) (w : World) (h : ReaderAt w r S d a) (hn : 3 ≤ n ∧ n ≤ 258) :
    Calls Try.prog 37 #[.pointer (some ⟨r, 0, none⟩), .int .i64 (n : Int)] w fun e w' => ∃ v, e = .returned (.tuple #[v, .int .i64 (refD n ((bitsL S).drop a)).2.2]) ∧ RInts w' v (refD n ((bitsL S).drop a)).1 ∧ FreshV w.heap.size v ∧ RDid r S d (a + (refD n ((bitsL S).drop a)).2.1) w w' := by
  have HN := Lib.hid (dnew_ok (n : Int) w (sizD_iff.2 (by omega)))
  have H := Lib.hid h
  have HOK := Lib.hid (refD_ok (size := n) (all := (bitsL S).drop a))
  have HRF := Lib.hid (show refD n ((bitsL S).drop a) = goD n 0 [] 0 ((bitsL S).drop a) from rfl)
  have HLA := Lib.hid (show a ≤ (bitsL S).length by rw [bitsL_len]; exact h.hi)
  obtain ⟨⟨rl, ru, re⟩, hrf⟩ : ∃ z, refD n ((bitsL S).drop a) = z := ⟨_, rfl⟩
  rw [hrf] at HRF HOK ⊢
  dsimp only at HOK ⊢
  clear h hrf
  go_enter Try.func37, Try.ntmps37
  go_wp2_with fail
  refine HN.out.mono ?_
  rintro e w1 ⟨rfl, h1, hb1⟩
  have HB1 := Lib.hid hb1
  have HRD := Lib.hid (H.out.below hb1)
  have HS1 := Lib.hid (show DS w.heap.size (fun _ => False) w1 w.heap.size r (n : Int) 0 [] false S d a from ⟨⟨_, h1, fun g hg => by simp [Value.ownBlock] at hg, by simp [Value.ownBlock]⟩, HRD.out, by have := H.out.box.lt; omega, ⟨Nat.le_refl _, fun h => h⟩, nog w1⟩)
  have HA := Lib.hid (rat_any r S d a w1 HRD.out)
  clear HN h1 hb1
  go_wp2_with fail
  refine HA.out.mono ?_
  rintro e w2 ⟨rfl, rfl⟩
  clear HA
  go_wp2
  go_loopg [] (((bitsL S).drop a).length) (fun g wr => ∃ (now : Int) (l : List Int) (c : Nat), Hid (DS w.heap.size (fun _ => False) wr w.heap.size r (n : Int) now l false S d (a + c)) ∧ Hid (goD n now l c (((bitsL S).drop a).drop c) = (rl, ru, re)) ∧ Hid (now = 0 ∨ okD now = true) ∧ Hid (now = 0 → l = []) ∧ l.length ≤ n ∧ c ≤ ((bitsL S).drop a).length ∧ ((bitsL S).drop a).length - c = g ∧ Hid (Keep (MayTurn w.heap.size (fun _ => False) r) w wr))
  case atStart => exact ⟨0, [], 0, HS1.out, by rw [List.drop_zero]; exact HRF.out.symm, .inl rfl, fun _ => rfl, Nat.zero_le _, Nat.zero_le _, rfl, Keep.of_below HB1.out _⟩
  case round =>
    clear HS1 HB1 HRD
    obtain ⟨now, l, c, HS, HG, HNW, HNL, hln, hcl, rfl, HK⟩ := hrel
    have HBW := Lib.hid HK.out.size
    obtain ⟨vl, h1, hfv, -⟩ := HS.out.ex
    by_cases hlt : l.length < n
    · have hq : ((l.length : Int) == (n : Int)) = false := beq_eq_false_iff_ne.2 (by omega)
      have HD := Lib.hid (ddone_any w.heap.size (n : Int) now vl l false false wr h1 hq)
      have HST := Lib.hid (fun w2 h hB => dStep_any w.heap.size (fun _ => False) w.heap.size r (n : Int) now l S d (a + c) w2 h hB HNW.out (by omega) hq)
      obtain ⟨⟨er, u, n', app⟩, hst⟩ : ∃ z, stepD now ((bitsL S).drop (a + c)) = z := ⟨_, rfl⟩
      have HX := Lib.hid (goD_step (size := n) c (show stepD now (((bitsL S).drop a).drop c) = (er, u, n', app) by rw [List.drop_drop]; exact hst) hlt HNW.out)
      rw [hst] at HST
      clear h1 hfv hst
      go_wp2_with fail
      refine HD.out.mono ?_
      rintro e w3 ⟨rfl, hb⟩
      have H3 := Lib.hid (HS.out.below hb)
      have HK3 := Lib.hid (HK.out.trans (Keep.of_below hb _))
      have HBW3 := Lib.hid (Nat.le_trans HBW.out hb.size)
      clear HD hb hq
      go_wp2_with fail
      refine (HST.out _ H3.out HBW3.out).mono ?_
      rintro e w4 ⟨rfl, h4, hk4⟩
      have H4 := Lib.hid h4
      have HK4 := Lib.hid (HK3.out.trans hk4)
      clear HST h4 hk4
      dsimp only
      rcases HX.out with ⟨rfl, hok, hul, hu0, happ, hgo⟩ | ⟨rfl, rfl, rfl, rfl, hgo⟩ | ⟨rfl, hul, rfl, rfl, hgo⟩
      · have HGO := Lib.hid (show goD n n' (if app then l ++ [now] else l) (c + u) (((bitsL S).drop a).drop (c + u)) = (rl, ru, re) by rw [← List.drop_drop, ← hgo]; exact HG.out)
        have HLN := Lib.hid (show (if app = true then l ++ [now] else l).length ≤ n by
          cases app
          · exact hln
          · rw [if_pos rfl, List.length_append]; exact hlt)
        have HOK2 := Lib.hid hok
        have H5 := Lib.hid (show DS w.heap.size (fun _ => False) w4 w.heap.size r (n : Int) n' (if app then l ++ [now] else l) false S d (a + (c + u)) by rw [← Nat.add_assoc]; exact H4.out)
        have HUL := Lib.hid (show c + u ≤ ((bitsL S).drop a).length ∧ ((bitsL S).drop a).length - (c + u) < ((bitsL S).drop a).length - c by rw [List.length_drop] at hul; omega)
        clear hok hul hu0 happ hgo
        go_wp2
        go_roundg (((bitsL S).drop a).length - (c + u))
        case rel => exact ⟨n', _, c + u, H5.out, HGO.out, .inr HOK2.out, fun h0 => by have := okD_iff.1 HOK2.out; omega, HLN.out, HUL.out.1, rfl, HK4.out⟩
        case measure => have := HUL.out.2; simp only [List.length_drop] at this ⊢; exact this
      · have HE := Lib.hid (show (rl, ru, re) = (([] : List Int), (0 : Nat), (3 : Int)) by rw [← HG.out, hgo])
        have HSK := Lib.hid (rseek_ok r S d _ a w4 H4.out.rd H.out.lo H.out.hi)
        clear hgo
        go_wp2_with fail
        refine HSK.out.mono ?_
        rintro e w5 ⟨rfl, hd⟩
        have HK5 := Lib.hid (MayTurn.own (HK4.out.trans (RDid.turn hd)))
        have HR5 := Lib.hid hd.1
        clear HSK hd
        go_wp2
        go_ret2
        have he := HE.out
        simp only [Prod.mk.injEq] at he
        obtain ⟨rfl, rfl, rfl⟩ := he
        exact ⟨_, rfl, RInts.nil _, FreshV.nil _, HR5.out, HK5.out⟩
      · have HE := Lib.hid (show (rl, ru, re) = (([] : List Int), (0 : Nat), (22 : Int)) by rw [← HG.out, hgo])
        have HSK := Lib.hid (rseek_ok r S d _ a w4 H4.out.rd H.out.lo H.out.hi)
        clear hgo hul
        go_wp2_with fail
        refine HSK.out.mono ?_
        rintro e w5 ⟨rfl, hd⟩
        have HK5 := Lib.hid (MayTurn.own (HK4.out.trans (RDid.turn hd)))
        have HR5 := Lib.hid hd.1
        clear HSK hd
        go_wp2
        go_ret2
        have he := HE.out
        simp only [Prod.mk.injEq] at he
        obtain ⟨rfl, rfl, rfl⟩ := he
        exact ⟨_, rfl, RInts.nil _, FreshV.nil _, HR5.out, HK5.out⟩
    · have hq : ((l.length : Int) == (n : Int)) = true := beq_iff_eq.2 (by omega)
      have HNZ := Lib.hid (show now ≠ 0 from fun h0 => by have := HNL.out h0; rw [this] at hlt; simp at hlt; omega)
      have HE := Lib.hid (show (rl, ru, re) = (l, c, (0 : Int)) by rw [← HG.out, goD_done _ hlt HNZ.out])
      have HD := Lib.hid (ddone_any w.heap.size (n : Int) now vl l false true wr h1 hq)
      have HD1 := Lib.hid h1
      have hln2 : l.length ≤ 1000 := by omega
      clear h1 hfv hlt
      go_wp2_with fail
      refine HD.out.mono ?_
      rintro e w3 ⟨rfl, hb⟩
      have HL := Lib.hid (dlens_any w.heap.size (n : Int) now vl l false w3 (HD1.out.below hb) hln2)
      have H3 := Lib.hid (HS.out.below hb)
      have HK3 := Lib.hid (HK.out.trans (Keep.of_below hb _))
      clear HD hb hq
      go_wp2_with fail
      refine HL.out.mono ?_
      rintro e w4 ⟨v4, rfl, hv4, hf4, hb4⟩
      have HV4 := Lib.hid hv4
      have HF4 := Lib.hid (show FreshV w.heap.size v4 from fun g hg => Nat.le_trans HK3.out.size (hf4 g hg))
      have HR4 := Lib.hid (H3.out.below hb4).rd
      have HK4 := Lib.hid (MayTurn.own (HK3.out.trans (Keep.of_below hb4 _)))
      obtain ⟨a4, c4, rfl, -, -⟩ := hv4.shape
      clear HL hv4 hf4 hb4
      go_wp2
      go_ret2
      have he := HE.out
      simp only [Prod.mk.injEq] at he
      obtain ⟨rfl, rfl, rfl⟩ := he
      exact ⟨_, rfl, HV4.out, HF4.out, HR4.out, HK4.out⟩
theorem dread_no (r : Nat) (n : Int) (w : World) (hn : sizD n = false) :
    Calls Try.prog 37 #[.pointer (some ⟨r, 0, none⟩), .int .i64 n] w fun e w' => e = .returned (.tuple #[.slice none 0 0, .int .i64 1]) ∧ w = w' := by
  have HN := Lib.hid (dnew_no n w hn)
  clear hn
  go_enter Try.func37, Try.ntmps37
  go_wp2_with fail
  refine HN.out.mono ?_
  rintro e w1 ⟨rfl, rfl⟩
  go_wp2
  go_ret2
  exact ⟨rfl, rfl⟩
theorem dread_nil (n : Int) (w : World) :
    Calls Try.prog 37 #[.pointer none, .int .i64 n] w fun e w' => e = .returned (.tuple #[.slice none 0 0, .int .i64 7]) ∧ w = w' := by
  go_enter Try.func37, Try.ntmps37
  go_wp2
  go_ret2
  exact ⟨rfl, rfl⟩
end Go.Proofs.Ytjpjdecbkekcfaa

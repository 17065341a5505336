/- Package delta: the law DeltaSteps. -/
import Derived.Test.YtjpjdecbkekcfaaDelI
namespace Go.Proofs.Ytjpjdecbkekcfaa
open Go.RowKit

theorem DS.more {B : Nat} {G G' : Nat → Prop} {w w' : World} {p r : Nat} {size now : Int} {l : List Int} {wrong : Bool} {S : List UInt8} {d a : Nat} (h : DS B G w p r size now l wrong S d a) (k : Below w.heap.size w w') (hg : ∀ j, G' j → G j ∨ (w.heap.size ≤ j ∧ j < w'.heap.size)) :
    DS B G' w' p r size now l wrong S d a := by
  obtain ⟨vl, h1, h2, h3⟩ := h.ex
  have hb := h.below k
  refine ⟨⟨vl, h1.below k, fun g hgo => ⟨(h2 g hgo).1, fun hG => ?_⟩, h3⟩, hb.rd, h.ne, ⟨h.lo.1, fun hG => ?_⟩, fun j hj => ?_⟩
  · rcases hg g hG with q | q
    · exact (h2 g hgo).2 q
    · have := Own.lt h1.row g hgo; omega
  · rcases hg p hG with q | q
    · exact h.lo.2 q
    · have := h1.box.lt; omega
  · rcases hg j hj with q | q
    · exact Nat.lt_of_lt_of_le (h.gl j q) k.size
    · exact q.2
theorem stepD_short {now : Int} {r : List Bool} {u : Nat} {n' : Int} {app : Bool} (h : stepD now r = (3, u, n', app)) : u = 0 ∧ n' = now ∧ app = false := by
  unfold stepD at h
  split at h
  · split at h
    · simp only [Prod.mk.injEq] at h
      exact ⟨h.2.1.symm, h.2.2.1.symm, h.2.2.2.symm⟩
    · split at h
      · simp at h
      · simp at h
  · split at h
    · simp only [Prod.mk.injEq] at h
      exact ⟨h.2.1.symm, h.2.2.1.symm, h.2.2.2.symm⟩
    · simp at h
    · simp only [Prod.mk.injEq] at h
      exact ⟨h.2.1.symm, h.2.2.1.symm, h.2.2.2.symm⟩
    · split at h
      · simp at h
      · simp at h
theorem RInts.keepB {S : Nat → Prop} {w w' : World} {v : Value} {l : List Int} (h : RInts w v l) (k : Keep S w w') (hs : l ≠ [] → ∀ b, v.ownBlock = some b → ¬ S b) : RInts w' v l := by
  cases l with
  | nil =>
    obtain ⟨a, cap, rfl, h1, h2, _⟩ := h.1
    exact ⟨⟨a, cap, rfl, h1, h2, fun h => absurd h (Nat.lt_irrefl 0)⟩, h.2⟩
  | cons x l => exact h.keep k (fun b hb => hs (by simp) b hb)
/-- what a reader has so far -/
def curS (come : Bool) (cut : Nat) (S : List UInt8) : List UInt8 := if come then S else S.take cut
theorem curS_bits (come : Bool) (cut : Nat) (S : List UInt8) : ∃ t, bitsL S = bitsL (curS come cut S) ++ t := by
  cases come with
  | true => exact ⟨[], by simp [curS]⟩
  | false => exact ⟨bitsL (S.drop cut), by rw [curS, if_neg Bool.false_ne_true, ← bitsL_append, List.take_append_drop]⟩
theorem curS_len (come : Bool) (cut : Nat) (S : List UInt8) : (curS come cut S).length ≤ S.length := by
  unfold curS
  split
  · exact Nat.le_refl _
  · rw [List.length_take]; omega

def GG (g : Nat) (vg : Value) (j : Nat) : Prop := j = g ∨ (vg.ownBlock = some j ∧ j < g + 1)
/-- the state of a run in pieces -/
structure PSt (w wr : World) (p r g n : Nat) (now : Int) (l : List Int) (come : Bool) (cut c : Nat) (S : List UInt8) (vg : Value) (rl : List Int) (ru : Nat) (re : Int) : Prop where
  ds : DS p (GG g vg) wr p r (n : Int) now l false (curS come cut S) 0 c
  go : goD n now l c ((bitsL S).drop c) = (rl, ru, re)
  nw : now = 0 ∨ okD now = true
  nl : now = 0 → l = []
  ln : l.length ≤ n
  box : Blk wr g [vg, .int .i64 (ru : Int), .int .i64 re] 55
  rg : RInts wr vg rl
  bl : Below w.heap.size w wr
  wp : w.heap.size = p
  pr : p < r
  gr : g ≠ r
  vr : vg.ownBlock ≠ some r
  vg1 : rl ≠ [] → ∀ j, vg.ownBlock = some j → j < g + 1
theorem PSt.below {w wr w2 : World} {p r g n : Nat} {now : Int} {l : List Int} {come : Bool} {cut c : Nat} {S : List UInt8} {vg : Value} {rl : List Int} {ru : Nat} {re : Int} (h : PSt w wr p r g n now l come cut c S vg rl ru re) (k : Below wr.heap.size wr w2) : PSt w w2 p r g n now l come cut c S vg rl ru re :=
  ⟨h.ds.below k, h.go, h.nw, h.nl, h.ln, h.box.below k, h.rg.below k, h.bl.trans (below_of k h.bl.size), h.wp, h.pr, h.gr, h.vr, h.vg1⟩
theorem PSt.rest {w wr : World} {p r g n : Nat} {now : Int} {l : List Int} {come : Bool} {cut c : Nat} {S : List UInt8} {vg : Value} {rl : List Int} {ru : Nat} {re : Int} (h : PSt w wr p r g n now l come cut c S vg rl ru re) :
    ∃ t, (bitsL S).drop c = (bitsL (curS come cut S)).drop c ++ t := by
  obtain ⟨t, ht⟩ := curS_bits come cut S
  have hc := h.ds.rd.hi
  exact ⟨t, by rw [ht, List.drop_append_of_le_length (by rw [bitsL_len]; exact hc)]⟩

/-- a step, or more bits -/
theorem PSt.turn {w wr w2 : World} {p r g n : Nat} {now now2 : Int} {l l2 : List Int} {come come2 : Bool} {cut c c2 : Nat} {S : List UInt8} {vg : Value} {rl : List Int} {ru : Nat} {re : Int} (h : PSt w wr p r g n now l come cut c S vg rl ru re)
    (k : Keep (MayTurn p (GG g vg) r) wr w2) (ds : DS p (GG g vg) w2 p r (n : Int) now2 l2 false (curS come2 cut S) 0 c2) (go : goD n now2 l2 c2 ((bitsL S).drop c2) = (rl, ru, re)) (nw : now2 = 0 ∨ okD now2 = true) (nl : now2 = 0 → l2 = []) (ln : l2.length ≤ n) :
    PSt w w2 p r g n now2 l2 come2 cut c2 S vg rl ru re := by
  refine ⟨ds, go, nw, nl, ln, h.box.keep k (fun q => q.elim h.gr (fun z => z.2 (.inl rfl))), h.rg.keepB k (fun hne b hb q => q.elim (fun e => h.vr (by rw [hb, e])) (fun z => z.2 (.inr ⟨hb, h.vg1 hne b hb⟩))), ?_, h.wp, h.pr, h.gr, h.vr, h.vg1⟩
  refine h.bl.trans (k.below (B := w.heap.size) h.bl.size (fun j hj q => q.elim (fun e => ?_) (fun z => ?_)))
  · have := h.pr; have := h.wp; omega
  · have := z.1; have := h.wp; omega

set_option maxHeartbeats 8000000 in
set_option maxRecDepth 100000 in
theorem lawDeltaSteps {s : ByteArray} {cu n : Int} {w : World} (_hs : s.size ≤ maxLen) (_ha1 : -9223372036854775808 ≤ cu) (_ha2 : cu ≤ 9223372036854775807) (_hn1 : -9223372036854775808 ≤ n) (_hn2 : n ≤ 9223372036854775807) :
    Calls Try.prog 12 #[.string s, .int .i64 cu, .int .i64 n] w fun e w' => e = .returned (.bool true) ∧ Below w.heap.size w w' := by
  have HLT := Lib.hid three11_any
  by_cases hz : 60 < s.size
  · have t1 : decide ((60 : Int) < (s.size : Int)) = true := decide_eq_true (by omega)
    have t1' : decide (60 < s.size) = true := decide_eq_true (by omega)
    clear hz
    go_enter Try.func12, Try.ntmps12
    go_wp2_with fail
    refine (HLT.out _).mono ?_
    rintro e w1 ⟨rfl, hb⟩
    go_wp2
    go_ret
    exact ⟨rfl, hb⟩
  have t1 : decide ((60 : Int) < (s.size : Int)) = false := decide_eq_false (by omega)
  have t1' : decide (60 < s.size) = false := decide_eq_false (by omega)
  by_cases ha : cu < 0
  · have t2 : decide (cu < 0) = true := decide_eq_true ha
    clear ha hz
    go_enter Try.func12, Try.ntmps12
    go_wp2_with fail
    refine (HLT.out _).mono ?_
    rintro e w1 ⟨rfl, hb⟩
    go_wp2
    go_ret
    exact ⟨rfl, hb⟩
  have t2 : decide (cu < 0) = false := decide_eq_false ha
  by_cases hb8 : (s.size : Int) < cu
  · have t3 : decide ((s.size : Int) < cu) = true := decide_eq_true hb8
    clear ha hz hb8
    go_enter Try.func12, Try.ntmps12
    go_wp2_with fail
    refine (HLT.out _).mono ?_
    rintro e w1 ⟨rfl, hb⟩
    go_wp2
    go_ret
    exact ⟨rfl, hb⟩
  have t3 : decide ((s.size : Int) < cu) = false := decide_eq_false hb8
  have HSN := Lib.hid (size11_any n)
  cases hn : sizD n with
  | false =>
    rw [hn] at HSN
    clear hn ha hz hb8
    go_enter Try.func12, Try.ntmps12
    go_wp2_with fail
    refine (HSN.out _).mono ?_
    rintro e w1 ⟨rfl, rfl⟩
    go_wp2_with fail
    refine (HLT.out _).mono ?_
    rintro e w1 ⟨rfl, hb⟩
    go_wp2
    go_ret
    exact ⟨rfl, hb⟩
  | true =>
  rw [hn] at HSN
  have hn2 := sizD_iff.1 hn
  obtain ⟨q, rfl⟩ : ∃ q : Nat, n = q := ⟨n.toNat, by omega⟩
  obtain ⟨cut, rfl⟩ : ∃ c : Nat, cu = c := ⟨cu.toNat, by omega⟩
  obtain ⟨S, hS⟩ : ∃ S, s = str S := ⟨_, str_of s⟩
  have hsz : s.size = S.length := by rw [hS, str_size]
  have hSl : S.length ≤ 60 := by omega
  have hcut : cut ≤ S.length := by omega
  have hX1 : s.extract 0 cut = str (S.take cut) := by rw [hS, str_extract, List.drop_zero, Nat.sub_zero]
  have hX2 : s.extract cut s.size = str (S.drop cut) := by rw [hS, str_extract, str_size, List.take_of_length_le (by rw [List.length_drop]; omega)]
  have HNW := Lib.hid (fun w => dnew_ok (q : Int) w hn)
  have HNR := Lib.hid (fun w => rnew_any (str (S.take cut)) w (by rw [str_size, List.length_take]; omega))
  rw [show (str (S.take cut)).data.toList = S.take cut from rfl] at HNR
  have HRB := Lib.hid (fun w => refbits_any s S w hS (by omega))
  have HRF := Lib.hid (fun w => refread_any _ (bitsL S) q w rfl (by rw [bitsL_len]; omega) (by omega))
  unfold RefQ at HRF
  have HGO := Lib.hid (show refD q (bitsL S) = goD q 0 [] 0 (bitsL S) from rfl)
  have hru := refD_bd q (bitsL S)
  rw [bitsL_len] at hru
  obtain ⟨⟨rl, ru, re⟩, hrf⟩ : ∃ z, refD q (bitsL S) = z := ⟨_, rfl⟩
  rw [hrf] at HRF HGO hru
  dsimp only at hru
  have hmore : ∀ (r : Nat) (c : Nat) (w : World), ReaderAt w r (S.take cut) 0 c → Calls Try.prog 47 #[.pointer (some ⟨r, 0, none⟩), .string (str (S.drop cut))] w fun e w' => e = .returned (.int .i64 0) ∧ RDid r S 0 c w w' := by
    intro r c w h
    have := rmore_any r (S.take cut) (S.drop cut) 0 c _ w h rfl (by rw [List.length_take, List.length_drop]; omega)
    rwa [List.take_append_drop] at this
  have HMO := Lib.hid hmore
  obtain ⟨sb, hsb⟩ : ∃ z, stx (bitsL S) = z := ⟨_, rfl⟩
  rw [hsb] at HRB HRF
  obtain ⟨s1, hs1⟩ : ∃ z, str (S.take cut) = z := ⟨_, rfl⟩
  obtain ⟨s2, hs2⟩ : ∃ z, str (S.drop cut) = z := ⟨_, rfl⟩
  rw [hs1] at hX1 HNR
  rw [hs2] at hX2 HMO
  have hsi : (s.size : Int) = (S.length : Int) := by omega
  have e8 : IntKind.i64.wrap (8 * (S.length : Int)) = 8 * (S.length : Int) := IntWalk.i64_in _ (by omega)
  have e9 : IntKind.i64.wrap (8 * (S.length : Int) + 9) = 8 * (S.length : Int) + 9 := IntWalk.i64_in _ (by omega)
  have hci : (cut : Int) ≤ (S.length : Int) := by omega
  have hq3 : 3 ≤ q ∧ q ≤ 258 := by omega
  have HQ3 := Lib.hid hq3
  obtain ⟨N, hN⟩ : ∃ z, 8 * S.length + 9 = z := ⟨_, rfl⟩
  have hNi : 8 * (S.length : Int) + 9 = (N : Int) := by omega
  have HNL := Lib.hid (show N = 8 * S.length + 9 ∧ N ≤ 489 by omega)
  have hNw : IntKind.i64.wrap (N : Int) = (N : Int) := IntWalk.i64_in _ (by omega)
  clear hn ha hz hb8 hS hsz hn2 hru hrf hsb hs1 hs2 hmore hq3 hN
  go_enter Try.func12, Try.ntmps12
  go_wp2_with fail
  refine (HSN.out _).mono ?_
  rintro e w1 ⟨rfl, rfl⟩
  clear HSN
  go_wp2_with fail
  refine (HNW.out _).mono ?_
  rintro e w1 ⟨rfl, hd1, hb1⟩
  have HD1 := Lib.hid hd1
  have HB1 := Lib.hid hb1
  clear HNW hd1 hb1
  obtain ⟨p, hp⟩ : ∃ z, w.heap.size = z := ⟨_, rfl⟩
  have HP := Lib.hid hp
  rw [hp] at HD1 ⊢
  clear hp
  go_wp2_with fail
  refine (HNR.out _).mono ?_
  rintro e w2 ⟨r, rfl, hr, hrd, hb2⟩
  have HRL := Lib.hid (show r < w2.heap.size from hrd.box.lt)
  have HPR := Lib.hid (show p < r by have := HD1.out.box.lt; omega)
  have HDS := Lib.hid (show DS p (fun _ => False) w2 p r (q : Int) 0 [] false (S.take cut) 0 0 from
    ⟨⟨_, HD1.out.below hb2, fun g hg => by simp [Value.ownBlock] at hg, by simp [Value.ownBlock]⟩, hrd, by have := HPR.out; omega, ⟨Nat.le_refl _, fun h => h⟩, nog w2⟩)
  have HB2 := Lib.hid (HB1.out.trans (below_of hb2 HB1.out.size))
  clear HNR hr hrd hb2 HD1 HB1
  go_wp2_with fail
  refine (HRB.out _).mono ?_
  rintro e w3 ⟨rfl, rfl⟩
  clear HRB
  go_wp2_with fail
  refine (HRF.out _).mono ?_
  rintro e w3 ⟨vg, rfl, hvg, hfg, hb3⟩
  dsimp only at hvg ⊢
  obtain ⟨ag, cg, rfl, -, -⟩ := hvg.shape
  have hal := below_alloc w3 (.cells #[.slice ag rl.length cg, .int .i64 (ru : Int), .int .i64 re] 55 (0, 0))
  have hq := below_two hb3 hal
  have hpst : PSt w (w3.alloc (.cells #[.slice ag rl.length cg, .int .i64 (ru : Int), .int .i64 re] 55 (0, 0))) p r w3.heap.size q 0 [] false cut 0 S (.slice ag rl.length cg) rl ru re := by
    have h3 := hb3.size
    refine ⟨HDS.out.more hq (fun j hj => .inr ?_), by rw [List.drop_zero]; exact HGO.out.symm, .inl rfl, fun _ => rfl, Nat.zero_le _, Blk.new w3 _ _, hvg.below hal, HB2.out.trans (below_of hq HB2.out.size), HP.out, HPR.out, by have := HRL.out; omega, fun e => by have := hfg r e; have := HRL.out; omega, fun hne j hj => ?_⟩
    · rcases hj with rfl | ⟨h1, h2⟩
      · simp; omega
      · have := hfg j h1; simp; omega
    · have := rints_lt hvg (by cases rl with | nil => exact absurd rfl hne | cons x l => simp) j hj
      omega
  obtain ⟨g, hg⟩ : ∃ z, w3.heap.size = z := ⟨_, rfl⟩
  rw [hg] at hpst
  have HST := Lib.hid hpst
  have HGL := Lib.hid hg
  clear HRF hvg hfg hb3 hal hq hpst HDS HB2 HGO
  go_wp2
  go_loopw [11, 52] (fun cv i wr => ∃ (k : Nat) (now : Int) (l : List Int) (come : Bool) (c : Nat), k ≤ N ∧ i = .int .i64 (k : Int) ∧ cv = .bool come ∧ k ≤ c + come.toNat ∧ Hid (PSt w wr p r g q now l come cut c S (.slice ag rl.length cg) rl ru re)) (fun _ i _ => N - (intOf i).toNat)
  case atStart => exact ⟨0, 0, [], false, 0, Nat.zero_le _, rfl, rfl, Nat.zero_le _, HST.out⟩
  case round =>
    clear HST
    obtain ⟨k, now, l, come, c, hkN, rfl, rfl, hkc, HS⟩ := hrel
    have hN2 := HNL.out
    have hc8 : c ≤ 8 * S.length := by have h1 := HS.out.ds.rd.hi; have h2 := curS_len come cut S; omega
    rcases Nat.lt_or_ge k N with hlt | hge
    rotate_left
    · exfalso
      have : come.toNat ≤ 1 := by cases come <;> decide
      omega
    · have hltI : (k : Int) < 8 * (S.length : Int) + 9 := by omega
      have hltN : (k : Int) < (N : Int) := by omega
      have HN1 := Lib.hid (show k + 1 ≤ N ∧ c ≤ 8 * S.length from ⟨hlt, hc8⟩)
      clear hN2
      obtain ⟨vl, h1, hzv, hnr⟩ := HS.out.ds.ex
      by_cases hln : ¬ l.length < q
      · have hq : ((l.length : Int) == (q : Int)) = true := beq_iff_eq.2 (by have := HS.out.ln; omega)
        have hnz : now ≠ 0 := fun h0 => by have h2 := HS.out.nl h0; rw [h2] at hln; simp at hln; have := HQ3.out; omega
        have he : (rl, ru, re) = (l, c, (0 : Int)) := by rw [← HS.out.go, goD_done _ hln hnz]
        simp only [Prod.mk.injEq] at he
        obtain ⟨rfl, rfl, rfl⟩ := he
        have HDN := Lib.hid (ddone_any p (q : Int) now vl rl false true wr h1 hq)
        have HD1 := Lib.hid h1
        have hrl : rl.length ≤ 1000 := by have := HS.out.ln; have := HQ3.out; omega
        have HSD := Lib.hid (fun w h => dStep_done p r (q : Int) now vl rl false w h hq)
        have HAT := Lib.hid (fun w h => rat_any r (curS come cut S) 0 ru w h)
        have HLS := Lib.hid (fun w h => dlens_any p (q : Int) now vl rl false w h hrl)
        clear h1 hzv hnr hln hnz hq
        go_wp2_with fail
        refine HDN.out.mono ?_
        rintro e x1 ⟨rfl, hq⟩
        have hqd := below_two hq (below_drew1 _)
        have H1 := Lib.hid (HS.out.below hqd)
        have HDX := Lib.hid (HD1.out.below hqd)
        have hbx := H1.out.box
        have g0 := hbx.cell (i := 0) (x := .slice ag rl.length cg) rfl
        have g1 := hbx.cell (i := 1) (x := .int .i64 (ru : Int)) rfl
        have g2 := hbx.cell (i := 2) (x := .int .i64 0) rfl
        clear HDN hq hqd hbx HS HD1
        go_wp2
        go_region_held3 (fun w' => w'.cell? ⟨g, 0, none⟩ = some (.slice ag rl.length cg) ∧ w'.cell? ⟨g, 1, none⟩ = some (.int .i64 (ru : Int)) ∧ w'.cell? ⟨g, 2, none⟩ = some (.int .i64 0))
          (first | (with_reducible exact ⟨g0, g1, g2⟩) | (with_reducible exact ⟨cellB g0 hA1, cellB g1 hA1, cellB g2 hA1⟩) | (with_reducible exact ⟨cellB g0 hA3, cellB g1 hA3, cellB g2 hA3⟩) | (with_reducible exact ⟨cellB g0 hA4, cellB g1 hA4, cellB g2 hA4⟩) | (with_reducible exact ⟨cellB g0 hA5, cellB g1 hA5, cellB g2 hA5⟩) | assumption)
          (first
            | (go_at_call 36; refine (HLT.out _).mono ?_; rintro e y5 ⟨rfl, hq⟩; have hA5 := below_two hA4 hq; clear hq)
            | (go_at_call 33; refine (ints_same _ _ rl _ hv3 (H1.out.rg.below hA3)).mono ?_; rintro e y4 ⟨rfl, hd⟩; have hA4 := below_two hA3 (below_drawn hd); clear hd)
            | (go_at_call 46; refine (HLS.out _ (HDX.out.below hA1)).mono ?_; rintro e y3 ⟨v3, rfl, hv3, hf3, hq⟩; have hA3 := below_two hA1 hq; clear hq hf3)
            | (go_at_call 39; refine (HAT.out _ (H1.out.ds.rd.below hA1)).mono ?_; rintro e y2 ⟨rfl, rfl⟩)
            | (go_at_call 44; refine (HSD.out _ HDX.out).mono ?_; rintro e y1 ⟨rfl, hA1⟩))
        all_goals
          have HE := Lib.hid (H1.out.bl.trans (below_of hA5 H1.out.bl.size))
          clear g0 g1 g2 hv3
          go_wp2
          go_ret
          exact ⟨rfl, HE.out⟩
      · have hln : l.length < q := by omega
        have hq : ((l.length : Int) == (q : Int)) = false := beq_eq_false_iff_ne.2 (by omega)
        have HDN := Lib.hid (ddone_any p (q : Int) now vl l false false wr h1 hq)
        have HSA := Lib.hid (fun w h hB => dStep_any p (GG g (.slice ag rl.length cg)) p r (q : Int) now l (curS come cut S) 0 c w h hB HS.out.nw (by have := HQ3.out; omega) hq)
        have HCS := Lib.hid (stepD_cases now ((bitsL (curS come cut S)).drop c))
        obtain ⟨tl, htl⟩ := HS.out.rest
        have HMR := Lib.hid (fun h => stepD_more (now := now) (r := (bitsL (curS come cut S)).drop c) tl h)
        rw [← htl] at HMR
        have HNIL := Lib.hid (show come = true → stepD now ((bitsL S).drop c) = stepD now ((bitsL (curS come cut S)).drop c) from fun h => by rw [h]; rfl)
        obtain ⟨⟨er, u, n', app⟩, hst⟩ : ∃ z, stepD now ((bitsL (curS come cut S)).drop c) = z := ⟨_, rfl⟩
        rw [hst] at HSA HCS HMR HNIL
        have HST := Lib.hid hst
        dsimp only at HCS HMR
        have HGS := Lib.hid (fun h : stepD now ((bitsL S).drop c) = (er, u, n', app) => goD_step c h hln HS.out.nw)
        have HQW := Lib.hid hq
        have HLN := Lib.hid hln
        have hkc2 := Lib.hid hkc
        clear h1 hzv hnr hst htl hq hln
        go_wp2_with fail
        refine HDN.out.mono ?_
        rintro e x1 ⟨rfl, hq⟩
        have H1 := Lib.hid (HS.out.below hq)
        clear HDN hq HS
        go_wp2_with fail
        refine (rat_any r _ 0 c _ H1.out.ds.rd).mono ?_
        rintro e x2 ⟨rfl, rfl⟩
        go_wp2_with fail
        refine (HSA.out _ H1.out.ds (by have := H1.out.bl.size; have := H1.out.wp; omega)).mono ?_
        rintro e x2 ⟨rfl, hds2, hk2⟩
        dsimp only at hds2 ⊢
        have HDS2 := Lib.hid hds2
        have HK2 := Lib.hid hk2
        clear HSA hds2 hk2
        rcases HCS.out with rfl | ⟨rfl, rfl⟩ | rfl
        · have hgs := HGS.out (HMR.out (by decide))
          have hgs2 : okD n' = true ∧ u ≤ ((bitsL S).drop c).length ∧ 0 < u ∧ goD q now l c ((bitsL S).drop c) = goD q n' (if app then l ++ [now] else l) (c + u) (((bitsL S).drop c).drop u) := by
            rcases hgs with ⟨_, h1, h2, h3, _, h5⟩ | ⟨h, _⟩ | ⟨h, _⟩
            · exact ⟨h1, h2, h3, h5⟩
            · exact absurd h (by decide)
            · exact absurd h (by decide)
          obtain ⟨hok, hul, hu0, hgo⟩ := hgs2
          rw [List.drop_drop] at hgo
          have HT := Lib.hid (H1.out.turn HK2.out HDS2.out (hgo.symm.trans H1.out.go) (.inr hok) (fun h0 => by have := okD_iff.1 hok; omega) (by
            cases app
            · exact Nat.le_of_lt HLN.out
            · rw [if_pos rfl, List.length_append]; exact HLN.out))
          have HKC := Lib.hid (show k + 1 ≤ c + u + come.toNat by have := hkc2.out; omega)
          clear hgs hok hul hu0 hgo
          go_wp2
          go_roundw
          case rel => exact ⟨k + 1, n', _, come, c + u, HN1.out.1, by go_num, rfl, HKC.out, HT.out⟩
          case measure => simp [intOf]; omega
        · cases come with
          | true =>
            have hgs := HGS.out (HNIL.out rfl)
            have he : (rl, ru, re) = (([] : List Int), (0 : Nat), (3 : Int)) := by
              rcases hgs with ⟨h, _⟩ | ⟨_, _, _, _, h5⟩ | ⟨h, _⟩
              · exact absurd h (by decide)
              · exact H1.out.go.symm.trans h5
              · exact absurd h (by decide)
            simp only [Prod.mk.injEq] at he
            obtain ⟨rfl, rfl, rfl⟩ := he
            have HB2 := Lib.hid (H1.out.bl.trans (HK2.out.below (B := w.heap.size) H1.out.bl.size (fun j hj q => q.elim (fun e => by have := H1.out.pr; have := H1.out.wp; omega) (fun z => by have := z.1; have := H1.out.wp; omega))))
            have hbx := H1.out.box.keep HK2.out (fun q => q.elim H1.out.gr (fun z => z.2 (.inl rfl)))
            have g2 := hbx.cell (i := 2) (x := .int .i64 3) rfl
            have HRR := Lib.hid (show ReaderAt x2 r (curS true cut S) 0 c from HDS2.out.rd)
            clear hgs hbx
            go_wp2_with fail
            refine (rat_any r _ 0 c _ HRR.out).mono ?_
            rintro e x3 ⟨rfl, rfl⟩
            go_wp2_with fail
            refine (HLT.out _).mono ?_
            rintro e x3 ⟨rfl, hq⟩
            have HB3 := Lib.hid (HB2.out.trans (below_of hq HB2.out.size))
            clear hq g2
            go_wp2
            go_ret
            exact ⟨rfl, HB3.out⟩
          | false =>
            obtain ⟨-, hnn, hap⟩ := stepD_short HST.out
            have HRR := Lib.hid (show ReaderAt x2 r (S.take cut) 0 c from HDS2.out.rd)
            have HM := Lib.hid (HMO.out r c x2 HRR.out)
            have HD2 := Lib.hid (show DS p (GG g (.slice ag rl.length cg)) x2 p r (q : Int) now l false (S.take cut) 0 c by
              have := HDS2.out
              rw [hnn, hap] at this
              exact this)
            clear hnn hap HDS2
            go_wp2_with fail
            refine (rat_any r _ 0 c _ HRR.out).mono ?_
            rintro e x3 ⟨rfl, rfl⟩
            go_wp2_with fail
            refine HM.out.mono ?_
            rintro e x3 ⟨rfl, hd3⟩
            have HT := Lib.hid (H1.out.turn (come2 := true) (HK2.out.trans (RDid.turn hd3)) (show DS p (GG g (.slice ag rl.length cg)) x3 p r (q : Int) now l false (curS true cut S) 0 c from HD2.out.move hd3) H1.out.go H1.out.nw H1.out.nl H1.out.ln)
            have HKC := Lib.hid (show k + 1 ≤ c + true.toNat by have := hkc2.out; simp at this ⊢; exact this)
            clear HM hd3
            go_wp2
            go_roundw
            case rel => exact ⟨k + 1, now, l, true, c, HN1.out.1, by go_num, rfl, HKC.out, HT.out⟩
            case measure => simp [intOf]; omega
        · have hgs := HGS.out (HMR.out (by decide))
          have he : (rl, ru, re) = (([] : List Int), (0 : Nat), (22 : Int)) ∧ n' = now ∧ app = false := by
            rcases hgs with ⟨h, _⟩ | ⟨h, _⟩ | ⟨_, _, h3, h4, h5⟩
            · exact absurd h (by decide)
            · exact absurd h (by decide)
            · exact ⟨H1.out.go.symm.trans h5, h3, h4⟩
          obtain ⟨he, hnn, hap⟩ := he
          simp only [Prod.mk.injEq] at he
          obtain ⟨rfl, rfl, rfl⟩ := he
          have HB2 := Lib.hid (H1.out.bl.trans (HK2.out.below (B := w.heap.size) H1.out.bl.size (fun j hj q => q.elim (fun e => by have := H1.out.pr; have := H1.out.wp; omega) (fun z => by have := z.1; have := H1.out.wp; omega))))
          have hbx := H1.out.box.keep HK2.out (fun q => q.elim H1.out.gr (fun z => z.2 (.inl rfl)))
          have g2 := hbx.cell (i := 2) (x := .int .i64 22) rfl
          have hd2 := HDS2.out
          rw [hnn, hap] at hd2
          have hd3 : DS p (GG g (.slice ag ([] : List Int).length cg)) x2 p r (q : Int) now l true (curS come cut S) 0 (c + u) := hd2
          obtain ⟨vl2, q1, -, -⟩ := hd3.ex
          have HRD := Lib.hid hd3.rd
          have HSW := Lib.hid (dStep_wrong p r (q : Int) now vl2 l x2 q1 HQW.out)
          have HQ1 := Lib.hid q1
          clear hgs hbx hnn hap hd2 hd3 q1 HDS2
          go_wp2_with fail
          refine (rat_any r _ 0 (c + u) _ HRD.out).mono ?_
          rintro e x3 ⟨rfl, rfl⟩
          go_wp2_with fail
          refine HSW.out.mono ?_
          rintro e x3 ⟨rfl, hq3⟩
          have HB3 := Lib.hid (HB2.out.trans (below_of hq3 HB2.out.size))
          have HRD3 := Lib.hid (HRD.out.below hq3)
          have HDN3 := Lib.hid (ddone_any p (q : Int) now vl2 l true false x3 (HQ1.out.below hq3) HQW.out)
          clear hq3 g2 HSW
          go_wp2_with fail
          refine (rat_any r _ 0 (c + u) _ HRD3.out).mono ?_
          rintro e x4 ⟨rfl, rfl⟩
          go_wp2_with fail
          refine HDN3.out.mono ?_
          rintro e x4 ⟨rfl, hq4⟩
          have HB4 := Lib.hid (HB3.out.trans (below_of hq4 HB3.out.size))
          clear hq4 HDN3
          go_wp2_with fail
          refine (HLT.out _).mono ?_
          rintro e x5 ⟨rfl, hq5⟩
          have HB5 := Lib.hid (HB4.out.trans (below_of hq5 HB4.out.size))
          clear hq5
          go_wp2
          go_ret
          exact ⟨rfl, HB5.out⟩
end Go.Proofs.Ytjpjdecbkekcfaa

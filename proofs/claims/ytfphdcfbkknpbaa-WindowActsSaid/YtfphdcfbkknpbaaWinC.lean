/- Package window: charges and ticks, and all that is left. -/
import Derived.Test.YtfphdcfbkknpbaaWinB
namespace Go.Proofs.Ytfphdcfbkknpbaa
open Go.RowKit

/-- why a charge is refused; 0: it is not -/
def chargeE (Q C : List Int) (t n : Int) : Int :=
  if isIn t Q = false then 6 else if ¬ (0 ≤ n ∧ n ≤ 1099511627776) then 1 else if leftL Q C t < n then 33 else 0
def chargeC (Q C : List Int) (t n : Int) : List Int := if chargeE Q C t n = 0 then C.set t.toNat (C.getD t.toNat 0 + n) else C
def chargeT (Q C T : List Int) (t n : Int) : List Int := if chargeE Q C t n = 0 then T.set t.toNat (min (T.getD t.toNat 0 + n) 1099511627776) else T

theorem chargeE_in {Q C : List Int} {t n : Int} (h : isIn t Q = false) : chargeE Q C t n = 6 := by unfold chargeE; rw [if_pos h]
theorem chargeE_arg {Q C : List Int} {t n : Int} (h : isIn t Q = true) (h2 : ¬ (0 ≤ n ∧ n ≤ 1099511627776)) : chargeE Q C t n = 1 := by
  unfold chargeE
  rw [if_neg (by rw [h]; decide), if_pos h2]
theorem chargeE_quota {Q C : List Int} {t n : Int} (h : isIn t Q = true) (h2 : 0 ≤ n ∧ n ≤ 1099511627776) (h3 : leftL Q C t < n) : chargeE Q C t n = 33 := by
  unfold chargeE
  rw [if_neg (by rw [h]; decide), if_neg (by simpa using h2), if_pos h3]
theorem chargeE_ok {Q C : List Int} {t n : Int} (h : isIn t Q = true) (h2 : 0 ≤ n ∧ n ≤ 1099511627776) (h3 : ¬ leftL Q C t < n) : chargeE Q C t n = 0 := by
  unfold chargeE
  rw [if_neg (by rw [h]; decide), if_neg (by simpa using h2), if_neg h3]

theorem MeterAt.set {w : World} {m : MB} {span at_ : Int} {Q C T : List Int} (h : MeterAt w m span at_ Q C T) (k : Nat) (c t : Int) :
    MeterAt ((w.setCell ⟨m.bc, k, none⟩ (.int .i64 c)).setCell ⟨m.bt, k, none⟩ (.int .i64 t)) m span at_ Q (C.set k c) (T.set k t) := by
  obtain ⟨vq, hb, hr, hf⟩ := h.box
  have kp : Keep (fun j => j = m.bc ∨ j = m.bt) w ((w.setCell ⟨m.bc, k, none⟩ (.int .i64 c)).setCell ⟨m.bt, k, none⟩ (.int .i64 t)) :=
    keep_setCell (keep_setCell (Keep.refl _ w) (.inl rfl) _) (.inr rfl) _
  have n1 := h.n1; have n2 := h.n2; have n3 := h.n3; have n4 := h.n4; have n5 := h.n5; have n6 := h.n6
  refine ⟨⟨vq, hb.keep kp (by omega), hr.keep kp (fun b hb hs => by have := hf b hb; omega), hf⟩, ?_, ?_, by simp [h.lenC], by simp [h.lenT], n1, n2, n3, n4, n5, n6, ?_, h.q0, h.q16, h.mayQ⟩
  · have := (h.blc.set k (.int .i64 c)).other ⟨m.bt, k, none⟩ (.int .i64 t) n6
    rw [List.map_set]
    exact this
  · have := (h.blt.other ⟨m.bc, k, none⟩ (.int .i64 c) (Ne.symm n6)).set k (.int .i64 t)
    rw [List.map_set]
    exact this
  · have := h.lq
    simpa using this

theorem MeterAt.drewN {w : World} {m : MB} {span at_ : Int} {Q C T : List Int} (h : MeterAt w m span at_ Q C T) (n : Nat) : MeterAt (w.drewN n) m span at_ Q C T :=
  h.below (below_drewN (Below.refl _ _) n)

def Charged (m : MB) (span at_ : Int) (Q C T : List Int) (t n : Int) (w : World) (e : Ending) (w' : World) : Prop :=
  e = .returned (.int .i64 (chargeE Q C t n)) ∧ MeterAt w' m span at_ Q (chargeC Q C t n) (chargeT Q C T t n) ∧ Keep (fun j => j = m.bc ∨ j = m.bt) w w'

theorem charged_no {m : MB} {span at_ : Int} {Q C T : List Int} {t n : Int} {w w' : World} (h : MeterAt w m span at_ Q C T) (hb : Below w.heap.size w w') {x : Int} (hx : chargeE Q C t n = x) (h0 : x ≠ 0) :
    Charged m span at_ Q C T t n w (.returned (.int .i64 x)) w' := by
  refine ⟨by rw [hx], ?_, Keep.of_below hb _⟩
  unfold chargeC chargeT
  rw [if_neg (by rw [hx]; exact h0), if_neg (by rw [hx]; exact h0)]
  exact h.below hb

set_option maxHeartbeats 1000000 in
set_option maxRecDepth 100000 in
theorem wcharge_any (m : MB) (span at_ t n : Int) (Q C T : List Int) (w : World) (h : MeterAt w m span at_ Q C T) (hc : small C) (ht : small T) :
    Calls Try.prog 19 #[m.ptr, .int .i64 t, .int .i64 n] w (Charged m span at_ Q C T t n w) := by
  have H := Lib.hid h
  have HIS := Lib.hid (wis_any m span at_ t Q C T w h)
  have HLE := Lib.hid (wleft_any m span at_ t Q C T w h hc)
  cases hin : isIn t Q with
  | false =>
    rw [hin] at HIS
    have HE := Lib.hid (chargeE_in (C := C) (n := n) hin)
    unfold MB.ptr at HIS ⊢
    clear h hc ht hin HLE
    go_enter Try.func19, Try.ntmps19
    go_wp2_with fail
    refine HIS.out.mono ?_
    rintro e w' ⟨rfl, rfl⟩
    clear HIS
    go_wp2
    go_ret
    exact charged_no H.out (Below.refl _ _) HE.out (by decide)
  | true =>
    rw [hin] at HIS
    by_cases hn : 0 ≤ n ∧ n ≤ 1099511627776
    · by_cases hq : leftL Q C t < n
      · have HE := Lib.hid (chargeE_quota hin hn hq)
        have HN := Lib.hid (show (decide (0 ≤ n) && decide (n ≤ 1099511627776)) = true by simp [hn])
        obtain ⟨L, hL⟩ : ∃ L, leftL Q C t = L := ⟨_, rfl⟩
        rw [hL] at HLE hq
        unfold MB.ptr at HIS HLE ⊢
        clear h hc ht hin hn hL
        go_enter Try.func19, Try.ntmps19
        go_wp2_with fail
        refine HIS.out.mono ?_
        rintro e w' ⟨rfl, rfl⟩
        go_wp2_with fail
        refine (wmay_any _ _).mono ?_
        rintro e w' ⟨rfl, rfl⟩
        rw [HN.out]
        go_wp2_with fail
        refine HLE.out.mono ?_
        rintro e w' ⟨rfl, hd⟩
        have HD := Lib.hid hd
        clear HIS HLE hd
        go_wp2
        go_ret
        exact charged_no H.out (below_drawn HD.out) HE.out (by decide)
      · have HE := Lib.hid (chargeE_ok hin hn hq)
        have HN := Lib.hid (show (decide (0 ≤ n) && decide (n ≤ 1099511627776)) = true by simp [hn])
        obtain ⟨k, rfl, hk⟩ := isIn_yes hin
        obtain ⟨aq, capq, h0, h1, h2, h3, h4, hr⟩ := h.cells
        have hlc := h.lenC
        have hlt := h.lenT
        obtain ⟨y, hy⟩ : ∃ y, C[k]? = some y := ⟨C[k], List.getElem?_eq_getElem (by omega)⟩
        obtain ⟨z, hz⟩ : ∃ z, T[k]? = some z := ⟨T[k], List.getElem?_eq_getElem (by omega)⟩
        obtain ⟨hy1, hy2⟩ := small_at hc hy
        obtain ⟨hz1, hz2⟩ := small_at ht hz
        obtain ⟨hn1, hn2⟩ := hn
        have hcy : w.cell? ⟨m.bc, k, none⟩ = some (.int .i64 y) := h.blc.cell (by rw [List.getElem?_map, hy]; rfl)
        have hcz : w.cell? ⟨m.bt, k, none⟩ = some (.int .i64 z) := h.blt.cell (by rw [List.getElem?_map, hz]; rfl)
        have hfc := h.blc.free k
        have hft := h.blt.free k
        have hn6 : ¬ m.bt = m.bc := fun e => h.n6 e.symm
        have hn6' : ¬ m.bc = m.bt := h.n6
        have hn2' : ¬ m.b = m.bc := h.n2
        have hkk : (k : Int) < (Q.length : Int) := by omega
        have HC := Lib.hid (show chargeC Q C k n = C.set k (y + n) by unfold chargeC; rw [if_pos HE.out, Int.toNat_natCast, getD_of hy])
        have HT := Lib.hid (show chargeT Q C T k n = T.set k (min (z + n) 1099511627776) by unfold chargeT; rw [if_pos HE.out, Int.toNat_natCast, getD_of hz])
        obtain ⟨L, hL⟩ : ∃ L, leftL Q C k = L := ⟨_, rfl⟩
        rw [hL] at HLE hq
        unfold MB.ptr at HIS HLE ⊢
        clear h hc ht hin hL hr h0 h1 h2 hlc hlt hy hz
        go_enter Try.func19, Try.ntmps19
        go_wp2_with fail
        refine HIS.out.mono ?_
        rintro e w' ⟨rfl, rfl⟩
        go_wp2_with fail
        refine (wmay_any _ _).mono ?_
        rintro e w' ⟨rfl, rfl⟩
        rw [HN.out]
        go_wp2_with fail
        refine HLE.out.mono ?_
        rintro e w' ⟨rfl, d, rfl⟩
        clear HIS HLE
        go_wp2
        have h4' : ((w.drewN d).setCell ⟨m.bc, k, none⟩ (.int .i64 (y + n))).cell? ⟨m.b, 4, none⟩ = some (.slice (some ⟨m.bt, 0, none⟩) Q.length Q.length) := by
          rw [World.cell?_setCell_other _ _ _ _ (by simp [hn2'])]
          simpa using h4
        have hcz' : ((w.drewN d).setCell ⟨m.bc, k, none⟩ (.int .i64 (y + n))).cell? ⟨m.bt, k, none⟩ = some (.int .i64 z) := by
          rw [World.cell?_setCell_other _ _ _ _ (by simp [hn6])]
          simpa using hcz
        have hft' : ((w.drewN d).setCell ⟨m.bc, k, none⟩ (.int .i64 (y + n))).frozen? ⟨m.bt, k, none⟩ = false := by
          simpa using hft
        have hfin : ∀ z', MeterAt ((((w.drewN d).setCell ⟨m.bc, k, none⟩ (.int .i64 (y + n))).drew.setCell ⟨m.bt, k, none⟩ (.int .i64 z'))) m span at_ Q (C.set k (y + n)) (T.set k z') ∧
            Keep (fun j => j = m.bc ∨ j = m.bt) w ((((w.drewN d).setCell ⟨m.bc, k, none⟩ (.int .i64 (y + n))).drew.setCell ⟨m.bt, k, none⟩ (.int .i64 z'))) := by
          intro z'
          refine ⟨(((H.out.drewN d).set k (y + n) z').drewN 1), ?_⟩
          exact (keep_setCell (keep_setCell (Keep.of_below (below_drewN (Below.refl _ _) d) _) (.inl rfl) _) (.inr rfl) _).trans (Keep.of_below (below_drewN (Below.refl _ _) 1) _)
        have HFIN := Lib.hid hfin
        clear hfin h3 h4 hcy hcz hfc hft hn6 hn6' hn2' H
        generalize (w.drewN d).setCell ⟨m.bc, k, none⟩ (.int .i64 (y + n)) = w2 at *
        go_still_tail 15, (by kernel_rfl)
        all_goals
          change wpList _ _ _ _ _ (World.drew _)
          go_wp2
        all_goals
          go_ret
          refine ⟨by rw [HE.out]; rfl, ?_, (HFIN.out _).2⟩
          rw [HC.out, HT.out]
          first
          | (rw [show min (z + n) 1099511627776 = z + n from by omega]; exact (HFIN.out _).1)
          | (rw [show min (z + n) 1099511627776 = 1099511627776 from by omega]; exact (HFIN.out _).1)
    · have HE := Lib.hid (chargeE_arg (C := C) hin hn)
      have HN := Lib.hid (show (decide (0 ≤ n) && decide (n ≤ 1099511627776)) = false by simp; omega)
      unfold MB.ptr at HIS ⊢
      clear h hc ht hin hn HLE
      go_enter Try.func19, Try.ntmps19
      go_wp2_with fail
      refine HIS.out.mono ?_
      rintro e w' ⟨rfl, rfl⟩
      go_wp2_with fail
      refine (wmay_any _ _).mono ?_
      rintro e w' ⟨rfl, rfl⟩
      rw [HN.out]
      clear HIS
      go_wp2
      go_ret
      exact charged_no H.out (Below.refl _ _) HE.out (by decide)

theorem wcharge_nil (t n : Int) (w : World) : Calls Try.prog 19 #[.pointer none, .int .i64 t, .int .i64 n] w fun e w' => e = .returned (.int .i64 7) ∧ w = w' := by
  go_enter Try.func19, Try.ntmps19
  go_wp2
  go_ret
  exact ⟨rfl, rfl⟩

theorem MeterAt.setAt {w : World} {m : MB} {span at_ : Int} {Q C T : List Int} (h : MeterAt w m span at_ Q C T) (a : Int) :
    MeterAt (w.setCell ⟨m.b, 1, none⟩ (.int .i64 a)) m span a Q C T := by
  obtain ⟨vq, hb, hr, hf⟩ := h.box
  have kp : Keep (fun j => j = m.b) w (w.setCell ⟨m.b, 1, none⟩ (.int .i64 a)) := keep_setCell (S := fun j => j = m.b) (Keep.refl _ w) rfl _
  have n1 := h.n1; have n2 := h.n2; have n3 := h.n3
  refine ⟨⟨vq, hb.set 1 _, hr.keep kp (fun b hb hs => by have := hf b hb; omega), hf⟩, h.blc.keep kp (Ne.symm n2), h.blt.keep kp (Ne.symm n3), h.lenC, h.lenT, n1, n2, n3, h.n4, h.n5, h.n6, ?_, h.q0, h.q16, h.mayQ⟩
  have := h.lq
  simpa using this

theorem MeterAt.setC {w w' : World} {m : MB} {span at_ : Int} {Q C T : List Int} (h : MeterAt w m span at_ Q C T) (bc : Nat) (k : Below w.heap.size w w') (hbc : Blk w' bc (List.replicate Q.length (.int .i64 0)) 3) (hf : w.heap.size ≤ bc) :
    MeterAt (w'.setCell ⟨m.b, 3, none⟩ (.slice (some ⟨bc, 0, none⟩) Q.length Q.length)) { m with bc := bc } span at_ Q (List.replicate Q.length 0) T := by
  obtain ⟨vq, hb, hr, hfr⟩ := h.box
  have kp : Keep (fun j => j = m.b) w' (w'.setCell ⟨m.b, 3, none⟩ (.slice (some ⟨bc, 0, none⟩) Q.length Q.length)) := keep_setCell (S := fun j => j = m.b) (Keep.refl _ w') rfl _
  have n1 := h.n1; have n2 := h.n2; have n3 := h.n3; have n5 := h.n5; have lq := h.lq
  have lb := hb.lt; have lt := h.blt.lt
  refine ⟨⟨vq, (hb.below k).set 3 _, (hr.below k).keep kp (fun b hb hs => by have := hfr b hb; omega), hfr⟩, ?_, (h.blt.below k).keep kp (Ne.symm n3), by simp, h.lenT, n1, ?_, n3, ?_, n5, ?_, ?_, h.q0, h.q16, h.mayQ⟩
  · have := hbc.keep kp (show ¬ bc = m.b by omega)
    simpa using this
  · show m.b ≠ bc; omega
  · show m.bq ≠ bc; omega
  · show bc ≠ m.bt; omega
  · have := k.size
    show m.bq < _
    simp
    omega

/-- a tick: the tick behind it, and what is charged in its window -/
def tickC (span at_ : Int) (C : List Int) : List Int := if (at_ + 1) % span == 0 then List.replicate C.length 0 else C

def Ticked (m : MB) (span at_ : Int) (Q C T : List Int) (w : World) (e : Ending) (w' : World) : Prop :=
  ∃ bc : Nat, e = .returned (.tuple #[]) ∧ MeterAt w' { m with bc := bc } span (at_ + 1) Q (tickC span at_ C) T ∧ Keep (fun j => j = m.b) w w' ∧ (bc = m.bc ∨ w.heap.size ≤ bc)

set_option maxRecDepth 100000 in
theorem wtick_any (m : MB) (span at_ : Int) (Q C T : List Int) (w : World) (h : MeterAt w m span at_ Q C T) (hs : 1 ≤ span) (ha : 0 ≤ at_) (ha2 : at_ < 1099511627776) :
    Calls Try.prog 18 #[m.ptr] w (Ticked m span at_ Q C T w) := by
  obtain ⟨aq, capq, h0, h1, h2, h3, h4, hr⟩ := h.cells
  obtain ⟨vq, hb, _⟩ := h.box
  have hfr1 := hb.free 1
  have hne : (at_ == 1099511627776) = false := beq_eq_false_iff_ne.2 (by omega)
  have H := Lib.hid h
  have HSET := Lib.hid (h.setAt (at_ + 1))
  have HBEG := Lib.hid (wbegins_any m span (at_ + 1) Q C T _ (h.setAt (at_ + 1)) hs (by omega) (by omega))
  have hq16 := h.q16
  unfold MB.ptr at HBEG ⊢
  clear h hr hb h0 h2 h3 h4
  go_enter Try.func18, Try.ntmps18
  go_wp2_with fail
  refine HBEG.out.mono ?_
  rintro e w' ⟨rfl, d, rfl⟩
  clear HBEG
  have HM := Lib.hid (HSET.out.drewN d)
  have hk : Keep (fun j => j = m.b) w ((w.setCell ⟨m.b, 1, none⟩ (.int .i64 (at_ + 1))).drewN d) :=
    (keep_setCell (S := fun j => j = m.b) (Keep.refl _ w) rfl _).trans (Keep.of_below (below_drewN (Below.refl _ _) d) _)
  have HK := Lib.hid hk
  clear hk HSET h1 hfr1 hne
  generalize (w.setCell ⟨m.b, 1, none⟩ (.int .i64 (at_ + 1))).drewN d = w2 at *
  cases hz : (at_ + 1) % span == 0 with
  | true =>
    have HT := Lib.hid (show tickC span at_ C = List.replicate Q.length 0 by unfold tickC; rw [hz, if_pos rfl, H.out.lenC])
    obtain ⟨vq2, hb2, _⟩ := HM.out.box
    obtain ⟨aq, capq, h0, h1, h2, h3, h4, hr⟩ := HM.out.cells
    have hfr3 := hb2.free 3
    have hbl := hb2.lt
    clear hb2 hr h0 h1 h4 hz
    go_wp2_with (at_make; refine wpList_make_blk _ rfl _ _ 22 rfl 3 (.int .i64 0) 8 Try.underlying22 intinfo rfl _ _ _ _ Q.length rfl rfl rfl rfl (by omega) (by unfold maxLen; omega) ?_)
    intro w3 hb3 hk3
    have h3' := hk3.cell (p := ⟨m.b, 3, none⟩) hbl
    have hfr3' := hk3.frozen (p := ⟨m.b, 3, none⟩) hbl
    rw [h3] at h3'
    rw [hfr3] at hfr3'
    have HFIN := Lib.hid (HM.out.setC w2.heap.size hk3 hb3 (Nat.le_refl _))
    have HK2 := Lib.hid ((HK.out.trans (Keep.of_below hk3 _)).trans (keep_setCell (Keep.refl (fun j => j = m.b) w3) (a := ⟨m.b, 3, none⟩) rfl (.slice (some ⟨w2.heap.size, 0, none⟩) Q.length Q.length)))
    have HSZ := Lib.hid HK.out.size
    clear hb3 hk3 h3 hfr3 h2
    go_wp2
    go_end0
    exact ⟨w2.heap.size, rfl, by rw [HT.out]; exact HFIN.out, HK2.out, .inr HSZ.out⟩
  | false =>
    have HT := Lib.hid (show tickC span at_ C = C by unfold tickC; rw [hz]; rfl)
    clear hz
    go_wp2
    go_end0
    exact ⟨m.bc, rfl, by rw [HT.out]; exact HM.out, HK.out, .inl rfl⟩

theorem wtick_nil (w : World) : Calls Try.prog 18 #[.pointer none] w fun e w' => e = .returned (.tuple #[]) ∧ w = w' := by
  go_enter Try.func18, Try.ntmps18
  go_wp2
  first | go_end0 | refine bodyPost_ret (results_none rfl _ _ _) rfl ?_
  exact ⟨rfl, rfl⟩
end Go.Proofs.Ytfphdcfbkknpbaa

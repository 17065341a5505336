/- Package picks: pick. -/
import Derived.Test.YtoebnibhkdidhaaPicE
import Derived.Deep.RegionLaw
import Derived.Deep.AppendLies
namespace Go.Proofs.Ytoebnibhkdidhaa
open Go.RowKit

theorem ones_nil {r : List Bool} {j : Nat} (h : j ≤ onesL r) (hd : r.drop j = []) : onesL r = r.length := by
  have h1 := onesL_le r
  have h2 := congrArg List.length hd
  rw [List.length_drop, List.length_nil] at h2
  omega
theorem ones_cons {r s : List Bool} {j : Nat} {x : Bool} (h : j ≤ onesL r) (hd : r.drop j = x :: s) : (x = true → j + 1 ≤ onesL r) ∧ (x = false → onesL r = j) := by
  induction r generalizing j with
  | nil => simp at hd
  | cons b r ih =>
    cases j with
    | zero =>
      simp at hd
      obtain ⟨rfl, rfl⟩ := hd
      cases b <;> simp [onesL]
    | succ j =>
      cases b with
      | false => simp [onesL] at h
      | true =>
        rw [onesL] at h ⊢
        rw [List.drop_succ_cons] at hd
        have := ih (j := j) (by omega) hd
        exact ⟨fun e => by have := this.1 e; omega, fun e => by rw [this.2 e]⟩
theorem drop_one {l : List Bool} {a : Nat} {x : Bool} {r : List Bool} (h : l.drop a = x :: r) : l.drop (a + 1) = r ∧ a < l.length := by
  constructor
  · rw [← List.drop_drop, h]; rfl
  · have := congrArg List.length h
    rw [List.length_drop, List.length_cons] at this
    omega
theorem rget_bit (r : Nat) (S : List UInt8) (d a : Nat) (x : Bool) (t : List Bool) (w : World) (h : ReaderAt w r S d a) (hx : (bitsL S).drop a = x :: t) :
    Calls Try.prog 76 #[.pointer (some ⟨r, 0, none⟩), .int .i64 1] w fun e w' => e = .returned (.tuple #[.int .u32 (x.toNat : Nat), .int .i64 0]) ∧ RDid r S d (a + 1) w w' := by
  have hl := (drop_one hx).2
  rw [bitsL_len] at hl
  have := rget_ok r S d a 1 w h (by decide) (by omega)
  have e : getBits S a 1 = [x] := by unfold getBits; rw [hx]; rfl
  have e2 : numL [x] = x.toNat := by simp [numL]
  rw [e, e2] at this
  exact this
theorem rget_end (r : Nat) (S : List UInt8) (d a : Nat) (w : World) (h : ReaderAt w r S d a) (hx : (bitsL S).drop a = []) :
    Calls Try.prog 76 #[.pointer (some ⟨r, 0, none⟩), .int .i64 1] w fun e w' => e = .returned (.tuple #[.int .u32 0, .int .i64 3]) ∧ Below w.heap.size w w' := by
  have hl := congrArg List.length hx
  rw [List.length_drop, bitsL_len, List.length_nil] at hl
  refine (rget_short r S d a 1 w h (by decide) (by omega)).mono ?_
  rintro e w' ⟨rfl, hd⟩
  exact ⟨rfl, below_drawn hd⟩
theorem ptouch_r (p t count : Nat) (O : List UInt8) (vl : Value) (wrong : Bool) (i : Nat) (c : UInt8) (w : World) (h : Blk w p (rcells t count O vl wrong) 91) (hO : O.length = 6) (hc : O[i]? = some c) :
    Calls Try.prog 77 #[.pointer (some ⟨p, 2, none⟩), .int .i64 (i : Int)] w fun e w' => e = .returned (.int .i64 (valU c)) ∧ Blk w' p (rcells t count (touchL O i) vl wrong) 91 ∧ Keep (fun j => j = p) w w' :=
  ptouch_any p [.int .i64 (t : Int), .int .i64 (count : Int)] [vl, .bool wrong] _ O i c w h hO hc
theorem keep_grown {w w' : World} {r : Option Nat} (h : w.grownBy w' r) : Keep (fun k => r = some k) w w' :=
  ⟨h.os, h.tape, h.output, h.size, fun k hk hs => h.block k hk (fun e => hs e.symm)⟩

/-- behind the append -/
theorem ps_added {B : Nat} {G : Nat → Prop} {w w3 w3b w4 : World} {p r gg cap t count i : Nat} {c : UInt8} {O : List UInt8} {vl : Value} {l : List Int} {S : List UInt8} {d a : Nat} (h1 : PRAt w p t count O vl l false) (h2 : ∀ g, vl.ownBlock = some g → Zone B G g) (h3 : vl.ownBlock ≠ some r) (hrd : ReaderAt w r S d a) (hne : r ≠ p) (hlo : Zone B G p) (hgl : ∀ j, G j → j < w.heap.size) (hB : B ≤ w.heap.size) (hO : OrdP O) (hc : O[i]? = some c)
    (hk : Keep (fun j => j = p) w w3) (hb3 : Blk w3 p (rcells t count (touchL O i) vl false) 91) (hw3 : Below w3.heap.size w3 w3b) (hg : w3b.grownBy w4 vl.ownBlock) (ho : w4.ownsRow 0 3 1 (.slice (some ⟨gg, 0, none⟩) (l.length + 1) cap) (l.length + 1) (l.map (Value.int .i64) ++ [.int .i64 (valU c)])) (ha : vl.ownBlock = some gg ∨ w3.heap.size ≤ gg) :
    PS B G (w4.setCell ⟨p, 8, none⟩ (.slice (some ⟨gg, 0, none⟩) (l.length + 1) cap)) p r t count (touchL O i) (l ++ [valU c]) false S d a ∧ Keep (MayTurn B G r) w (w4.setCell ⟨p, 8, none⟩ (.slice (some ⟨gg, 0, none⟩) (l.length + 1) cap)) := by
  have hp0 := h1.box.lt
  have hr0 := hrd.box.lt
  have hsz := hk.size
  have hi6 : i < 6 := by have := (List.getElem?_eq_some_iff.1 hc).1; rw [hO.len] at this; exact this
  have hol := (hO.touch hi6).len
  have hgp : gg ≠ p := by
    rintro rfl
    rcases ha with ha | ha
    · exact h1.ne ha
    · omega
  have hgr : gg ≠ r := by
    rintro rfl
    rcases ha with ha | ha
    · exact h3 ha
    · omega
  have kg := keep_grown hg
  have kp : Keep (fun j => j = p) w4 (w4.setCell ⟨p, 8, none⟩ (.slice (some ⟨gg, 0, none⟩) (l.length + 1) cap)) := keep_setCell (S := fun j => j = p) (Keep.refl _ _) rfl _
  have hbx := ((hb3.below hw3).keep kg h1.ne).set 8 (.slice (some ⟨gg, 0, none⟩) (l.length + 1) cap)
  rw [rs8 hol] at hbx
  refine ⟨⟨⟨.slice (some ⟨gg, 0, none⟩) (l.length + 1) cap, ⟨hbx, ?_, ?_, hol, ?_⟩, ?_, ?_⟩, (((hrd.keep hk hne).below hw3).keep kg h3).keep kp hne, hne, hlo, fun j hj => Nat.lt_of_lt_of_le (hgl j hj) (Nat.le_trans hk.size (Nat.le_trans hw3.size (Nat.le_trans kg.size kp.size)))⟩, ?_⟩
  · have ho2 : Own w4 3 1 (.slice (some ⟨gg, 0, none⟩) (l.length + 1) cap) (l.length + 1) (l.map (Value.int .i64) ++ [.int .i64 (valU c)]) := ho
    have := ho2.keep kp (fun g hg e => by simp [Value.ownBlock] at hg; have e' : g = p := e; omega)
    unfold OwnI
    rw [List.length_append, List.length_singleton, List.map_append]
    exact this
  · intro e
    simp [Value.ownBlock] at e
    exact hgp e
  · intro x hx
    rcases List.mem_append.1 hx with hx | hx
    · exact h1.val x hx
    · rw [List.mem_singleton] at hx; rw [hx]; exact hO.val (List.mem_of_getElem? hc)
  · intro g hg
    simp [Value.ownBlock] at hg
    subst hg
    rcases ha with ha | ha
    · exact h2 _ ha
    · exact ⟨by omega, fun hG => by have := hgl _ hG; omega⟩
  · intro e
    simp [Value.ownBlock] at e
    exact hgr e
  · exact (((hk.mono (T := MayTurn B G r) (fun j _ e => .inr (by have e' : j = p := e; rw [e']; exact hlo))).trans (Keep.of_below hw3 _)).trans (kg.mono (fun j _ e => .inr (h2 j e)))).trans (kp.mono (fun j _ e => .inr (by have e' : j = p := e; rw [e']; exact hlo)))

set_option maxHeartbeats 4000000 in
set_option maxRecDepth 100000 in
theorem ppick_any (B : Nat) (G : Nat → Prop) (p r t count : Nat) (O : List UInt8) (l : List Int) (S : List UInt8) (d a : Nat) (w : World) (h : PS B G w p r t count O l false S d a) (hB : B ≤ w.heap.size) (ho : OrdP O) (ht : 2 ≤ t ∧ t ≤ 6) (hc : count ≠ 0) (hl : l.length ≤ 40000) :
    Calls Try.prog 64 #[.pointer (some ⟨p, 0, none⟩), .pointer (some ⟨r, 0, none⟩)] w (Stp B G p r t count l S d a (stepP t count O ((bitsL S).drop a)) w) := by
  obtain ⟨i0, hi0, hz0, hz1, hz2⟩ := info_parts intinfo
  obtain ⟨vl, h1, -, -⟩ := h.ex
  have c0 := h1.c0
  have H := Lib.hid h
  have HO := Lib.hid ho
  have HT := Lib.hid ht
  have HL := Lib.hid hl
  obtain ⟨R, hR⟩ : ∃ z, (bitsL S).drop a = z := ⟨_, rfl⟩
  have HDR := Lib.hid (show ∀ j, (bitsL S).drop (a + j) = R.drop j from fun j => by rw [← List.drop_drop, hR])
  rw [hR]
  have HST := Lib.hid (show stepP t count O R = if t ≤ onesL R then (25, t, t, count, O, []) else if onesL R = R.length then (3, 0, t, count, O, []) else (0, onesL R + 1, t, count, touchL O (onesL R), [valU (O.getD (onesL R) 0)]) by unfold stepP; rw [if_neg hc])
  clear h h1 ho ht hc hl hR
  go_enter Try.func64, Try.ntmps64
  go_wp2
  go_loopw [5, 6, 7, 12] (fun _ _ _ i wr => ∃ j : Nat, j ≤ t ∧ i = .int .i64 (j : Int) ∧ Hid (j ≤ onesL R) ∧ Hid (PS B G wr p r t count O l false S d (a + j)) ∧ Hid (Keep (MayTurn B G r) w wr)) (fun _ _ _ i _ => t - (intOf i).toNat)
  case atStart => exact ⟨0, Nat.zero_le _, rfl, Nat.zero_le _, H.out, Keep.refl _ _⟩
  case round =>
    clear c0
    obtain ⟨j, hj, rfl, HJ, HS, HK⟩ := hrel
    have hBw := Nat.le_trans hB HK.out.size
    have ht6 : t ≤ 6 := HT.out.2
    by_cases hlt : j < t
    · have hlt' : (j : Int) < (t : Int) := by omega
      have hdr := HDR.out j
      cases hd : R.drop j with
      | nil =>
        rw [hd] at hdr
        have HG := Lib.hid (rget_end r S d (a + j) wr HS.out.rd hdr)
        have HE := Lib.hid (show stepP t count O R = (3, 0, t, count, O, []) by
          have := ones_nil HJ.out hd
          have h2 := HJ.out
          have h3 := congrArg List.length hd
          rw [List.length_drop, List.length_nil] at h3
          have h4 := onesL_le R
          rw [HST.out, if_neg (by omega), if_pos this])
        clear hd hdr
        go_wp2_with fail
        refine HG.out.mono ?_
        rintro e w1 ⟨rfl, hb⟩
        have HB1 := Lib.hid hb
        clear HG hb
        go_wp2
        go_ret
        rw [HE.out]
        exact ⟨rfl, a + j, by rw [List.append_nil]; exact HS.out.below HB1.out, fun h => absurd rfl h, HK.out.trans (Keep.of_below HB1.out _)⟩
      | cons x s =>
        rw [hd] at hdr
        have HG := Lib.hid (rget_bit r S d (a + j) x s wr HS.out.rd hdr)
        have HC := Lib.hid (ones_cons HJ.out hd)
        cases x with
        | true =>
          have HJ2 := Lib.hid (HC.out.1 rfl)
          clear hd hdr
          go_wp2_with fail
          refine HG.out.mono ?_
          rintro e w1 ⟨rfl, hd1⟩
          have H1 := Lib.hid (HS.out.move hd1)
          have HK1 := Lib.hid (HK.out.trans (RDid.turn (B := B) (G := G) hd1))
          clear HG hd1
          go_wp2
          go_roundw
          case rel => exact ⟨j + 1, by omega, by go_num, HJ2.out, H1.out, HK1.out⟩
          case measure => simp [intOf]; omega
        | false =>
          have hon := HC.out.2 rfl
          have HE := Lib.hid (show stepP t count O R = (0, j + 1, t, count, touchL O j, [valU (O.getD j 0)]) by
            have h3 := congrArg List.length hd
            rw [List.length_drop, List.length_cons] at h3
            rw [HST.out, hon, if_neg (by omega), if_neg (by omega)])
          obtain ⟨c, hc⟩ : ∃ c, O[j]? = some c := ⟨O[j]'(by rw [HO.out.len]; omega), List.getElem?_eq_getElem _⟩
          have HV := Lib.hid (show valU (O.getD j 0) = valU c by rw [List.getD_eq_getElem?_getD, hc]; rfl)
          have HCC := Lib.hid hc
          clear hd hdr hon hc
          go_wp2_with fail
          refine HG.out.mono ?_
          rintro e w2 ⟨rfl, hd2⟩
          have h2 := (HS.out.move hd2).below (below_drew1 w2)
          have HK2 := Lib.hid (HK.out.trans ((RDid.turn (B := B) (G := G) hd2).trans (Keep.of_below (below_drew1 w2) _)))
          have hB2 : B ≤ w2.drew.heap.size := Nat.le_trans hB HK2.out.size
          obtain ⟨vl2, q1, q2, q3⟩ := h2.ex
          have HFIN := Lib.hid (fun (w3 w3b w4 : World) (gg cap : Nat) => ps_added (w3 := w3) (w3b := w3b) (w4 := w4) (gg := gg) (cap := cap) q1 q2 q3 h2.rd h2.ne h2.lo h2.gl hB2 HO.out HCC.out)
          obtain ⟨av, cv, rfl, -, -⟩ := Own.reads q1.row
          have k0 := q1.c8
          have HTC := Lib.hid (ptouch_r p t count O (.slice av l.length cv) false j c w2.drew q1.box q1.ol HCC.out)
          have HROW := Lib.hid (show ∀ w3, Keep (fun j => j = p) w2.drew w3 → Own w3 3 1 (.slice av l.length cv) l.length (l.map (Value.int .i64)) from fun w3 hk => Own.keep q1.row hk (fun g hg e => q1.ne (by have e' : g = p := e; rw [hg, e'])))
          have HNE := Lib.hid q1.ne
          have HOL := Lib.hid (show (touchL O j).length = 6 from (HO.out.touch (by omega)).len)
          obtain ⟨v, hv⟩ : ∃ z, valU c = z := ⟨_, rfl⟩
          obtain ⟨xs, hxs⟩ : ∃ z, l.map (Value.int .i64) = z := ⟨_, rfl⟩
          rw [hv] at HTC HFIN HV
          rw [hxs] at HROW HFIN
          clear HG hd2 h2 q1 q2 q3 hv hxs
          go_wp2
          go_region_law
            (first
              | (refine step_append_lies _ (by rfl) _ _ _ (by rfl) 0 3 i0 _ 1 8 Try.underlying23 hi0 hz0 hz1 hz2 rfl (by omega) (.slice av l.length cv) _ _ (by rfl) (World.ownsRow.alloc (HROW.out w3 hk3) _) ⟨w3.heap.size, 0, none⟩ 1 1 [.int .i64 v] (by rfl) (by rfl) (World.news_of_block (cs := #[.int .i64 v]) (t := 3) (fr := (0, 0)) (heap_alloc_new w3 _)) (by simp [Value.oneCell']) (by omega) (by have := HL.out; unfold maxLen; omega) (by have := HL.out; omega) (Nat.zero_le _) (w3.heap.size + 1) (by simp) ?_; intro gg cap w4 hown4 hgrow hat hlt; have hbx4 := (hb3.below (below_alloc _ _)).keep (keep_grown hgrow) HNE.out; have k4 := hbx4.cell (rc8 HOL.out); have f4 := hbx4.free 8)
              | (go_simp; go_at_call 77; refine HTC.out.mono ?_; rintro e w3 ⟨rfl, hb3, hk3⟩; have k1 := hb3.cell (rc8 HOL.out); have k2 := cellB k1 (below_alloc w3 (.cells #[.int .i64 v] 3 (0, 0)))))
          all_goals
            have HGW := Lib.hid hgrow
            have HO1 := Lib.hid hown4
            have HA := Lib.hid hat
            have HB3 := Lib.hid hb3
            have HK3 := Lib.hid hk3
            clear hgrow hown4 hat hbx4 hb3 hk3 k0 k1 k2
            go_wp2
            go_ret
            rw [HE.out]
            exact (HFIN.out _ _ _ _ _ HK3.out HB3.out (below_alloc _ _) HGW.out HO1.out (HA.out.imp id (fun e => by omega))).elim fun g1 g2 => ⟨rfl, a + j + 1, by rw [HV.out]; exact g1, fun _ => rfl, HK2.out.trans g2⟩
    · obtain rfl : j = t := by omega
      have HE := Lib.hid (show stepP j count O R = (25, j, j, count, O, []) by rw [HST.out, if_pos HJ.out])
      have HF := Lib.hid (pfail_any B G p r j count O l false S d (a + j) wr HS.out)
      go_wp2_with fail
      refine HF.out.mono ?_
      rintro e w3 ⟨rfl, h3, hk3⟩
      have H3 := Lib.hid h3
      have HK3 := Lib.hid (HK.out.trans hk3)
      clear HF h3 hk3
      go_wp2
      go_ret
      rw [HE.out]
      exact ⟨rfl, a + j, by rw [List.append_nil]; exact H3.out, fun _ => rfl, HK3.out⟩
end Go.Proofs.Ytoebnibhkdidhaa

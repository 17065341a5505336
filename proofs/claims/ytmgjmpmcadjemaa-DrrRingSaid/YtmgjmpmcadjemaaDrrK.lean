/- Package drr: the reference's states. -/
import Derived.Test.YtmgjmpmcadjemaaDrrG
namespace Go.Proofs.Ytmgjmpmcadjemaa
open Go.RowKit

/-- a slice that reads as a list, and lies in good blocks -/
def GI (G : Nat → Prop) (w : World) (v : Value) (l : List Int) : Prop := RInts w v l ∧ NilOk v ∧ (0 < l.length → ∀ g, v.ownBlock = some g → G g)
theorem rints_none {w w' : World} {v : Value} (h : RInts w v []) : RInts w' v [] := by
  obtain ⟨a, cap, rfl, h1, h2⟩ := h.shape
  exact ⟨⟨a, cap, rfl, h1, by unfold maxLen; omega, fun hn => absurd hn (Nat.lt_irrefl 0)⟩, fun x hx => by cases hx⟩
theorem rints_lt {w : World} {v : Value} {l : List Int} (h : RInts w v l) (hl : 0 < l.length) : ∀ g, v.ownBlock = some g → g < w.heap.size := by
  obtain ⟨a, cap, rfl, -, -⟩ := h.shape
  obtain ⟨b, off, x, rfl, hb, -⟩ := h.at hl
  intro g hg
  simp [Value.ownBlock] at hg
  omega
theorem GI.keep {G S : Nat → Prop} {w w' : World} {v : Value} {l : List Int} (h : GI G w v l) (k : Keep S w w') (hs : ∀ j, S j → ¬ G j) : GI G w' v l := by
  refine ⟨?_, h.2.1, h.2.2⟩
  cases l with
  | nil => exact rints_none h.1
  | cons x l => exact h.1.keep k (fun g hg e => hs g e (h.2.2 (by simp) g hg))
theorem GI.below {G : Nat → Prop} {w w' : World} {v : Value} {l : List Int} (h : GI G w v l) (k : Below w.heap.size w w') : GI G w' v l :=
  h.keep (Keep.of_below k (fun _ => False)) (fun _ e => e.elim)
theorem GI.fresh {G : Nat → Prop} {n : Nat} {w : World} {v : Value} {l : List Int} (hr : RInts w v l) (hz : NilOk v) (hf : FreshV n v) (hG : ∀ j, n ≤ j → G j) : GI G w v l :=
  ⟨hr, hz, fun _ g hg => hG g (hf g hg)⟩
theorem GI.nil (G : Nat → Prop) (w : World) : GI G w (.slice none 0 0) [] := ⟨RInts.nil w, NilOk.none, fun h => absurd h (Nat.lt_irrefl 0)⟩
structure GJ (G : Nat → Prop) (w : World) (v : Value) (J : List (List Int)) : Prop where
  ex : ∃ vs : List Value, vs.length = J.length ∧ Reads w v J.length vs ∧ ∀ (i : Nat) (vi : Value) (l : List Int), vs[i]? = some vi → J[i]? = some l → GI G w vi l
  g : 0 < J.length → ∀ g, v.ownBlock = some g → G g
theorem GJ.keep {G S : Nat → Prop} {w w' : World} {v : Value} {J : List (List Int)} (h : GJ G w v J) (k : Keep S w w') (hs : ∀ j, S j → ¬ G j) : GJ G w' v J := by
  obtain ⟨vs, h1, h2, h3⟩ := h.ex
  refine ⟨⟨vs, h1, ?_, fun i vi l e1 e2 => (h3 i vi l e1 e2).keep k hs⟩, h.g⟩
  by_cases hJ : 0 < J.length
  · exact h2.keep k (fun g hg e => hs g e (h.g hJ g hg))
  · obtain ⟨a, cap, rfl, q1, q2, q3⟩ := h2
    exact ⟨a, cap, rfl, q1, q2, fun hn => absurd hn hJ⟩
theorem GJ.below {G : Nat → Prop} {w w' : World} {v : Value} {J : List (List Int)} (h : GJ G w v J) (k : Below w.heap.size w w') : GJ G w' v J :=
  h.keep (Keep.of_below k (fun _ => False)) (fun _ e => e.elim)
/-- at an index: a slice, and its row -/
theorem GJ.at {G : Nat → Prop} {w : World} {v : Value} {J : List (List Int)} (h : GJ G w v J) {i : Nat} (hi : i < J.length) :
    ∃ b off cap vi, v = .slice (some ⟨b, off, none⟩) J.length cap ∧ w.cell? ⟨b, off + i, none⟩ = some vi ∧ GI G w vi (J.getD i []) := by
  obtain ⟨vs, h1, ⟨a, cap, rfl, q1, q2, q3⟩, h3⟩ := h.ex
  obtain ⟨b, off, rfl, hb, hc⟩ := q3 (by omega)
  have hv : vs[i]? = some vs[i] := List.getElem?_eq_getElem (by omega)
  refine ⟨b, off, cap, vs[i], rfl, hc i _ hv, ?_⟩
  rw [List.getD_eq_getElem?_getD, List.getElem?_eq_getElem hi]
  exact h3 i _ _ hv (List.getElem?_eq_getElem hi)
theorem GJ.shape {G : Nat → Prop} {w : World} {v : Value} {J : List (List Int)} (h : GJ G w v J) : ∃ a cap, v = .slice a J.length cap ∧ J.length ≤ cap ∧ cap ≤ 9223372036854775807 := by
  obtain ⟨vs, h1, ⟨a, cap, rfl, q1, q2, q3⟩, h3⟩ := h.ex
  exact ⟨a, cap, rfl, q1, by unfold maxLen at q2; omega⟩
/-- a state -/
structure GS (G : Nat → Prop) (w : World) (vq vc vj vr : Value) (s : Sch) : Prop where
  q : GI G w vq s.Q
  c : GI G w vc s.C
  j : GJ G w vj s.J
  r : GI G w vr s.R
theorem GS.keep {G S : Nat → Prop} {w w' : World} {vq vc vj vr : Value} {s : Sch} (h : GS G w vq vc vj vr s) (k : Keep S w w') (hs : ∀ j, S j → ¬ G j) : GS G w' vq vc vj vr s :=
  ⟨h.q.keep k hs, h.c.keep k hs, h.j.keep k hs, h.r.keep k hs⟩
theorem GS.below {G : Nat → Prop} {w w' : World} {vq vc vj vr : Value} {s : Sch} (h : GS G w vq vc vj vr s) (k : Below w.heap.size w w') : GS G w' vq vc vj vr s :=
  h.keep (Keep.of_below k (fun _ => False)) (fun _ e => e.elim)

theorem ris_any (G : Nat → Prop) (vq vc vj vr : Value) (s : Sch) (t : Int) (w : World) (h : GS G w vq vc vj vr s) :
    Calls Try.prog 78 #[.agg #[vq, vc, vj, vr], .int .i64 t] w fun e w' => e = .returned (.bool (decide (0 ≤ t) && decide (t < (s.Q.length : Int)))) ∧ Below w.heap.size w w' := by
  obtain ⟨aq, cq, rfl, -, -⟩ := h.q.1.shape
  have hal := below_alloc w (.cells #[.slice aq s.Q.length cq, vc, vj, vr] 67 (0, 0))
  have hbx := Blk.new w [.slice aq s.Q.length cq, vc, vj, vr] 67
  have c0 := hbx.cell (i := 0) (x := .slice aq s.Q.length cq) rfl
  obtain ⟨a1, cap1, rfl, -, -⟩ := h.c.1.shape
  obtain ⟨a2, cap2, rfl, -, -⟩ := h.j.shape
  obtain ⟨a3, cap3, rfl, -, -⟩ := h.r.1.shape
  have HAL := Lib.hid hal
  clear h hal hbx
  by_cases h0 : 0 ≤ t
  · have d0 : decide (0 ≤ t) = true := decide_eq_true h0
    rw [d0, Bool.true_and]
    clear h0
    go_enter Try.func78, Try.ntmps78
    go_wp2
    go_ret
    exact ⟨rfl, HAL.out⟩
  · have d0 : decide (0 ≤ t) = false := decide_eq_false h0
    rw [d0, Bool.false_and]
    clear h0
    go_enter Try.func78, Try.ntmps78
    go_wp2
    go_ret
    exact ⟨rfl, HAL.out⟩

set_option maxHeartbeats 1000000 in
set_option maxRecDepth 100000 in
theorem rwhose_any (G : Nat → Prop) (vq vc vj vr : Value) (s : Sch) (job : Int) (w : World) (h : GS G w vq vc vj vr s) (hl : s.J.length = s.Q.length) (h16 : s.Q.length ≤ 1000) :
    Calls Try.prog 79 #[.agg #[vq, vc, vj, vr], .int .i64 job] w fun e w' => e = .returned (.int .i64 (whoS s job)) ∧ Below w.heap.size w w' := by
  obtain ⟨R, hR⟩ : ∃ R, whoS s job = R := ⟨_, rfl⟩
  have HR := Lib.hid hR
  rw [hR]
  have H := Lib.hid h
  obtain ⟨a0, cap0, rfl, -, -⟩ := h.q.1.shape
  obtain ⟨a1, cap1, rfl, -, -⟩ := h.c.1.shape
  obtain ⟨a2, cap2, rfl, hc1, hc2⟩ := h.j.shape
  obtain ⟨a3, cap3, rfl, -, -⟩ := h.r.1.shape
  have HLL := Lib.hid hl
  have hJ1 : s.J.length ≤ 1000 := by omega
  have hal := below_alloc w (.cells #[.slice a0 s.Q.length cap0, .slice a1 s.C.length cap1, .slice a2 s.J.length cap2, .slice a3 s.R.length cap3] 67 (0, 0))
  have HAL := Lib.hid hal
  have HW := Lib.hid (h.below hal)
  clear h hal hR hl
  go_enter Try.func79, Try.ntmps79
  go_wp2
  go_loop [10] (fun iv => ∃ k : Nat, k ≤ s.J.length ∧ iv = .int .i64 (k : Int) ∧ Hid (∀ i, i < k → hasI (s.J.getD i []) job = false)) (fun iv => s.J.length - (intOf iv).toNat)
  case atStart => exact ⟨0, Nat.zero_le _, rfl, fun i h => absurd h (Nat.not_lt_zero _)⟩
  case round =>
    obtain ⟨k, hk, rfl, HALL⟩ := hrel
    rcases Nat.lt_or_ge k s.J.length with hlt | hge
    · obtain ⟨b, off, cap', vi, hvv, hc, hgi⟩ := HW.out.j.at hlt
      obtain ⟨rfl, rfl⟩ : a2 = some ⟨b, off, none⟩ ∧ cap2 = cap' := by simpa using hvv
      have hki : (k : Int) < (s.J.length : Int) := by omega
      have hk0 : (0 : Int) ≤ (k : Int) := by omega
      obtain ⟨lk, hlk⟩ : ∃ z, s.J.getD k [] = z := ⟨_, rfl⟩
      have HLK := Lib.hid hlk
      rw [hlk] at hgi
      have HP := Lib.hid (place_any vi lk job _ hgi.1)
      have hpl := placeI_has lk job
      obtain ⟨z, hz⟩ : ∃ z, placeI lk job = z := ⟨_, rfl⟩
      rw [hz] at HP hpl
      obtain ⟨av, cv, rfl, -, -⟩ := hgi.1.shape
      clear hvv hgi hz hlk
      by_cases hz0 : 0 ≤ z
      · have HHAS := Lib.hid (show hasI (s.J.getD k []) job = true by rw [HLK.out]; exact hpl.1 hz0)
        have dz : decide (0 ≤ z) = true := decide_eq_true hz0
        clear hpl hz0
        go_wp2_with fail
        refine HP.out.mono ?_
        rintro e w1 ⟨rfl, rfl⟩
        clear HP
        go_wp2
        go_ret
        exact ⟨ret_int (by rw [← HR.out]; exact (firstT_some (by have := HLL.out; omega) HHAS.out HALL.out).symm), HAL.out⟩
      · have HHAS := Lib.hid (show hasI (s.J.getD k []) job = false by
          rw [HLK.out]
          cases hh : hasI lk job with
          | false => rfl
          | true => exact absurd (hpl.2 hh) hz0)
        have dz : decide (0 ≤ z) = false := decide_eq_false hz0
        have HN := Lib.hid (show ∀ i, i < k + 1 → hasI (s.J.getD i []) job = false from fun i hi => by
          by_cases e : i = k
          · subst e; exact HHAS.out
          · exact HALL.out i (by omega))
        clear hpl hz0 HHAS
        go_wp2_with fail
        refine HP.out.mono ?_
        rintro e w1 ⟨rfl, rfl⟩
        clear HP
        go_wp2
        go_round
        case rel => exact ⟨k + 1, hlt, by go_num, HN.out⟩
        case measure => simp [intOf]; omega
    · obtain rfl : k = s.J.length := by omega
      go_wp2
      go_ret
      exact ⟨ret_int (by rw [← HR.out]; exact (firstT_none (fun i hi => HALL.out i (by have := HLL.out; omega))).symm), HAL.out⟩

theorem alloc2 (w : World) (o1 o2 : Obj) : Below w.heap.size w ((w.alloc o1).alloc o2) := below_two (below_alloc w o1) (below_alloc _ o2)
theorem blk2nd (w : World) (o1 : Obj) (xs : List Value) (t : TypeId) : Blk ((w.alloc o1).alloc (.cells xs.toArray t (0, 0))) (w.heap.size + 1) xs t := by
  have h := Blk.new (w.alloc o1) xs t
  have hs : (w.alloc o1).heap.size = w.heap.size + 1 := by simp
  rwa [hs] at h
theorem blk1st (w : World) (xs : List Value) (t : TypeId) (o2 : Obj) : Blk ((w.alloc (.cells xs.toArray t (0, 0))).alloc o2) w.heap.size xs t :=
  (Blk.new w xs t).below (below_alloc _ _)
set_option maxHeartbeats 1000000 in
theorem rring_any (w : World) (n0 n1 n2 n3 n4 : Nat) (a0 a1 a2 a3 a4 : Option Addr) (c0 c1 c2 c3 c4 : Nat) :
    Calls Try.prog 82 #[.agg #[.slice a0 n0 c0, .slice a1 n1 c1, .slice a2 n2 c2, .slice a3 n3 c3], .slice a4 n4 c4] w fun e w' => e = .returned (.agg #[.slice a0 n0 c0, .slice a1 n1 c1, .slice a2 n2 c2, .slice a4 n4 c4]) ∧ Below w.heap.size w w' := by
  have hb := blk2nd w (.cells #[.slice a0 n0 c0, .slice a1 n1 c1, .slice a2 n2 c2, .slice a3 n3 c3] 67 (0, 0)) [.slice a0 n0 c0, .slice a1 n1 c1, .slice a2 n2 c2, .slice a4 n4 c4] 67
  have x0 := hb.cell (i := 0) (x := .slice a0 n0 c0) rfl
  have x1 := hb.cell (i := 1) (x := .slice a1 n1 c1) rfl
  have x2 := hb.cell (i := 2) (x := .slice a2 n2 c2) rfl
  have x3 := hb.cell (i := 3) (x := .slice a4 n4 c4) rfl
  have HB := Lib.hid (alloc2 w (.cells #[.slice a0 n0 c0, .slice a1 n1 c1, .slice a2 n2 c2, .slice a3 n3 c3] 67 (0, 0)) (.cells #[.slice a0 n0 c0, .slice a1 n1 c1, .slice a2 n2 c2, .slice a4 n4 c4] 67 (0, 0)))
  clear hb
  go_enter Try.func82, Try.ntmps82
  go_wp2
  refine bodyPost_ret (v := .agg #[.slice a0 n0 c0, .slice a1 n1 c1, .slice a2 n2 c2, .slice a4 n4 c4]) (by simp [results, Try.results82, go_sem, x0, x1, x2, x3]) rfl ?_
  exact ⟨rfl, HB.out⟩

theorem keep4 {w : World} {rb : Nat} (a b c d : Value) : Keep (fun j => j = rb) w ((((w.setCell ⟨rb, 0, none⟩ a).setCell ⟨rb, 1, none⟩ b).setCell ⟨rb, 2, none⟩ c).setCell ⟨rb, 3, none⟩ d) :=
  keep_setCell (S := fun j => j = rb) (keep_setCell (S := fun j => j = rb) (keep_setCell (S := fun j => j = rb) (keep_setCell (S := fun j => j = rb) (Keep.refl _ w) rfl _) rfl _) rfl _) rfl _
def S0 : List Value := [.slice none 0 0, .slice none 0 0, .slice none 0 0, .slice none 0 0]

set_option maxHeartbeats 4000000 in
set_option maxRecDepth 100000 in
theorem rcredit_any (G : Nat → Prop) (vq vc vj vr : Value) (s : Sch) (i : Nat) (n : Int) (w : World) (h : GS G w vq vc vj vr s) (hi : i < s.C.length) (h16 : s.C.length ≤ 1000) (hn1 : -9223372036854775808 ≤ n) (hn2 : n ≤ 9223372036854775807) (hG : ∀ j, w.heap.size ≤ j → G j) :
    Calls Try.prog 85 #[.agg #[vq, vc, vj, vr], .int .i64 (i : Int), .int .i64 n] w fun e w' => ∃ vc', e = .returned (.agg #[vq, vc', vj, vr]) ∧ GI G w' vc' (s.C.set i n) ∧ Below w.heap.size w w' := by
  have H := Lib.hid h
  obtain ⟨a0, c0, rfl, -, -⟩ := h.q.1.shape
  obtain ⟨a1, c1, rfl, hc1, hc2⟩ := h.c.1.shape
  obtain ⟨a2, c2, rfl, -, -⟩ := h.j.shape
  obtain ⟨a3, c3, rfl, -, -⟩ := h.r.1.shape
  obtain ⟨W1, hW1⟩ : ∃ z, (w.alloc (.cells #[.slice a0 s.Q.length c0, .slice a1 s.C.length c1, .slice a2 s.J.length c2, .slice a3 s.R.length c3] 67 (0, 0))).alloc (.cells #[.slice none 0 0, .slice none 0 0, .slice none 0 0, .slice none 0 0] 67 (0, 0)) = z := ⟨_, rfl⟩
  have HAL := Lib.hid (show Below w.heap.size w W1 by rw [← hW1]; exact alloc2 _ _ _)
  have HSZ := Lib.hid (show W1.heap.size = w.heap.size + 2 by rw [← hW1]; simp)
  have HBX := Lib.hid (show Blk W1 w.heap.size [.slice a0 s.Q.length c0, .slice a1 s.C.length c1, .slice a2 s.J.length c2, .slice a3 s.R.length c3] 67 by rw [← hW1]; exact blk1st _ _ _ _)
  have HRB := Lib.hid (show Blk W1 (w.heap.size + 1) S0 67 by rw [← hW1]; exact blk2nd _ _ _ _)
  have HGG := Lib.hid hG
  have HGI := Lib.hid (show GI G W1 (.slice a1 s.C.length c1) s.C from h.c.below HAL.out)
  have HLB := Lib.hid (show ∀ x ∈ s.C.set i n, -9223372036854775808 ≤ x ∧ x ≤ 9223372036854775807 from fun x hx => by
    rcases List.mem_or_eq_of_mem_set hx with q | q
    · exact h.c.1.2 x q
    · subst q; exact ⟨hn1, hn2⟩)
  have k1 := HBX.out.cell (i := 1) (x := .slice a1 s.C.length c1) rfl
  clear h hG
  go_enter Try.func85, Try.ntmps85
  go_wp2
  clear k1
  go_loopw [7, 13] (fun lv iv w2 => ∃ k : Nat, k ≤ s.C.length ∧ iv = .int .i64 (k : Int) ∧ Hid (OwnI w2 3 lv ((s.C.set i n).take k)) ∧ Hid (FreshV W1.heap.size lv) ∧ Hid (Below W1.heap.size W1 w2)) (fun _ iv _ => s.C.length - (intOf iv).toNat)
  case atStart => exact ⟨0, Nat.zero_le _, rfl, OwnI.nil _ _, FreshV.nil _, Below.refl _ _⟩
  case round =>
    obtain ⟨k, hk, rfl, HO, HF, HB⟩ := hrel
    rcases Nat.lt_or_ge k s.C.length with hlt | hge
    · obtain ⟨b, off, x, rfl, -, hx, hcx, -, -⟩ := (HGI.out.below HB.out).1.at hlt
      have hki : (k : Int) < (s.C.length : Int) := by omega
      have hk0 : (0 : Int) ≤ (k : Int) := by omega
      obtain ⟨L, hL⟩ : ∃ L, (s.C.set i n).take k = L := ⟨_, rfl⟩
      have HL := Lib.hid hL
      have hown := HO.out
      rw [hL] at hown
      have HLN := Lib.hid (show L.length < 1000000000 by rw [← hL, List.length_take, List.length_set]; omega)
      obtain ⟨a7, c7, rfl, -, -, -⟩ := Own.reads hown
      have HX := Lib.hid hx
      clear hx hL HO
      by_cases e : k = i
      · have t1 : ((k : Int) == (i : Int)) = true := by rw [e]; exact beq_self_eq_true _
        have HSN := Lib.hid (show (s.C.set i n).take (k + 1) = L ++ [n] by
          rw [take_snoc (x := n) (by rw [e, List.getElem?_set_self hi]), HL.out])
        clear e
        go_wp2_with (at_builtin; refine wpList_append_int _ _ rfl _ _ 28 rfl 3 Try.underlying28 intinfo _ L _ _ rfl rfl rfl hown HLN.out ?_)
        intro v8 w8 hown8 hk8 hf8
        have HO8 := Lib.hid (show OwnI w8 3 v8 ((s.C.set i n).take (k + 1)) by rw [HSN.out]; exact hown8)
        have HF8 := Lib.hid (HF.out.step HB.out.size hf8)
        have HB8 := Lib.hid (below_append HB.out hk8 HF.out HB.out.size)
        clear hown hown8 hk8 hf8 hcx HF HB HSN
        go_wp2
        go_roundw
        case rel => exact ⟨k + 1, hlt, by go_num, HO8.out, HF8.out, HB8.out⟩
        case measure => simp [intOf]; omega
      · have t1 : ((k : Int) == (i : Int)) = false := beq_eq_false_iff_ne.2 (by omega)
        have HSN := Lib.hid (show (s.C.set i n).take (k + 1) = L ++ [x] by
          rw [take_snoc (x := x) (by rw [List.getElem?_set_ne (fun q => e q.symm)]; exact HX.out), HL.out])
        clear e
        go_wp2_with (at_builtin; refine wpList_append_int _ _ rfl _ _ 28 rfl 3 Try.underlying28 intinfo _ L _ _ rfl rfl rfl hown HLN.out ?_)
        intro v8 w8 hown8 hk8 hf8
        have HO8 := Lib.hid (show OwnI w8 3 v8 ((s.C.set i n).take (k + 1)) by rw [HSN.out]; exact hown8)
        have HF8 := Lib.hid (HF.out.step HB.out.size hf8)
        have HB8 := Lib.hid (below_append HB.out hk8 HF.out HB.out.size)
        clear hown hown8 hk8 hf8 hcx HF HB HSN
        go_wp2
        go_roundw
        case rel => exact ⟨k + 1, hlt, by go_num, HO8.out, HF8.out, HB8.out⟩
        case measure => simp [intOf]; omega
    · obtain rfl : k = s.C.length := by omega
      have hown := HO.out
      rw [List.take_of_length_le (by rw [List.length_set]; exact Nat.le_refl _)] at hown
      have hgr := OwnI.reads hown HLB.out
      have hzn := Own.nilOk hown
      obtain ⟨a7, c7, rfl, -, -⟩ := hgr.shape
      have HGN := Lib.hid (show GI G wr (.slice a7 (s.C.set i n).length c7) (s.C.set i n) from GI.fresh hgr hzn (n := W1.heap.size) HF.out (fun j hj => HGG.out j (by have := HSZ.out; omega)))
      have hb0 := HBX.out.below HB.out
      have hb1 := HRB.out.below HB.out
      have k0 := hb0.cell (i := 0) (x := .slice a0 s.Q.length c0) rfl
      have k2 := hb0.cell (i := 2) (x := .slice a2 s.J.length c2) rfl
      have k3 := hb0.cell (i := 3) (x := .slice a3 s.R.length c3) rfl
      have e0 := hb1.cell (i := 0) (x := .slice none 0 0) rfl
      have e1 := hb1.cell (i := 1) (x := .slice none 0 0) rfl
      have e2 := hb1.cell (i := 2) (x := .slice none 0 0) rfl
      have e3 := hb1.cell (i := 3) (x := .slice none 0 0) rfl
      have g0 := hb1.free 0
      have g1 := hb1.free 1
      have g2 := hb1.free 2
      have g3 := hb1.free 3
      obtain ⟨m, hm⟩ : ∃ m, (s.C.set i n).length = m := ⟨_, rfl⟩
      rw [hm] at HGN ⊢
      have hkp := keep4 (w := wr) (rb := w.heap.size + 1) (.slice a0 s.Q.length c0) (.slice a7 m c7) (.slice a2 s.J.length c2) (.slice a3 s.R.length c3)
      have HB4 := Lib.hid ((((hb1.set 0 (.slice a0 s.Q.length c0)).set 1 (.slice a7 m c7)).set 2 (.slice a2 s.J.length c2)).set 3 (.slice a3 s.R.length c3))
      have HKP := Lib.hid hkp
      have HNG := Lib.hid (show ∀ g, (Value.slice a7 m c7).ownBlock = some g → w.heap.size + 2 ≤ g from fun g hg => by have h1 : FreshV W1.heap.size (.slice a7 m c7) := by rw [← hm]; exact HF.out
                                                                                                                       have := h1 g hg; have := HSZ.out; omega)
      have HFIN := Lib.hid (show Below w.heap.size w wr from HAL.out.trans (HB.out.mono (by have := HSZ.out; omega)))
      clear hown hgr hzn hb0 hb1 hm hkp HO HF HB
      go_wp2
      obtain ⟨w5, hw5⟩ : ∃ z, ((((wr.setCell ⟨w.heap.size + 1, 0, none⟩ (.slice a0 s.Q.length c0)).setCell ⟨w.heap.size + 1, 1, none⟩ (.slice a7 m c7)).setCell ⟨w.heap.size + 1, 2, none⟩ (.slice a2 s.J.length c2)).setCell ⟨w.heap.size + 1, 3, none⟩ (.slice a3 s.R.length c3)) = z := ⟨_, rfl⟩
      rw [hw5] at HB4 HKP ⊢
      have y0 := HB4.out.cell (i := 0) (x := .slice a0 s.Q.length c0) rfl
      have y1 := HB4.out.cell (i := 1) (x := .slice a7 m c7) rfl
      have y2 := HB4.out.cell (i := 2) (x := .slice a2 s.J.length c2) rfl
      have y3 := HB4.out.cell (i := 3) (x := .slice a3 s.R.length c3) rfl
      refine bodyPost_ret (v := .agg #[.slice a0 s.Q.length c0, .slice a7 m c7, .slice a2 s.J.length c2, .slice a3 s.R.length c3]) (by simp [results, Try.results85, go_sem, y0, y1, y2, y3]) rfl ?_
      refine ⟨_, rfl, ⟨HGN.out.1.keep HKP.out (fun g hg e => by have e' : g = w.heap.size + 1 := e; have := HNG.out g hg; omega), HGN.out.2⟩, HFIN.out.trans (HKP.out.below (B := w.heap.size) HFIN.out.size (fun j hj e => by have e' : j = w.heap.size + 1 := e; omega))⟩
end Go.Proofs.Ytmgjmpmcadjemaa

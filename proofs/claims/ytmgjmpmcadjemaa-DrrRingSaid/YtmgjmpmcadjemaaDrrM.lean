/- Package drr: the reference's jobs, New. -/
import Derived.Test.YtmgjmpmcadjemaaDrrK
namespace Go.Proofs.Ytmgjmpmcadjemaa
open Go.RowKit

theorem sinfo : (Try.prog.info? 28).map (fun i => (i.zero, i.size, i.bytes)) = some (some (.slice none 0 0), 1, 24) := by kernel_rfl

set_option maxHeartbeats 4000000 in
set_option maxRecDepth 100000 in
theorem rjobs_any (G : Nat → Prop) (vq vc vj vr vn : Value) (s : Sch) (i : Nat) (l : List Int) (w : World) (h : GS G w vq vc vj vr s) (hv : GI G w vn l) (hi : i < s.J.length) (h16 : s.J.length ≤ 1000) (hG : ∀ j, w.heap.size ≤ j → G j) :
    Calls Try.prog 80 #[.agg #[vq, vc, vj, vr], .int .i64 (i : Int), vn] w fun e w' => ∃ vj', e = .returned (.agg #[vq, vc, vj', vr]) ∧ GJ G w' vj' (s.J.set i l) ∧ FreshV w.heap.size vj' ∧ Below w.heap.size w w' := by
  have H := Lib.hid h
  obtain ⟨a0, c0, rfl, -, -⟩ := h.q.1.shape
  obtain ⟨a1, c1, rfl, -, -⟩ := h.c.1.shape
  obtain ⟨a2, c2, rfl, hc1, hc2⟩ := h.j.shape
  obtain ⟨a3, c3, rfl, -, -⟩ := h.r.1.shape
  obtain ⟨an, cn, rfl, -, -⟩ := hv.1.shape
  obtain ⟨W1, hW1⟩ : ∃ z, (w.alloc (.cells #[.slice a0 s.Q.length c0, .slice a1 s.C.length c1, .slice a2 s.J.length c2, .slice a3 s.R.length c3] 67 (0, 0))).alloc (.cells #[.slice none 0 0, .slice none 0 0, .slice none 0 0, .slice none 0 0] 67 (0, 0)) = z := ⟨_, rfl⟩
  have HAL := Lib.hid (show Below w.heap.size w W1 by rw [← hW1]; exact alloc2 _ _ _)
  have HSZ := Lib.hid (show W1.heap.size = w.heap.size + 2 by rw [← hW1]; simp)
  have HBX := Lib.hid (show Blk W1 w.heap.size [.slice a0 s.Q.length c0, .slice a1 s.C.length c1, .slice a2 s.J.length c2, .slice a3 s.R.length c3] 67 by rw [← hW1]; exact blk1st _ _ _ _)
  have HRB := Lib.hid (show Blk W1 (w.heap.size + 1) S0 67 by rw [← hW1]; exact blk2nd _ _ _ _)
  have HGG := Lib.hid hG
  have HVN := Lib.hid hv
  obtain ⟨vs, hvl, hvr0, hve⟩ := h.j.ex
  have hvr := hvr0.below HAL.out
  have HVR := Lib.hid hvr
  have HVE := Lib.hid hve
  have HVL := Lib.hid hvl
  obtain ⟨ln, hln⟩ : ∃ z, l.length = z := ⟨_, rfl⟩
  rw [hln] at HVN ⊢
  obtain ⟨VS, hVS⟩ : ∃ z, vs.set i (.slice an ln cn) = z := ⟨_, rfl⟩
  have HVS := Lib.hid hVS
  have HVSL := Lib.hid (show VS.length = s.J.length by rw [← hVS, List.length_set, hvl])
  have k2 := HBX.out.cell (i := 2) (x := .slice a2 s.J.length c2) rfl
  clear h hG hv hvl hvr hvr0 hve hln hVS
  go_enter Try.func80, Try.ntmps80
  go_wp2
  clear k2
  go_loopw [7, 13] (fun lv iv w2 => ∃ k : Nat, k ≤ s.J.length ∧ iv = .int .i64 (k : Int) ∧ Hid (Own w2 28 1 lv k (VS.take k)) ∧ Hid (FreshV W1.heap.size lv) ∧ Hid (Below W1.heap.size W1 w2)) (fun _ iv _ => s.J.length - (intOf iv).toNat)
  case atStart => exact ⟨0, Nat.zero_le _, rfl, Own.nil _ _ _, FreshV.nil _, Below.refl _ _⟩
  case round =>
    obtain ⟨k, hk, rfl, HO, HF, HB⟩ := hrel
    rcases Nat.lt_or_ge k s.J.length with hlt | hge
    · obtain ⟨a, cap, hvv, q1, q2, q3⟩ := HVR.out.below HB.out
      obtain ⟨rfl, rfl⟩ : a2 = a ∧ c2 = cap := by simpa using hvv
      obtain ⟨b, off, rfl, -, hcc⟩ := q3 (by omega)
      obtain ⟨vk, hx⟩ : ∃ vk, vs[k]? = some vk := ⟨_, List.getElem?_eq_getElem (by have := HVL.out; omega)⟩
      have hcx := hcc k vk hx
      have hgk := HVE.out k vk _ hx (List.getElem?_eq_getElem hlt)
      obtain ⟨ak, ck, rfl, -, -⟩ := hgk.1.shape
      obtain ⟨lk, hlk⟩ : ∃ z, (s.J[k]).length = z := ⟨_, rfl⟩
      rw [hlk] at hcx hx
      have hki : (k : Int) < (s.J.length : Int) := by omega
      have hk0 : (0 : Int) ≤ (k : Int) := by omega
      obtain ⟨L, hL⟩ : ∃ L, VS.take k = L := ⟨_, rfl⟩
      have HL := Lib.hid hL
      have hown := HO.out
      rw [hL] at hown
      obtain ⟨a7, c7, rfl, -, -, -⟩ := Own.reads hown
      have HX := Lib.hid hx
      clear hx hL HO hvv q1 q2 q3 hcc hgk hlk
      by_cases e : k = i
      · have t1 : ((k : Int) == (i : Int)) = true := by rw [e]; exact beq_self_eq_true _
        have HSN := Lib.hid (show VS.take (k + 1) = L ++ [.slice an ln cn] by
          rw [take_snoc (x := .slice an ln cn) (by rw [← HVS.out, e, List.getElem?_set_self (by have := HVL.out; omega)]), HL.out])
        clear e
        go_wp2_with (at_builtin; refine wpList_append_one _ _ rfl _ _ 65 rfl 28 (.slice none 0 0) 24 Try.underlying65 sinfo rfl _ k L (.slice an ln cn) _ rfl rfl rfl rfl hown (by omega) (by decide) ?_)
        intro v8 w8 hown8 hk8 hf8
        have HO8 := Lib.hid (show Own w8 28 1 v8 (k + 1) (VS.take (k + 1)) by rw [HSN.out]; exact hown8)
        have HF8 := Lib.hid (HF.out.step HB.out.size hf8)
        have HB8 := Lib.hid (below_append HB.out hk8 HF.out HB.out.size)
        clear hown hown8 hk8 hf8 hcx HF HB HSN
        go_wp2
        go_roundw
        case rel => exact ⟨k + 1, hlt, by go_num, HO8.out, HF8.out, HB8.out⟩
        case measure => simp [intOf]; omega
      · have t1 : ((k : Int) == (i : Int)) = false := beq_eq_false_iff_ne.2 (by omega)
        have HSN := Lib.hid (show VS.take (k + 1) = L ++ [.slice ak lk ck] by
          rw [take_snoc (x := .slice ak lk ck) (by rw [← HVS.out, List.getElem?_set_ne (fun q => e q.symm)]; exact HX.out), HL.out])
        clear e
        go_wp2_with (at_builtin; refine wpList_append_one _ _ rfl _ _ 65 rfl 28 (.slice none 0 0) 24 Try.underlying65 sinfo rfl _ k L (.slice ak lk ck) _ rfl rfl rfl rfl hown (by omega) (by decide) ?_)
        intro v8 w8 hown8 hk8 hf8
        have HO8 := Lib.hid (show Own w8 28 1 v8 (k + 1) (VS.take (k + 1)) by rw [HSN.out]; exact hown8)
        have HF8 := Lib.hid (HF.out.step HB.out.size hf8)
        have HB8 := Lib.hid (below_append HB.out hk8 HF.out HB.out.size)
        clear hown hown8 hk8 hf8 hcx HF HB HSN
        go_wp2
        go_roundw
        case rel => exact ⟨k + 1, hlt, by go_num, HO8.out, HF8.out, HB8.out⟩
        case measure => simp [intOf]; omega
    · obtain rfl : k = s.J.length := by omega
      have hown := HO.out
      rw [List.take_of_length_le (by have := HVSL.out; omega)] at hown
      have hrd := Own.reads hown
      have HRD := Lib.hid hrd
      obtain ⟨a7, c7, rfl, -, -, -⟩ := hrd
      have hb0 := HBX.out.below HB.out
      have hb1 := HRB.out.below HB.out
      have k0 := hb0.cell (i := 0) (x := .slice a0 s.Q.length c0) rfl
      have k1 := hb0.cell (i := 1) (x := .slice a1 s.C.length c1) rfl
      have k3 := hb0.cell (i := 3) (x := .slice a3 s.R.length c3) rfl
      have e0 := hb1.cell (i := 0) (x := .slice none 0 0) rfl
      have e1 := hb1.cell (i := 1) (x := .slice none 0 0) rfl
      have e2 := hb1.cell (i := 2) (x := .slice none 0 0) rfl
      have e3 := hb1.cell (i := 3) (x := .slice none 0 0) rfl
      have g0 := hb1.free 0
      have g1 := hb1.free 1
      have g2 := hb1.free 2
      have g3 := hb1.free 3
      have hkp := keep4 (w := wr) (rb := w.heap.size + 1) (.slice a0 s.Q.length c0) (.slice a1 s.C.length c1) (.slice a7 s.J.length c7) (.slice a3 s.R.length c3)
      have HB4 := Lib.hid ((((hb1.set 0 (.slice a0 s.Q.length c0)).set 1 (.slice a1 s.C.length c1)).set 2 (.slice a7 s.J.length c7)).set 3 (.slice a3 s.R.length c3))
      have HKP := Lib.hid hkp
      have HFIN := Lib.hid (show Below w.heap.size w wr from HAL.out.trans (HB.out.mono (by have := HSZ.out; omega)))
      -- what is read behind the store
      have HGJ := Lib.hid (fun (w5 : World) (kp : Keep (fun j => j = w.heap.size + 1) wr w5) => (show GJ G w5 (.slice a7 s.J.length c7) (s.J.set i l) from by
        have hne : ∀ g, (Value.slice a7 s.J.length c7).ownBlock = some g → w.heap.size + 2 ≤ g := fun g hg => by have := HF.out g hg; have := HSZ.out; omega
        refine ⟨⟨VS, by rw [List.length_set]; exact HVSL.out, ?_, fun y vi m q1 q2 => ?_⟩, fun _ g hg => HGG.out g (by have := hne g hg; omega)⟩
        · rw [List.length_set]
          exact HRD.out.keep kp (fun g hg e => by have e' : g = w.heap.size + 1 := e; have := hne g hg; omega)
        · have hall : GI G w vi m := by
            rw [← HVS.out] at q1
            by_cases e : i = y
            · subst e
              rw [List.getElem?_set_self (by have := HVL.out; omega)] at q1
              rw [List.getElem?_set_self hi] at q2
              obtain rfl := Option.some.inj q1
              obtain rfl := Option.some.inj q2
              exact HVN.out
            · rw [List.getElem?_set_ne e] at q1 q2
              exact HVE.out y vi m q1 q2
          have h1 := hall.below HFIN.out
          -- the result's block is none that it lies in
          refine ⟨?_, h1.2⟩
          cases m with
          | nil => exact rints_none h1.1
          | cons z m => exact h1.1.keep kp (fun g hg e => by
              have e' : g = w.heap.size + 1 := e
              have := rints_lt hall.1 (by simp) g hg
              omega)))
      have HFV := Lib.hid (show FreshV w.heap.size (.slice a7 s.J.length c7) from fun g hg => by have := HF.out g hg; have := HSZ.out; omega)
      clear hown hb0 hb1 hkp HO HF HB HRD
      go_wp2
      obtain ⟨w5, hw5⟩ : ∃ z, ((((wr.setCell ⟨w.heap.size + 1, 0, none⟩ (.slice a0 s.Q.length c0)).setCell ⟨w.heap.size + 1, 1, none⟩ (.slice a1 s.C.length c1)).setCell ⟨w.heap.size + 1, 2, none⟩ (.slice a7 s.J.length c7)).setCell ⟨w.heap.size + 1, 3, none⟩ (.slice a3 s.R.length c3)) = z := ⟨_, rfl⟩
      rw [hw5] at HB4 HKP ⊢
      have y0 := HB4.out.cell (i := 0) (x := .slice a0 s.Q.length c0) rfl
      have y1 := HB4.out.cell (i := 1) (x := .slice a1 s.C.length c1) rfl
      have y2 := HB4.out.cell (i := 2) (x := .slice a7 s.J.length c7) rfl
      have y3 := HB4.out.cell (i := 3) (x := .slice a3 s.R.length c3) rfl
      refine bodyPost_ret (v := .agg #[.slice a0 s.Q.length c0, .slice a1 s.C.length c1, .slice a7 s.J.length c7, .slice a3 s.R.length c3]) (by simp [results, Try.results80, go_sem, y0, y1, y2, y3]) rfl ?_
      exact ⟨_, rfl, HGJ.out w5 HKP.out, HFV.out, HFIN.out.trans (HKP.out.below (B := w.heap.size) HFIN.out.size (fun j hj e => by have e' : j = w.heap.size + 1 := e; omega))⟩

theorem gs_new {G : Nat → Prop} {w W : World} {v : Value} {l : List Int} {c j : Nat} (hv : GI G w v l) (hb : Below w.heap.size w W) (hc : Blk W c (List.replicate l.length (.int .i64 0)) 3) (hj : Blk W j (List.replicate l.length (.slice none 0 0)) 28)
    (hl : l.length ≤ 1000) (h1 : w.heap.size ≤ c) (h2 : w.heap.size ≤ j) (hG : ∀ j, w.heap.size ≤ j → G j) : GS G W v (.slice (some ⟨c, 0, none⟩) l.length l.length) (.slice (some ⟨j, 0, none⟩) l.length l.length) (.slice none 0 0) (newS l l.length) where
  q := by
    have e : (newS l l.length).Q = l := by show l.take l.length = l; rw [List.take_length]
    rw [e]
    exact hv.below hb
  c := by
    have e : (newS l l.length).C = List.replicate l.length 0 := rfl
    rw [e]
    refine ⟨⟨?_, fun x hx => ?_⟩, NilOk.some, fun _ g hg => hG g (by simp [Value.ownBlock] at hg; omega)⟩
    · rw [List.length_replicate, List.map_replicate]
      exact hc.reads _ _ (Nat.le_refl _) (by unfold maxLen; omega)
    · obtain rfl := List.eq_of_mem_replicate hx
      decide
  j := by
    have e : (newS l l.length).J = List.replicate l.length [] := rfl
    rw [e]
    refine ⟨⟨List.replicate l.length (.slice none 0 0), by simp, ?_, fun i vi m q1 q2 => ?_⟩, fun _ g hg => hG g (by simp [Value.ownBlock] at hg; omega)⟩
    · rw [List.length_replicate]
      exact hj.reads _ _ (Nat.le_refl _) (by unfold maxLen; omega)
    · rw [List.getElem?_replicate] at q1 q2
      split at q1
      · rename_i hi
        rw [if_pos hi] at q2
        obtain rfl := Option.some.inj q1
        obtain rfl := Option.some.inj q2
        exact GI.nil G W
      · cases q1
  r := GI.nil G W
theorem zrep (z : Value) (n : Nat) (T : TypeId) : Obj.cells (Array.replicate n z) T (0, 0) = .cells (List.replicate n z).toArray T (0, 0) := by rw [List.toArray_replicate]
theorem blk3rd (w : World) (o1 o2 : Obj) (n : Nat) (z : Value) (t : TypeId) : Blk ((((w.alloc o1).alloc o2).alloc (.cells (Array.replicate n z) t (0, 0))).drew) (w.heap.size + 1 + 1) (List.replicate n z) t := by
  have h := Blk.new ((w.alloc o1).alloc o2) (List.replicate n z) t
  have hs : ((w.alloc o1).alloc o2).heap.size = w.heap.size + 1 + 1 := by simp
  rw [hs] at h
  rw [zrep]
  exact h.below (below_drew1 _)
theorem blk3mid (w : World) (o1 o3 : Obj) (n : Nat) (z : Value) (t : TypeId) : Blk ((((w.alloc o1).alloc (.cells (Array.replicate n z) t (0, 0))).alloc o3).drew) (w.heap.size + 1) (List.replicate n z) t := by
  have h := blk2nd w o1 (List.replicate n z) t
  rw [← zrep] at h
  exact (h.below (below_alloc _ o3)).below (below_drew1 _)
theorem blk3one (w : World) (xs : List Value) (t : TypeId) (o2 o3 : Obj) : Blk ((((w.alloc (.cells xs.toArray t (0, 0))).alloc o2).alloc o3).drew) w.heap.size xs t :=
  ((blk1st w xs t o2).below (below_alloc _ o3)).below (below_drew1 _)
theorem alloc3 (w : World) (o1 o2 o3 : Obj) : Below w.heap.size w (((w.alloc o1).alloc o2).alloc o3).drew := below_two (below_two (alloc2 w o1 o2) (below_alloc _ o3)) (below_drew1 _)

set_option maxHeartbeats 2000000 in
set_option maxRecDepth 100000 in
theorem rnew30_any (G : Nat → Prop) (v : Value) (l : List Int) (w : World) (hv : GI G w v l) (hl : l.length ≤ 1000) (hG : ∀ j, w.heap.size ≤ j → G j) :
    Calls Try.prog 32 #[v] w fun e w' => ∃ vc vj, e = .returned (.agg #[v, vc, vj, .slice none 0 0]) ∧ GS G w' v vc vj (.slice none 0 0) (newS l l.length) ∧ Below w.heap.size w w' := by
  have HV := Lib.hid hv
  have HGG := Lib.hid hG
  obtain ⟨a, cap, rfl, hc1, hc2⟩ := hv.1.shape
  have hm1 : ∀ w : World, (Instr.makeSlice 28 (.int .i64 (l.length : Int)) (.int .i64 (l.length : Int))).run Try.prog w = .ok (.slice (some ⟨w.heap.size, 0, none⟩) l.length l.length) (w.alloc (.cells (List.replicate l.length (Value.int .i64 0)).toArray 3)) :=
    fun w => run_make_zeros w 28 3 _ 8 Try.underlying28 intinfo rfl _ _ _ (by omega) (by unfold maxLen; omega)
  have hm2 : ∀ w : World, (Instr.makeSlice 65 (.int .i64 (l.length : Int)) (.int .i64 (l.length : Int))).run Try.prog w = .ok (.slice (some ⟨w.heap.size, 0, none⟩) l.length l.length) (w.alloc (.cells (List.replicate l.length (Value.slice none 0 0)).toArray 28)) :=
    fun w => run_make_zeros w 65 28 _ 24 Try.underlying65 sinfo rfl _ _ _ (by omega) (by unfold maxLen; omega)
  clear hv hG
  go_enter Try.func32, Try.ntmps32
  go_wp2
  go_region_with (fail)
  · have hb := blk3one w [.slice a l.length cap, .slice (some ⟨w.heap.size + 1, 0, none⟩) l.length l.length, .slice (some ⟨w.heap.size + 1 + 1, 0, none⟩) l.length l.length, .slice none 0 0] 67 (.cells (Array.replicate l.length (.int .i64 0)) 3 (0, 0)) (.cells (Array.replicate l.length (.slice none 0 0)) 28 (0, 0))
    have y0 := hb.cell (i := 0) (x := .slice a l.length cap) rfl
    have y1 := hb.cell (i := 1) (x := .slice (some ⟨w.heap.size + 1, 0, none⟩) l.length l.length) rfl
    have y2 := hb.cell (i := 2) (x := .slice (some ⟨w.heap.size + 1 + 1, 0, none⟩) l.length l.length) rfl
    have y3 := hb.cell (i := 3) (x := .slice none 0 0) rfl
    have HF := Lib.hid (gs_new (W := (((w.alloc (.cells [.slice a l.length cap, .slice (some ⟨w.heap.size + 1, 0, none⟩) l.length l.length, .slice (some ⟨w.heap.size + 1 + 1, 0, none⟩) l.length l.length, .slice none 0 0].toArray 67 (0, 0))).alloc (.cells (Array.replicate l.length (.int .i64 0)) 3 (0, 0))).alloc (.cells (Array.replicate l.length (.slice none 0 0)) 28 (0, 0))).drew) (c := w.heap.size + 1) (j := w.heap.size + 1 + 1) HV.out (alloc3 _ _ _ _) (blk3mid _ _ _ _ _ _) (blk3rd _ _ _ _ _ _) hl (by omega) (by omega) HGG.out)
    have HB := Lib.hid (alloc3 w (.cells [.slice a l.length cap, .slice (some ⟨w.heap.size + 1, 0, none⟩) l.length l.length, .slice (some ⟨w.heap.size + 1 + 1, 0, none⟩) l.length l.length, .slice none 0 0].toArray 67 (0, 0)) (.cells (Array.replicate l.length (.int .i64 0)) 3 (0, 0)) (.cells (Array.replicate l.length (.slice none 0 0)) 28 (0, 0)))
    clear hb
    go_wp2
    refine bodyPost_ret (v := .agg #[.slice a l.length cap, .slice (some ⟨w.heap.size + 1, 0, none⟩) l.length l.length, .slice (some ⟨w.heap.size + 1 + 1, 0, none⟩) l.length l.length, .slice none 0 0]) (by simp [results, Try.results32, go_sem, y0, y1, y2, y3]) rfl ?_
    exact ⟨_, _, rfl, HF.out, HB.out⟩
  · have hb := blk3one w [.slice a l.length cap, .slice (some ⟨w.heap.size + 1 + 1, 0, none⟩) l.length l.length, .slice (some ⟨w.heap.size + 1, 0, none⟩) l.length l.length, .slice none 0 0] 67 (.cells (Array.replicate l.length (.slice none 0 0)) 28 (0, 0)) (.cells (Array.replicate l.length (.int .i64 0)) 3 (0, 0))
    have y0 := hb.cell (i := 0) (x := .slice a l.length cap) rfl
    have y1 := hb.cell (i := 1) (x := .slice (some ⟨w.heap.size + 1 + 1, 0, none⟩) l.length l.length) rfl
    have y2 := hb.cell (i := 2) (x := .slice (some ⟨w.heap.size + 1, 0, none⟩) l.length l.length) rfl
    have y3 := hb.cell (i := 3) (x := .slice none 0 0) rfl
    have HF := Lib.hid (gs_new (W := (((w.alloc (.cells [.slice a l.length cap, .slice (some ⟨w.heap.size + 1 + 1, 0, none⟩) l.length l.length, .slice (some ⟨w.heap.size + 1, 0, none⟩) l.length l.length, .slice none 0 0].toArray 67 (0, 0))).alloc (.cells (Array.replicate l.length (.slice none 0 0)) 28 (0, 0))).alloc (.cells (Array.replicate l.length (.int .i64 0)) 3 (0, 0))).drew) (c := w.heap.size + 1 + 1) (j := w.heap.size + 1) HV.out (alloc3 _ _ _ _) (blk3rd _ _ _ _ _ _) (blk3mid _ _ _ _ _ _) hl (by omega) (by omega) HGG.out)
    have HB := Lib.hid (alloc3 w (.cells [.slice a l.length cap, .slice (some ⟨w.heap.size + 1 + 1, 0, none⟩) l.length l.length, .slice (some ⟨w.heap.size + 1, 0, none⟩) l.length l.length, .slice none 0 0].toArray 67 (0, 0)) (.cells (Array.replicate l.length (.slice none 0 0)) 28 (0, 0)) (.cells (Array.replicate l.length (.int .i64 0)) 3 (0, 0)))
    clear hb
    go_wp2
    refine bodyPost_ret (v := .agg #[.slice a l.length cap, .slice (some ⟨w.heap.size + 1 + 1, 0, none⟩) l.length l.length, .slice (some ⟨w.heap.size + 1, 0, none⟩) l.length l.length, .slice none 0 0]) (by simp [results, Try.results32, go_sem, y0, y1, y2, y3]) rfl ?_
    exact ⟨_, _, rfl, HF.out, HB.out⟩
end Go.Proofs.Ytmgjmpmcadjemaa

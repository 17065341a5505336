/- Package drr: two; the law DrrNil. -/
import Derived.Test.YtmgjmpmcadjemaaDrrE
namespace Go.Proofs.Ytmgjmpmcadjemaa
open Go.RowKit

theorem new_ok {l : List Int} (h : mayD l = true) : Ok 0 (newS l l.length) := by
  obtain ⟨h1, h2, h3⟩ := mayD_iff.1 h
  have e0 : (newS l l.length).Q = l := by show l.take l.length = l; rw [List.take_length]
  have e1 : ∀ i, (newS l l.length).C.getD i 0 = 0 := fun i => by show (List.replicate l.length (0 : Int)).getD i 0 = 0; rw [List.getD_eq_getElem?_getD, List.getElem?_replicate]; split <;> rfl
  have e2 : ∀ i, (newS l l.length).J.getD i [] = [] := fun i => by show (List.replicate l.length ([] : List Int)).getD i [] = []; rw [List.getD_eq_getElem?_getD, List.getElem?_replicate]; split <;> rfl
  have e3 : ∀ i, i < l.length → 1 ≤ l.getD i 0 ∧ l.getD i 0 ≤ 1099511627776 := fun i hi => by
    rw [List.getD_eq_getElem?_getD, List.getElem?_eq_getElem hi]
    exact h1 _ (List.getElem_mem hi)
  exact {
    n1 := by rw [e0]; exact h2
    n16 := by rw [e0]; exact h3
    lc := by rw [e0]; show (List.replicate l.length (0 : Int)).length = _; rw [List.length_replicate]
    lj := by rw [e0]; show (List.replicate l.length ([] : List Int)).length = _; rw [List.length_replicate]
    q := fun i hi => by rw [e0] at hi ⊢; exact e3 i hi
    c := fun i hi => by rw [e1, e0]; rw [e0] at hi; have := e3 i hi; omega
    r := fun t ht => by cases ht
    jr := fun i hi hj => absurd (e2 i) hj
    rn := List.nodup_nil
    jn := fun i hi => by rw [e2]; exact List.nodup_nil
    jk := fun i hi => by rw [e2]; exact Nat.le_refl _
    rk := Nat.le_refl _ }

/-- new blocks of others -/
theorem DAt.grow {ow : Nat → Nat} {B : Nat} {w w' : World} {p rq : Nat} {vt : Value} {tb qb : Nat → Nat} {s : Sch} (h : DAt ow B w p rq vt tb qb s) (k : Below w.heap.size w w') : DAt (frO ow w.heap.size 0) B w' p rq vt tb qb s ∧ Fr ow (frO ow w.heap.size 0) w w' :=
  ⟨h.keep (Keep.of_below k (fun _ => False)) (fun _ e => e.elim) (fun j hj => frO_old hj) (fun j hj => by
      by_cases e : j < w.heap.size
      · rw [frO_old e] at hj; exact h.lo j hj
      · rw [frO_new (by omega)] at hj; exact absurd rfl hj), Keep.of_below k _, fun j hj => frO_old hj⟩
theorem Fr.below {ow ow' : Nat → Nat} {B : Nat} {w w' : World} (h : Fr ow ow' w w') (hl : ∀ j, ow j ≠ 0 → B ≤ j) (hB : B ≤ w.heap.size) : Below B w w' :=
  h.1.below hB (fun j hj e => by have := hl j e; omega)
theorem Fr.blk {ow ow' : Nat → Nat} {w w' : World} {b : Nat} {xs : List Value} {t : TypeId} (f : Fr ow ow' w w') (h : Blk w b xs t) (hz : ow b = 0) : Blk w' b xs t ∧ ow' b = 0 :=
  ⟨h.keep f.1 (fun e => e hz), by rw [f.2 b h.lt, hz]⟩

set_option maxHeartbeats 2000000 in
set_option maxRecDepth 100000 in
theorem two_any (w : World) : Calls Try.prog 27 #[] w fun e w' => e = .returned (.bool true) ∧ Below w.heap.size w w' := by
  have hal0 := below_alloc w (.cells #[.int .i64 3, .int .i64 2] 3 (0, 0))
  have HN := Lib.hid (dnew_any _ [3, 2] _ (rints_new w [3, 2] 3 2 w.heap.size _ rfl rfl rfl (by decide) (by decide)) (by decide))
  have OK0 := Lib.hid (new_ok (l := [3, 2]) (by decide))
  have HAL0 := Lib.hid hal0
  clear hal0
  go_enter Try.func27, Try.ntmps27
  go_wp2_with fail
  refine HN.out.mono ?_
  rintro e w1 ⟨p, rq, rfl, ow1, vt, tb, qb, h1, hb1⟩
  have HBE := Lib.hid (below_two HAL0.out hb1)
  have E1 : addM (newS [3, 2] ([3, 2] : List Int).length) 0 10 = (0, ⟨[3, 2], [0, 0], [[10], []], [0]⟩) := by kernel_rfl
  have HA := Lib.hid (dadd_any 0 10 h1 OK0.out (by decide) (by decide) (by decide))
  have OK1 := Lib.hid (OK0.out.addM 0 10)
  rw [E1] at HA OK1
  have HLO := Lib.hid h1.lo
  have HBB := Lib.hid h1.hB
  clear h1 hb1 HN HAL0 OK0 E1
  go_wp2_with fail
  refine HA.out.mono ?_
  rintro e w2 ⟨rfl, ow2, h2, f2⟩
  have E2 : addM ⟨[3, 2], [0, 0], [[10], []], [0]⟩ 1 11 = (0, ⟨[3, 2], [0, 0], [[10], [11]], [0, 1]⟩) := by kernel_rfl
  have HA2 := Lib.hid (dadd_any 1 11 h2 OK1.out (by decide) (by decide) (by decide))
  have OK2 := Lib.hid (OK1.out.addM 1 11)
  rw [E2] at HA2 OK2
  have F2 := Lib.hid f2
  clear h2 f2 HA OK1 E2
  go_wp2_with fail
  refine HA2.out.mono ?_
  rintro e w3 ⟨rfl, ow3, h3, f3⟩
  have F3 := Lib.hid (F2.out.trans f3)
  obtain ⟨g3, fg3⟩ := h3.grow (below_alloc w3 (.cells #[.int .i64 9, .int .i64 9] 3 (0, 0)))
  have E3 : nextM ⟨[3, 2], [0, 0], [[10], [11]], [0, 1]⟩ 9 [9, 9] = (⟨[3, 2], [3, 0], [[10], [11]], [0, 1]⟩, some (0, 10, 3)) := by kernel_rfl
  have HX := Lib.hid (dnext_any 9 _ [9, 9] g3 OK2.out (by decide) (rints_new w3 [9, 9] 3 2 w3.heap.size _ rfl rfl rfl (by decide) (by decide)) (fun _ g hg => by
    have e : w3.heap.size = g := by simpa [Value.ownBlock] using hg
    subst e
    exact frO_new (Nat.le_refl _)) (by decide) (by decide))
  have OK3 := Lib.hid (OK2.out.next 9 [9, 9])
  rw [E3] at HX OK3
  have F3b := Lib.hid (F3.out.trans fg3)
  clear h3 f3 g3 fg3 E3 HA2 OK2 F2 F3
  unfold turnV at HX
  go_wp2_with fail
  refine HX.out.mono ?_
  rintro e w4 ⟨rfl, ow4, h4, f4⟩
  have F4 := Lib.hid (F3b.out.trans f4)
  obtain ⟨g4, fg4⟩ := h4.grow (below_alloc w4 (.cells #[.int .i64 0, .int .i64 10, .int .i64 3] 59 (0, 0)))
  have HT1 := Lib.hid (And.intro (Blk.new w4 [.int .i64 0, .int .i64 10, .int .i64 3] 59) (frO_new (ow := ow4) (c := 0) (Nat.le_refl w4.heap.size)))
  have E4 : spentM ⟨[3, 2], [3, 0], [[10], [11]], [0, 1]⟩ 10 3 false = (0, ⟨[3, 2], [0, 0], [[10], [11]], [1, 0]⟩) := by kernel_rfl
  have HS := Lib.hid (dspent_any 10 3 false g4 OK3.out (by decide))
  have OK4 := Lib.hid (OK3.out.spentM 10 3 false)
  rw [E4] at HS OK4
  have F4b := Lib.hid (F4.out.trans fg4)
  clear h4 f4 g4 fg4 E4 HX OK3 F3b F4
  go_wp2_with fail
  refine HS.out.mono ?_
  rintro e w5 ⟨rfl, ow5, h5, f5⟩
  have F5 := Lib.hid (F4b.out.trans f5)
  have HT2 := Lib.hid (f5.blk HT1.out.1 HT1.out.2)
  obtain ⟨g5, fg5⟩ := h5.grow (below_alloc w5 (.cells #[.int .i64 9, .int .i64 9] 3 (0, 0)))
  have HT3 := Lib.hid (fg5.blk HT2.out.1 HT2.out.2)
  have E5 : nextM ⟨[3, 2], [0, 0], [[10], [11]], [1, 0]⟩ 1 [9, 9] = (⟨[3, 2], [0, 2], [[10], [11]], [1, 0]⟩, some (1, 11, 1)) := by kernel_rfl
  have HX := Lib.hid (dnext_any 1 _ [9, 9] g5 OK4.out (by decide) (rints_new w5 [9, 9] 3 2 w5.heap.size _ rfl rfl rfl (by decide) (by decide)) (fun _ g hg => by
    have e : w5.heap.size = g := by simpa [Value.ownBlock] using hg
    subst e
    exact frO_new (Nat.le_refl _)) (by decide) (by decide))
  rw [E5] at HX
  have F5b := Lib.hid (F5.out.trans fg5)
  clear h5 f5 g5 fg5 E5 HS OK4 F4b F5 HT1 HT2
  unfold turnV at HX
  go_wp2_with fail
  refine HX.out.mono ?_
  rintro e w6 ⟨rfl, ow6, h6, f6⟩
  have F6 := Lib.hid (F5b.out.trans f6)
  have HT4 := Lib.hid (f6.blk HT3.out.1 HT3.out.2)
  have hal := below_alloc w6 (.cells #[.int .i64 1, .int .i64 11, .int .i64 1] 59 (0, 0))
  have hT := HT4.out.1.below hal
  have hU := Blk.new w6 [.int .i64 1, .int .i64 11, .int .i64 1] 59
  have t0 := hT.cell (i := 0) (x := .int .i64 0) rfl
  have t1 := hT.cell (i := 1) (x := .int .i64 10) rfl
  have t2 := hT.cell (i := 2) (x := .int .i64 3) rfl
  have u0 := hU.cell (i := 0) (x := .int .i64 1) rfl
  have u1 := hU.cell (i := 1) (x := .int .i64 11) rfl
  have u2 := hU.cell (i := 2) (x := .int .i64 1) rfl
  have HC := Lib.hid (show Calls Try.prog 38 #[.pointer (some ⟨p, 0, none⟩), .int .i64 1] (w6.alloc (.cells #[.int .i64 1, .int .i64 11, .int .i64 1] 59 (0, 0))) (fun e w' => e = .returned (.int .i64 2) ∧ (w6.alloc (.cells #[.int .i64 1, .int .i64 11, .int .i64 1] 59 (0, 0))) = w') from dcredit_in 1 (h6.below hal) (by decide))
  have HFIN := Lib.hid (show Below w.heap.size w (w6.alloc (.cells #[.int .i64 1, .int .i64 11, .int .i64 1] 59 (0, 0))) by
    have b1 : Below w1.heap.size w1 w1 := Below.refl _ _
    have f := F6.out.below HLO.out HBB.out
    have f2 : Below w.heap.size w1 w6 := f.mono (by simp)
    have f3 : Below w.heap.size w w6 := HBE.out.trans f2
    exact below_two f3 hal)
  clear h6 f6 hal hT hU HX HT3 F5b F6 HT4
  go_wp2_with fail
  refine HC.out.mono ?_
  rintro e w7 ⟨rfl, rfl⟩
  go_wp2
  go_ret
  exact ⟨rfl, HFIN.out⟩
end Go.Proofs.Ytmgjmpmcadjemaa

/- Package jobs: Add. -/
import Derived.Test.YtmgjmpmcadjemaaJobB
import Derived.Deep.RegionLaw
import Derived.Deep.AppendLies
namespace Go.Proofs.Ytmgjmpmcadjemaa
open Go.RowKit

theorem liveinfo : (Try.prog.info? 85).map (fun i => (i.zero, i.size, i.bytes)) = some (some (.agg #[.int .i64 0, .int .i64 0, .int .i64 0, .int .i64 0, .int .i64 0]), 5, 40) := by kernel_rfl

/-- a table behind an act -/
def JDid (b : Nat) (vl : Value) (lim : Int) (last' : Nat) (L' : List LV) (w w' : World) : Prop :=
  ∃ vl', TabAt w' b lim last' vl' L' ∧ Keep (JF b vl) w w' ∧ (∀ g, vl'.ownBlock = some g → vl.ownBlock = some g ∨ w.heap.size ≤ g)
theorem JDid.same {b : Nat} {lim : Int} {last : Nat} {vl : Value} {L : List LV} {w w' : World} (h : TabAt w b lim last vl L) (kp : Below w.heap.size w w') : JDid b vl lim last L w w' :=
  ⟨vl, h.below kp, Keep.of_below kp _, fun g hg => .inl hg⟩

theorem flatV_snoc (L : List LV) (x : LV) : (L ++ [x]).flatMap encV = L.flatMap encV ++ encV x := by rw [List.flatMap_append]; simp

theorem keep_grown {w w' : World} {r : Option Nat} (h : w.grownBy w' r) : Keep (fun k => r = some k) w w' :=
  ⟨h.os, h.tape, h.output, h.size, fun k hk hs => h.block k hk (fun e => hs e.symm)⟩

/-- behind the append -/
theorem tab_added {w w2 w3 w4 : World} {b gg cap : Nat} {lim : Int} {last : Nat} {vl : Value} {L : List LV} {x : LV} (h : TabAt w b lim last vl L) (hx : goodV x)
    (hk : Keep (fun j => j = b) w w2) (hw3 : Below w2.heap.size w2 w3) (hg : w3.grownBy w4 vl.ownBlock) (hb : Blk w4 b [.int .i64 lim, .int .i64 ((last : Int) + 1), vl] 82)
    (ho : w4.ownsRow 0 85 5 (.slice (some ⟨gg, 0, none⟩) (L.length + 1) cap) (L.length + 1) (L.flatMap encV ++ encV x)) (ha : vl.ownBlock = some gg ∨ w2.heap.size ≤ gg) :
    JDid b vl lim (last + 1) (L ++ [x]) w (w4.setCell ⟨b, 2, none⟩ (.slice (some ⟨gg, 0, none⟩) (L.length + 1) cap)) := by
  have hb0 := h.box.lt
  have hsz := hk.size
  have hgb : gg ≠ b := by
    rintro rfl
    rcases ha with ha | ha
    · exact h.ne ha
    · omega
  have k1 : Keep (JF b vl) w w4 := ((hk.mono (T := JF b vl) (fun j _ e => .inl e)).trans (Keep.of_below hw3 _)).trans ((keep_grown hg).mono (fun j _ e => .inr e))
  have k3 : Keep (fun j => j = b) w4 (w4.setCell ⟨b, 2, none⟩ (.slice (some ⟨gg, 0, none⟩) (L.length + 1) cap)) := keep_setCell (S := fun j => j = b) (Keep.refl _ _) rfl _
  refine ⟨.slice (some ⟨gg, 0, none⟩) (L.length + 1) cap, ⟨?_, ?_, ?_, ?_⟩, k1.trans (k3.mono (fun j _ e => .inl e)), ?_⟩
  · exact hb.set 2 _
  · have ho2 : Own w4 85 5 (.slice (some ⟨gg, 0, none⟩) (L.length + 1) cap) (L.length + 1) (L.flatMap encV ++ encV x) := ho
    rw [List.length_append, List.length_singleton, flatV_snoc]
    exact ho2.keep k3 (fun g hg e => by simp [Value.ownBlock] at hg; omega)
  · intro e
    simp [Value.ownBlock] at e
    exact hgb e
  · intro y hy
    rcases List.mem_append.1 hy with hy | hy
    · exact h.good y hy
    · rw [List.mem_singleton] at hy; rw [hy]; exact hx
  · intro g hg
    simp [Value.ownBlock] at hg
    subst hg
    rcases ha with ha | ha
    · exact .inl ha
    · exact .inr (by omega)

set_option maxHeartbeats 1000000 in
set_option maxRecDepth 100000 in
theorem add_dup (b : Nat) (lim : Int) (last : Nat) (vl : Value) (L : List LV) (c i t n : Int) (w : World) (h : TabAt w b lim last vl L) (hf : findE c i L = 0) :
    Calls Try.prog 13 #[.pointer (some ⟨b, 0, none⟩), .agg #[.int .i64 c, .int .i64 i, .int .i64 t, .int .i64 n]] w fun e w' => e = .returned (.tuple #[.int .i64 0, .int .i64 8]) ∧ Below w.heap.size w w' := by
  have hal := below_alloc w (.cells #[.int .i64 c, .int .i64 i, .int .i64 t, .int .i64 n] 31 (0, 0))
  have HF := Lib.hid (find_any b lim last vl L c i _ (h.below hal))
  rw [hf] at HF
  have HAL := Lib.hid hal
  clear h hf hal
  go_enter Try.func13, Try.ntmps13
  go_wp2_with fail
  refine HF.out.mono ?_
  rintro e w1 ⟨rfl, hb⟩
  have HB := Lib.hid (below_two HAL.out hb)
  clear HF hb
  go_wp2
  go_ret2
  exact ⟨rfl, HB.out⟩
theorem add_nil (c i t n : Int) (w : World) :
    Calls Try.prog 13 #[.pointer none, .agg #[.int .i64 c, .int .i64 i, .int .i64 t, .int .i64 n]] w fun e w' => e = .returned (.tuple #[.int .i64 0, .int .i64 7]) ∧ Below w.heap.size w w' := by
  have hal := below_alloc w (.cells #[.int .i64 c, .int .i64 i, .int .i64 t, .int .i64 n] 31 (0, 0))
  go_enter Try.func13, Try.ntmps13
  go_wp2
  go_ret2
  exact ⟨rfl, hal⟩

set_option maxHeartbeats 1000000 in
set_option maxRecDepth 100000 in
theorem add_full (b : Nat) (lim : Int) (last : Nat) (vl : Value) (L : List LV) (c i t n : Int) (w : World) (h : TabAt w b lim last vl L) (hf : findE c i L = 6) (hl : (L.length : Int) = lim) :
    Calls Try.prog 13 #[.pointer (some ⟨b, 0, none⟩), .agg #[.int .i64 c, .int .i64 i, .int .i64 t, .int .i64 n]] w fun e w' => e = .returned (.tuple #[.int .i64 0, .int .i64 5]) ∧ Below w.heap.size w w' := by
  have hal := below_alloc w (.cells #[.int .i64 c, .int .i64 i, .int .i64 t, .int .i64 n] 31 (0, 0))
  have h2 := h.below hal
  have HF := Lib.hid (find_any b lim last vl L c i _ h2)
  rw [hf] at HF
  have HAL := Lib.hid hal
  have H2 := Lib.hid h2
  obtain ⟨a, cap, rfl, -, -⟩ := h.rs.shape
  subst hl
  have hll : ((L.length : Int) == (L.length : Int)) = true := by simp
  clear h h2 hf hal
  go_enter Try.func13, Try.ntmps13
  go_wp2_with fail
  refine HF.out.mono ?_
  rintro e w1 ⟨rfl, hb⟩
  have HB := Lib.hid (below_two HAL.out hb)
  have h3 := H2.out.below hb
  have c0 := h3.box.cell (i := 0) rfl
  have c2 := h3.box.cell (i := 2) (x := .slice a L.length cap) rfl
  clear HF hb H2 h3
  go_wp2
  go_quiet (fail)
  go_wp2
  go_ret2
  exact ⟨rfl, below_two HB.out (below_drawn ⟨_, rfl⟩)⟩

set_option maxHeartbeats 2000000 in
set_option maxRecDepth 100000 in
theorem add_ok (b : Nat) (lim : Int) (last : Nat) (vl : Value) (L : List LV) (c i t n : Int) (w : World) (h : TabAt w b lim last vl L) (hg : goodJ (c, i, t, n)) (hf : findE c i L = 6) (hl : ¬ (L.length : Int) = lim) (hla : last ≤ 900) (hle : L.length ≤ 1000) :
    Calls Try.prog 13 #[.pointer (some ⟨b, 0, none⟩), .agg #[.int .i64 c, .int .i64 i, .int .i64 t, .int .i64 n]] w fun e w' => e = .returned (.tuple #[.int .i64 ((last : Int) + 1), .int .i64 0]) ∧ JDid b vl lim (last + 1) (L ++ [((c, i, t, n), (last : Int) + 1)]) w w' := by
  obtain ⟨i0, hi0, hz0, hz1, hz2⟩ := info_parts liveinfo
  have hal := below_alloc w (.cells #[.int .i64 c, .int .i64 i, .int .i64 t, .int .i64 n] 31 (0, 0))
  have h2 := h.below hal
  have HF := Lib.hid (find_any b lim last vl L c i _ h2)
  rw [hf] at HF
  obtain ⟨a, cap0, rfl, -, -⟩ := h.rs.shape
  have HAL := Lib.hid hal
  have H := Lib.hid h
  have HGX := Lib.hid (show goodV ((c, i, t, n), (last : Int) + 1) from ⟨hg, by show 0 < (last : Int) + 1; omega, by show (last : Int) + 1 ≤ 1000; omega⟩)
  have HEN := Lib.hid (Blk.new w [.int .i64 c, .int .i64 i, .int .i64 t, .int .i64 n] 31)
  have hebb : w.heap.size ≠ b := by have := h.box.lt; omega
  have hll : ((L.length : Int) == lim) = false := beq_eq_false_iff_ne.2 hl
  have hwl : IntKind.i64.wrap ((last : Int) + 1) = (last : Int) + 1 := IntWalk.i64_in _ (by omega)
  clear h h2 hf hal hg hl
  go_enter Try.func13, Try.ntmps13
  go_wp2_with fail
  refine HF.out.mono ?_
  rintro e w1 ⟨rfl, hb⟩
  have h3 := (H.out.below HAL.out).below hb
  have hbx := h3.box
  have c0 := hbx.cell (i := 0) rfl
  have c1 := hbx.cell (i := 1) rfl
  have c2 := hbx.cell (i := 2) (x := .slice a L.length cap0) rfl
  have f1 := hbx.free 1
  have HB1 := Lib.hid (below_two HAL.out hb)
  have HEN1 := Lib.hid (HEN.out.below hb)
  have HBX1 := Lib.hid h3.box
  clear HF hb h3 hbx
  go_wp2
  go_quiet (fail)
  go_wp2
  have hkp : Keep (fun j => j = b) w ((w1.drewN nq).setCell ⟨b, 1, none⟩ (.int .i64 ((last : Int) + 1))) :=
    keep_setCell (S := fun j => j = b) (Keep.of_below (below_two HB1.out (below_drawn ⟨nq, rfl⟩)) _) rfl _
  have hbx := (HBX1.out.below (below_drawn ⟨nq, rfl⟩)).set 1 (.int .i64 ((last : Int) + 1))
  have hen := (HEN1.out.below (below_drawn ⟨nq, rfl⟩)).other ⟨b, 1, none⟩ (.int .i64 ((last : Int) + 1)) hebb
  have HKP := Lib.hid hkp
  have HBX := Lib.hid hbx
  have HEN2 := Lib.hid hen
  clear hkp hbx hen HB1 HEN1 HBX1 c0 c1 c2 f1
  generalize (w1.drewN nq).setCell ⟨b, 1, none⟩ (.int .i64 ((last : Int) + 1)) = w2 at *
  have hbx := HBX.out
  have c1 := hbx.cell (i := 1) (x := .int .i64 ((last : Int) + 1)) rfl
  have c2 := hbx.cell (i := 2) (x := .slice a L.length cap0) rfl
  have f2 := hbx.free 2
  have e0 := HEN2.out.cell (i := 0) rfl
  have e1 := HEN2.out.cell (i := 1) rfl
  have e2 := HEN2.out.cell (i := 2) rfl
  have e3 := HEN2.out.cell (i := 3) rfl
  have hown : w2.ownsRow 0 85 5 (.slice a L.length cap0) L.length (L.flatMap encV) := Own.keep H.out.row HKP.out (fun g hg e => H.out.ne (by rw [hg, e]))
  have hlen : L.length ≤ 1000 := hle
  have HFIN := Lib.hid (fun (w3 w4 : World) (gg cap : Nat) => tab_added (w := w) (w2 := w2) (w3 := w3) (w4 := w4) (gg := gg) (cap := cap) H.out HGX.out)
  have HNE := Lib.hid H.out.ne
  have hb2 := HBX.out.lt
  obtain ⟨xs, hxs⟩ : ∃ xs, L.flatMap encV = xs := ⟨_, rfl⟩
  rw [hxs] at hown HFIN
  have HOWN := Lib.hid hown
  have HLEN := Lib.hid hlen
  clear hown hlen hxs hbx H HGX HAL HEN hle hll
  go_region_law (refine step_append_lies _ (by rfl) _ _ _ (by rfl) 0 85 i0 _ 5 40 Try.underlying80 hi0 hz0 hz1 hz2 rfl (by omega) (.slice a L.length cap0) _ _ (by rfl) ((HOWN.out.alloc _).drew) ⟨w2.heap.size, 0, none⟩ 1 1 [.int .i64 c, .int .i64 i, .int .i64 t, .int .i64 n, .int .i64 ((last : Int) + 1)] (by rfl) (by rfl) (World.news_of_block (cs := #[.int .i64 c, .int .i64 i, .int .i64 t, .int .i64 n, .int .i64 ((last : Int) + 1)]) (t := 85) (fr := (0, 0)) (heap_alloc_new w2 _)) (by simp [Value.oneCell']) (by omega) (by have := HLEN.out; unfold maxLen; omega) (by have := HLEN.out; omega) (Nat.zero_le _) (w2.heap.size + 1) (by simp) ?_; intro gg cap w4 hown4 hgrow hat hlt; have hbx := ((HBX.out.below (below_alloc _ _)).below (Below.drew (Below.refl _ _))).keep (keep_grown hgrow) HNE.out; have hx0 := hbx.cell (i := 0) rfl; have hx1 := hbx.cell (i := 1) (x := .int .i64 ((last : Int) + 1)) rfl; have hx2 := hbx.free 2; have hx3 := hbx.cell (i := 2) (x := .slice a L.length cap0) rfl)
  all_goals
    have HG := Lib.hid hgrow
    have HO1 := Lib.hid hown4
    have HA := Lib.hid hat
    have HBX4 := Lib.hid hbx
    clear hgrow hown4 hat hbx HOWN c1 c2 f2 e0 e1 e2 e3
    go_wp2
    go_ret2
    exact ⟨rfl, HFIN.out _ _ _ _ HKP.out (below_two (below_alloc _ _) (Below.drew (Below.refl _ _))) HG.out HBX4.out HO1.out (HA.out.imp id (fun e => by omega))⟩
end Go.Proofs.Ytmgjmpmcadjemaa

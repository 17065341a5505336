/- Package bits: a writer in memory, and the contracts of its functions. -/
import Derived.Test.YtjpjdecbkekcfaaStr
import Derived.Test.YtjpjdecbkekcfaaBitL
import Derived.StillTailTactics
import Derived.Outline
import Derived.Deep.RegionHeld3
import Derived.Deep.RegionLaw
import Derived.Deep.AppendLies
import Derived.Laws.BitsAllLaws
namespace Go.Proofs.Ytjpjdecbkekcfaa
open Go.RowKit

theorem byteinfo : (Try.prog.info? 5).map (fun i => (i.zero, i.size, i.bytes)) = some (some (.int .u8 0), 1, 1) := by kernel_rfl

/-- a writer in memory: all bits that were put, and how many bytes were taken -/
structure WriterAt (w : World) (b : Nat) (vw : Value) (all : List Bool) (k : Nat) : Prop where
  box : Blk w b [vw, .int .u8 (restV all : Nat), .int .i64 (all.length : Nat)] 85
  row : OwnB w 5 vw ((bytesL all).drop k)
  kle : k ≤ all.length / 8
  ne : vw.ownBlock ≠ some b

/-- the blocks of a writer -/
def WF (b : Nat) (vw : Value) (j : Nat) : Prop := j = b ∨ vw.ownBlock = some j

theorem WriterAt.keep {S : Nat → Prop} {w w' : World} {b : Nat} {vw : Value} {all : List Bool} {k : Nat} (h : WriterAt w b vw all k) (kp : Keep S w w') (hs : ∀ j, WF b vw j → ¬ S j) : WriterAt w' b vw all k :=
  ⟨h.box.keep kp (hs b (.inl rfl)), h.row.keep kp (fun g hg => hs g (.inr hg)), h.kle, h.ne⟩
theorem WriterAt.below {w w' : World} {b : Nat} {vw : Value} {all : List Bool} {k : Nat} (h : WriterAt w b vw all k) (kp : Below w.heap.size w w') : WriterAt w' b vw all k :=
  h.keep (Keep.of_below kp (fun _ => False)) (fun _ _ h => h)
theorem WriterAt.lt {w : World} {b : Nat} {vw : Value} {all : List Bool} {k : Nat} (h : WriterAt w b vw all k) : ∀ j, WF b vw j → j < w.heap.size := by
  intro j hj
  rcases hj with rfl | hj
  · exact h.box.lt
  · exact Own.lt h.row j hj

/-- a writer behind an act -/
def WDid (b : Nat) (vw : Value) (all' : List Bool) (k' : Nat) (w w' : World) : Prop :=
  ∃ vw', WriterAt w' b vw' all' k' ∧ Keep (WF b vw) w w' ∧ (∀ g, vw'.ownBlock = some g → vw.ownBlock = some g ∨ w.heap.size ≤ g)
theorem WDid.same {b : Nat} {vw : Value} {all : List Bool} {k : Nat} {w w' : World} (h : WriterAt w b vw all k) (kp : Below w.heap.size w w') : WDid b vw all k w w' :=
  ⟨vw, h.below kp, Keep.of_below kp _, fun g hg => .inl hg⟩

theorem wnew_any (w : World) : Calls Try.prog 29 #[] w fun e w' => e = .returned (.pointer (some ⟨w.heap.size, 0, none⟩)) ∧ WriterAt w' w.heap.size (.slice none 0 0) [] 0 ∧ Below w.heap.size w w' := by
  go_enter Try.func29, Try.ntmps29
  go_wp2
  go_ret
  exact ⟨rfl, ⟨Blk.new w _ _, OwnB.nil _ _, Nat.le_refl _, by simp [Value.ownBlock]⟩, below_alloc _ _⟩

theorem or_bit (all : List Bool) (x : Bool) (s : Nat) (hs : 7 - all.length % 8 = s) :
    bits BinOp.or .u8 ((restV all : Nat) : Int) (IntKind.u8.wrap (((x.toNat : Nat) : Int) * 2 ^ s)) = ((restV all + x.toNat * 2 ^ s : Nat) : Int) := by
  have hx : x.toNat ≤ 1 := by cases x <;> decide
  have h8 : all.length % 8 < 8 := Nat.mod_lt _ (by decide)
  have hlt : x.toNat * 2 ^ s < 2 ^ (s + 1) := by
    rw [Nat.pow_succ]
    have : x.toNat * 2 ^ s ≤ 1 * 2 ^ s := Nat.mul_le_mul_right _ hx
    have := Nat.two_pow_pos s
    omega
  have hm := restV_mod all
  rw [show 8 - all.length % 8 = s + 1 by omega] at hm
  have hle : (2 : Nat) ^ (s + 1) ≤ 2 ^ 8 := Nat.pow_le_pow_right (by decide) (by omega)
  have e : ((x.toNat : Nat) : Int) * 2 ^ s = ((x.toNat * 2 ^ s : Nat) : Int) := by simp
  rw [e, IntWalk.u8_in _ ⟨Int.natCast_nonneg _, by omega⟩, u8_or_nat _ _ (restV_lt all) (by omega), nat_join (s + 1) _ _ hm hlt]

theorem WriterAt.set {w w' : World} {b : Nat} {vw vw' : Value} {all all' : List Bool} {k : Nat} (h : WriterAt w b vw all k) (kp : Keep (WF b vw) w w')
    (hbox : Blk w' b [vw', .int .u8 (restV all' : Nat), .int .i64 (all'.length : Nat)] 85) (hrow : OwnB w' 5 vw' ((bytesL all').drop k)) (hk : k ≤ all'.length / 8)
    (hf : ∀ g, vw'.ownBlock = some g → vw.ownBlock = some g ∨ w.heap.size ≤ g) : WDid b vw all' k w w' := by
  refine ⟨vw', ⟨hbox, hrow, hk, fun e => ?_⟩, kp, hf⟩
  rcases hf b e with h1 | h1
  · exact h.ne h1
  · have := h.box.lt; omega

theorem writer_put {w : World} {b : Nat} {vw : Value} {all : List Bool} {k : Nat} (h : WriterAt w b vw all k) (x : Bool) (hm : all.length % 8 ≠ 7) (s : Nat) (hs : 7 - all.length % 8 = s) (n m : Nat) :
    WDid b vw (all ++ [x]) k w ((((w.drewN n).setCell ⟨b, 1, none⟩ (.int .u8 ((restV all + x.toNat * 2 ^ s : Nat) : Int))).setCell ⟨b, 2, none⟩ (.int .i64 ((all.length : Int) + 1))).drewN m) := by
  have k0 : Keep (WF b vw) w (((w.drewN n).setCell ⟨b, 1, none⟩ (.int .u8 ((restV all + x.toNat * 2 ^ s : Nat) : Int))).setCell ⟨b, 2, none⟩ (.int .i64 ((all.length : Int) + 1))) :=
    keep_setCell (keep_setCell (Keep.of_below (below_drewN (Below.refl _ _) n) _) (.inl rfl) _) (.inl rfl) _
  have k1 := k0.trans (Keep.of_below (below_drewN (Below.refl _ _) m) _)
  refine h.set (vw' := vw) k1 ?_ ?_ ?_ (fun g hg => .inl hg)
  · have hb := ((h.box.below (below_drewN (Below.refl _ _) n)).set 1 (.int .u8 ((restV all + x.toNat * 2 ^ s : Nat) : Int))).set 2 (.int .i64 ((all.length : Int) + 1))
    have hb2 := hb.below (below_drewN (Below.refl _ _) m)
    rw [restV_snoc x hm, show 7 - all.length % 8 = s from hs, List.length_append, List.length_singleton]
    simpa using hb2
  · rw [bytesL_same x hm]
    have ke : Keep (fun j => j = b) w ((((w.drewN n).setCell ⟨b, 1, none⟩ (.int .u8 ((restV all + x.toNat * 2 ^ s : Nat) : Int))).setCell ⟨b, 2, none⟩ (.int .i64 ((all.length : Int) + 1))).drewN m) :=
      (keep_setCell (S := fun j => j = b) (keep_setCell (S := fun j => j = b) (Keep.of_below (below_drewN (Below.refl _ _) n) _) rfl _) rfl _).trans (Keep.of_below (below_drewN (Below.refl _ _) m) _)
    exact h.row.keep ke (fun g hg e => h.ne (by rw [hg, e]))
  · have := h.kle
    rw [List.length_append, List.length_singleton]
    omega

set_option maxHeartbeats 1000000 in
set_option maxRecDepth 100000 in
theorem wbit_mid (b : Nat) (vw : Value) (all : List Bool) (k : Nat) (x : Bool) (w : World) (h : WriterAt w b vw all k) (hl : all.length ≤ 1000000000) (hm : all.length % 8 ≠ 7) :
    Calls Try.prog 60 #[.pointer (some ⟨b, 0, none⟩), .int .u8 (x.toNat : Nat)] w fun e w' => e = .returned (.tuple #[]) ∧ WDid b vw (all ++ [x]) k w w' := by
  have hc0 := h.box.cell (i := 0) (x := vw) rfl
  have hc1 := h.box.cell (i := 1) rfl
  have hc2 := h.box.cell (i := 2) rfl
  have hf1 := h.box.free 1
  have hf2 := h.box.free 2
  have hs : IntKind.i64.wrap (7 - (all.length : Int) % 8) = ((7 - all.length % 8 : Nat) : Int) := by rw [IntWalk.i64_in _ (by omega)]; omega
  have hm7 : ((all.length : Int) % 8 == 7) = false := beq_eq_false_iff_ne.2 (by omega)
  obtain ⟨s, hss⟩ : ∃ s, 7 - all.length % 8 = s := ⟨_, rfl⟩
  have hor := or_bit all x s hss
  have HP := Lib.hid (writer_put h x hm s hss)
  rw [hss] at hs
  have hs7 : s ≤ 7 := by omega
  obtain ⟨R, hR⟩ : ∃ R, restV all + x.toNat * 2 ^ s = R := ⟨_, rfl⟩
  rw [hR] at hor HP
  clear hss h hm hR
  go_enter Try.func60, Try.ntmps60
  go_wp2
  go_still_tail 11, (by kernel_rfl)
  change wpList _ _ _ _ _ (World.drew _)
  go_wp2
  go_end0
  exact ⟨rfl, HP.out 0 1⟩

theorem keep_of_grown {w w' : World} {r : Option Nat} (h : w.grownBy w' r) : Keep (fun k => r = some k) w w' :=
  ⟨h.os, h.tape, h.output, h.size, fun k hk hs => h.block k hk (fun e => hs e.symm)⟩

/-- behind an append to a row: what is known of a box -/
theorem grown_box {w2 w1 : World} {o : Obj} {b : Nat} {vw x y : Value} {t : TypeId} (hb : Blk w2 b [vw, x, y] t) (hg : ((w2.alloc o).drew).grownBy w1 vw.ownBlock) (hne : vw.ownBlock ≠ some b) : Blk w1 b [vw, x, y] t :=
  ((hb.below (below_alloc _ _)).below (Below.drew (Below.refl _ _))).keep (keep_of_grown hg) hne
theorem grown_facts {w2 w1 : World} {o : Obj} {b : Nat} {vw x y : Value} {t : TypeId} (hb : Blk w2 b [vw, x, y] t) (hg : ((w2.alloc o).drew).grownBy w1 vw.ownBlock) (hne : vw.ownBlock ≠ some b) :
    w1.cell? ⟨b, 0, none⟩ = some vw ∧ w1.cell? ⟨b, 1, none⟩ = some x ∧ w1.frozen? ⟨b, 0, none⟩ = false :=
  ⟨(grown_box hb hg hne).cell rfl, (grown_box hb hg hne).cell rfl, (grown_box hb hg hne).free 0⟩

theorem writer_full {w w2 w1 : World} {o : Obj} {b R gg cap : Nat} {vw : Value} {all : List Bool} {k : Nat} (h : WriterAt w b vw all k) (x : Bool) (hm : all.length % 8 = 7) (hR : restV all + x.toNat = R)
    (hk : Keep (fun j => j = b) w w2) (hg : ((w2.alloc o).drew).grownBy w1 vw.ownBlock) (hb : Blk w1 b [vw, .int .u8 (R : Int), .int .i64 ((all.length : Int) + 1)] 85)
    (ho : w1.ownsRow 0 5 1 (.slice (some ⟨gg, 0, none⟩) (((bytesL all).drop k).length + 1) cap) (((bytesL all).drop k).length + 1) (bcells ((bytesL all).drop k) ++ [.int .u8 (R : Int)]))
    (ha : vw.ownBlock = some gg ∨ gg = w2.heap.size + 1) :
    WDid b vw (all ++ [x]) k w ((w1.setCell ⟨b, 0, none⟩ (.slice (some ⟨gg, 0, none⟩) (((bytesL all).drop k).length + 1) cap)).setCell ⟨b, 1, none⟩ (.int .u8 0)) := by
  have hb0 := h.box.lt
  have hsz := hk.size
  have hgb : gg ≠ b := by
    rintro rfl
    rcases ha with ha | ha
    · exact h.ne ha
    · omega
  have k1 : Keep (WF b vw) w w1 := ((hk.mono (T := WF b vw) (fun j _ e => .inl e)).trans (Keep.of_below ((below_alloc w2 o).trans (Below.drew (Below.refl _ _)) |>.mono (Nat.le_refl _)) _)).trans ((keep_of_grown hg).mono (fun j _ e => .inr e))
  have k2 : Keep (WF b vw) w ((w1.setCell ⟨b, 0, none⟩ (.slice (some ⟨gg, 0, none⟩) (((bytesL all).drop k).length + 1) cap)).setCell ⟨b, 1, none⟩ (.int .u8 0)) :=
    keep_setCell (keep_setCell k1 (.inl rfl) _) (.inl rfl) _
  have k3 : Keep (fun j => j = b) w1 ((w1.setCell ⟨b, 0, none⟩ (.slice (some ⟨gg, 0, none⟩) (((bytesL all).drop k).length + 1) cap)).setCell ⟨b, 1, none⟩ (.int .u8 0)) :=
    keep_setCell (S := fun j => j = b) (keep_setCell (S := fun j => j = b) (Keep.refl _ _) rfl _) rfl _
  refine h.set (vw' := .slice (some ⟨gg, 0, none⟩) (((bytesL all).drop k).length + 1) cap) k2 ?_ ?_ ?_ ?_
  · have := (hb.set 0 (.slice (some ⟨gg, 0, none⟩) (((bytesL all).drop k).length + 1) cap)).set 1 (.int .u8 0)
    rw [restV_full x hm, List.length_append, List.length_singleton]
    simpa using this
  · have hle := h.kle
    have hlen := bytesL_len all
    have hR256 : R < 256 := by
      have := restV_mod all
      have := restV_lt all
      rw [hm] at *
      have : x.toNat ≤ 1 := by cases x <;> decide
      omega
    have e : (bytesL (all ++ [x])).drop k = (bytesL all).drop k ++ [UInt8.ofNat R] := by
      rw [bytesL_full x hm, hR, List.drop_append_of_le_length (by omega)]
    have hu : (UInt8.ofNat R).toNat = R := UInt8.toNat_ofNat_of_lt (by simpa using hR256)
    rw [e]
    have ho2 : OwnB w1 5 (.slice (some ⟨gg, 0, none⟩) (((bytesL all).drop k).length + 1) cap) ((bytesL all).drop k ++ [UInt8.ofNat R]) := by
      unfold OwnB Own
      rw [bcells_append, List.length_append, List.length_singleton]
      have e2 : bcells [UInt8.ofNat R] = [.int .u8 (R : Int)] := by simp [bcells, u8, hu]
      rw [e2]
      exact ho
    exact ho2.keep k3 (fun g hg e => by simp [Value.ownBlock] at hg; omega)
  · have := h.kle
    rw [List.length_append, List.length_singleton]
    omega
  · intro g hg
    simp [Value.ownBlock] at hg
    subst hg
    rcases ha with ha | ha
    · exact .inl ha
    · exact .inr (by omega)

theorem alloc_facts {w2 : World} {o : Obj} {b : Nat} {vw x y : Value} {t : TypeId} (hb : Blk w2 b [vw, x, y] t) :
    (w2.alloc o).drew.cell? ⟨b, 0, none⟩ = some vw ∧ (w2.alloc o).drew.cell? ⟨b, 1, none⟩ = some x ∧ (w2.alloc o).drew.frozen? ⟨b, 0, none⟩ = false :=
  have h := (hb.below (below_alloc w2 o)).below (Below.drew (Below.refl _ _))
  ⟨h.cell rfl, h.cell rfl, h.free 0⟩

set_option maxHeartbeats 1000000 in
set_option maxRecDepth 100000 in
theorem wbit_full (b : Nat) (vw : Value) (all : List Bool) (k : Nat) (x : Bool) (w : World) (h : WriterAt w b vw all k) (hl : all.length ≤ 1000000000) (hm : all.length % 8 = 7) :
    Calls Try.prog 60 #[.pointer (some ⟨b, 0, none⟩), .int .u8 (x.toNat : Nat)] w fun e w' => e = .returned (.tuple #[]) ∧ WDid b vw (all ++ [x]) k w w' := by
  obtain ⟨i0, hi0, hz0, hz1, hz2⟩ := info_parts byteinfo
  have hc0 := h.box.cell (i := 0) (x := vw) rfl
  have hc1 := h.box.cell (i := 1) rfl
  have hc2 := h.box.cell (i := 2) rfl
  have hf1 := h.box.free 1
  have hf2 := h.box.free 2
  have hbl := h.box.lt
  have hs : IntKind.i64.wrap (7 - (all.length : Int) % 8) = ((7 - all.length % 8 : Nat) : Int) := by rw [IntWalk.i64_in _ (by omega)]; omega
  have hm7 : ((all.length : Int) % 8 == 7) = true := by rw [beq_iff_eq]; omega
  obtain ⟨s, hss⟩ : ∃ s, 7 - all.length % 8 = s := ⟨_, rfl⟩
  have hor := or_bit all x s hss
  obtain ⟨R, hR⟩ : ∃ R, restV all + x.toNat * 2 ^ s = R := ⟨_, rfl⟩
  rw [hR] at hor
  rw [hss] at hs
  have hs7 : s ≤ 7 := by omega
  have hR2 : restV all + x.toNat = R := by rw [← hR, show s = 0 by omega]; omega
  have HR := Lib.hid hR2
  have H := Lib.hid h
  have hkp : Keep (fun j => j = b) w (((w.setCell ⟨b, 1, none⟩ (.int .u8 (R : Int))).setCell ⟨b, 2, none⟩ (.int .i64 ((all.length : Int) + 1)))).drew :=
    (keep_setCell (S := fun j => j = b) (keep_setCell (S := fun j => j = b) (Keep.refl _ _) rfl _) rfl _).trans (Keep.of_below (Below.drew (Below.refl _ _)) _)
  have HKP := Lib.hid hkp
  have HB := Lib.hid (show Blk (((w.setCell ⟨b, 1, none⟩ (.int .u8 (R : Int))).setCell ⟨b, 2, none⟩ (.int .i64 ((all.length : Int) + 1)))).drew b [vw, .int .u8 (R : Int), .int .i64 ((all.length : Int) + 1)] 85 from
    ((h.box.set 1 (.int .u8 (R : Int))).set 2 (.int .i64 ((all.length : Int) + 1))).below (Below.drew (Below.refl _ _)))
  have HM := Lib.hid hm
  clear h hm hR hR2 hkp hss
  go_enter Try.func60, Try.ntmps60
  go_wp2
  go_still_tail 11, (by kernel_rfl)
  change wpList _ _ _ _ _ (World.drew _)
  go_wp2
  have hown : ((w.setCell ⟨b, 1, none⟩ (.int .u8 (R : Int))).setCell ⟨b, 2, none⟩ (.int .i64 ((all.length : Int) + 1))).drew.ownsRow 0 5 1 vw ((bytesL all).drop k).length (bcells ((bytesL all).drop k)) := Own.keep H.out.row HKP.out (fun g hg e => H.out.ne (by rw [hg, e]))
  have hlen : ((bytesL all).drop k).length ≤ 1000000000 := by rw [List.length_drop, bytesL_len]; omega
  have HFIN := Lib.hid (fun (w2 w1 : World) (o : Obj) (gg cap : Nat) => writer_full (w := w) (w2 := w2) (w1 := w1) (o := o) (gg := gg) (cap := cap) H.out x HM.out HR.out)
  obtain ⟨n, hn⟩ : ∃ n, ((bytesL all).drop k).length = n := ⟨_, rfl⟩
  obtain ⟨xs, hxs⟩ : ∃ xs, bcells ((bytesL all).drop k) = xs := ⟨_, rfl⟩
  rw [hn, hxs] at hown HFIN
  rw [hn] at hlen
  have HOWN := Lib.hid hown
  have HLEN := Lib.hid hlen
  have HNE := Lib.hid H.out.ne
  clear hc0 hc1 hc2 hf1 hf2 hor hown hlen hn hxs HM HR H hs hs7
  generalize ((w.setCell ⟨b, 1, none⟩ (.int .u8 (R : Int))).setCell ⟨b, 2, none⟩ (.int .i64 ((all.length : Int) + 1))).drew = w2 at *
  have hc0 := HB.out.cell (i := 0) (x := vw) rfl
  have hc1 := HB.out.cell (i := 1) rfl
  have hf0 := HB.out.free 0
  have hb2 := HB.out.lt
  go_region_law (refine step_append_lies _ (by rfl) _ _ _ (by rfl) 0 5 i0 _ 1 1 Try.underlying83 hi0 hz0 hz1 hz2 rfl (by omega) vw _ _ (by rfl) ((HOWN.out.alloc _).drew) ⟨w2.heap.size, 0, none⟩ 1 1 [.int .u8 (R : Int)] (by rfl) (by rfl) (World.news_of_block (cs := #[.int .u8 (R : Int)]) (t := 5) (fr := (0, 0)) (heap_alloc_new w2 _)) (by simp [Value.oneCell']) (by omega) (by have := HLEN.out; unfold maxLen; omega) (by have := HLEN.out; omega) (Nat.zero_le _) (w2.heap.size + 1) (by simp) ?_; intro gg cap w1 hown1 hgrow hat hlt; have hbx := grown_box HB.out hgrow HNE.out; have hx0 := hbx.cell (i := 0) (x := vw) rfl; have hx1 := hbx.free 0)
  all_goals
    have HG := Lib.hid hgrow
    have HO1 := Lib.hid hown1
    have HA := Lib.hid hat
    have hx2 := hbx.cell (i := 1) rfl
    have hx3 := hbx.free 1
    have HBX := Lib.hid hbx
    clear hgrow hown1 hat hbx HOWN hc0 hc1 hf0
    go_wp2
    go_end0
    exact ⟨rfl, HFIN.out _ _ _ _ _ HKP.out HG.out HBX.out HO1.out HA.out⟩
end Go.Proofs.Ytjpjdecbkekcfaa

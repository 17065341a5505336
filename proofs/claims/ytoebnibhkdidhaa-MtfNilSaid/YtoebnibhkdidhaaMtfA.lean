/- Package mtf: a list in memory, and the contracts of its functions. -/
import Derived.Test.YtoebnibhkdidhaaUsdB
import Derived.Test.YtoebnibhkdidhaaMtfL
import Derived.StillTailTactics
import Derived.Laws.IdiomCopy
import Derived.Lib.BytesEntry
import Derived.Lib.Bytealg
namespace Go.Proofs.Ytoebnibhkdidhaa
open Go.RowKit

/-- a list in memory: its symbols -/
structure ListAt (w : World) (b g cap : Nat) (S : List UInt8) : Prop where
  box : Blk w b [.slice (some ⟨g, 0, none⟩) S.length cap] 83
  cell : ∀ i c, S[i]? = some c → w.cell? ⟨g, i, none⟩ = some (u8 c)
  free : ∀ i, i < S.length → w.frozen? ⟨g, i, none⟩ = false
  lt : g < w.heap.size
  ne : g ≠ b
  capl : S.length ≤ cap
  capm : cap ≤ maxLen

theorem ListAt.keep {P : Nat → Prop} {w w' : World} {b g cap : Nat} {S : List UInt8} (h : ListAt w b g cap S) (kp : Keep P w w') (hb : ¬ P b) (hg : ¬ P g) : ListAt w' b g cap S :=
  ⟨h.box.keep kp hb, fun i c hi => (World.cell?_of_block (kp.block g h.lt hg)).trans (h.cell i c hi), fun i hi => (World.frozen?_of_block (kp.block g h.lt hg)).trans (h.free i hi),
   Nat.lt_of_lt_of_le h.lt kp.size, h.ne, h.capl, h.capm⟩
theorem ListAt.below {w w' : World} {b g cap : Nat} {S : List UInt8} (h : ListAt w b g cap S) (kp : Below w.heap.size w w') : ListAt w' b g cap S :=
  h.keep (Keep.of_below kp (fun _ => False)) (fun h => h) (fun h => h)
theorem ListAt.reads {w : World} {b g cap : Nat} {S : List UInt8} (h : ListAt w b g cap S) : RBytes w (.slice (some ⟨g, 0, none⟩) S.length cap) S :=
  ⟨_, cap, rfl, h.capl, h.capm, fun _ => ⟨g, 0, rfl, h.lt, fun i x hx => by
    unfold bcells at hx
    rw [List.getElem?_map] at hx
    cases hc : S[i]? with
    | none => rw [hc] at hx; cases hx
    | some c => rw [hc] at hx; cases hx; rw [Nat.zero_add]; exact h.cell i c hc⟩⟩

/-- 's[l:h]', elements of one cell, its length and its room told -/
theorem run_slice_lh1 {P : Program} (w : World) (t e : TypeId) (ht : P.underlying t = some (.slice e)) (hs : (P.info? e).map (·.size) = some 1) (g o n cap : Nat) (kl kh : IntKind) (l h : Nat) (L H : Int) (hL : L = (l : Int)) (hH : H = (h : Int)) (h1 : l ≤ h) (h2 : h ≤ cap) (h3 : l < cap) :
    (Instr.slice t (.slice (some ⟨g, o, none⟩) n cap) (some (.int kl L)) (some (.int kh H)) none).run P w = .ok (.slice (some ⟨g, o + l, none⟩) (h - l) (cap - l)) w := by
  have he : P.elem t = e := by unfold Program.elem; rw [ht]
  subst hL
  subst hH
  cases hq : P.info? e with
  | none => rw [hq] at hs; cases hs
  | some j =>
    have hj : j.size = 1 := by rw [hq] at hs; simpa using hs
    rw [run_slice_lh w t _ n cap (by rw [he]; exact ht) kl kh (l : Int) (h : Int) (by omega) (by omega) (by omega), he]
    have hne : ¬ cap = l := by omega
    simp [sizeOf, typeInfo, hq, hj, Result.andThen, sliced, hne]
    unfold Addr.add; split <;> simp_all
theorem run_slice_h1 {P : Program} (w : World) (t e : TypeId) (ht : P.underlying t = some (.slice e)) (hs : (P.info? e).map (·.size) = some 1) (g o n cap : Nat) (kh : IntKind) (h : Nat) (H : Int) (hH : H = (h : Int)) (h2 : h ≤ cap) (h3 : 0 < cap) :
    (Instr.slice t (.slice (some ⟨g, o, none⟩) n cap) none (some (.int kh H)) none).run P w = .ok (.slice (some ⟨g, o, none⟩) h cap) w := by
  have he : P.elem t = e := by unfold Program.elem; rw [ht]
  subst hH
  cases hq : P.info? e with
  | none => rw [hq] at hs; cases hs
  | some j =>
    have hj : j.size = 1 := by rw [hq] at hs; simpa using hs
    rw [run_slice_h w t _ n cap (by rw [he]; exact ht) kh (h : Int) (by omega) (by omega), he]
    have hne : ¬ cap = 0 := by omega
    simp [sizeOf, typeInfo, hq, hj, Result.andThen, sliced, hne]
    unfold Addr.add; split <;> simp_all
/-- the same where the cut stands at the room's end: no address is told -/
theorem run_slice_end1 {P : Program} (w : World) (t e : TypeId) (ht : P.underlying t = some (.slice e)) (hs : (P.info? e).map (·.size) = some 1) (a : Option Addr) (n cap : Nat) (kl kh : IntKind) (L H : Int) (hL : L = (cap : Int)) (hH : H = (cap : Int)) :
    (Instr.slice t (.slice a n cap) (some (.int kl L)) (some (.int kh H)) none).run P w = .ok (.slice a 0 0) w := by
  have he : P.elem t = e := by unfold Program.elem; rw [ht]
  subst hL
  subst hH
  cases hq : P.info? e with
  | none => rw [hq] at hs; cases hs
  | some j =>
    have hj : j.size = 1 := by rw [hq] at hs; simpa using hs
    rw [run_slice_lh w t _ n cap (by rw [he]; exact ht) kl kh (cap : Int) (cap : Int) (by omega) (by omega) (by omega), he]
    simp [sizeOf, typeInfo, hq, hj, Result.andThen, sliced]

theorem keep_setCells {S : Nat → Prop} {w0 : World} {b : Nat} (hb : S b) : ∀ (vs : List Value) (o : Nat) (w : World), Keep S w0 w → Keep S w0 (w.setCells b o vs)
  | [], _, _, h => h
  | v :: r, o, w, h => keep_setCells hb r (o + 1) _ (keep_setCell h (a := ⟨b, o, none⟩) hb v)

/-- a list whose symbol at a place is moved to the front -/
theorem ListAt.touched {w : World} {b g cap : Nat} {S : List UInt8} {i : Nat} {c : UInt8} (h : ListAt w b g cap S) (hc : S[i]? = some c) :
    ListAt ((w.setCells g 1 (bcells (S.take i))).setCell ⟨g, 0, none⟩ (u8 c)) b g cap (touchL S i) ∧ Keep (fun j => j = g) w ((w.setCells g 1 (bcells (S.take i))).setCell ⟨g, 0, none⟩ (u8 c)) := by
  have hil : i < S.length := (List.getElem?_eq_some_iff.1 hc).1
  have hk1 := keep_setCells (S := fun j => j = g) (w0 := w) rfl (bcells (S.take i)) 1 w (Keep.refl _ _)
  have hk := keep_setCell hk1 (a := ⟨g, 0, none⟩) rfl (u8 c)
  have hlen : (bcells (S.take i)).length = i := by rw [bcells_len, List.length_take]; omega
  refine ⟨⟨?_, ?_, ?_, Nat.lt_of_lt_of_le h.lt hk.size, h.ne, by rw [touchL_len hil]; exact h.capl, h.capm⟩, hk⟩
  · rw [touchL_len hil]
    exact h.box.keep hk (fun e => h.ne e.symm)
  · intro j d hj
    rw [touchL_eq hc] at hj
    have hsome : ∀ k, k < S.length → (w.cell? ⟨g, k, none⟩).isSome = true := fun k hk => by rw [h.cell k S[k] (List.getElem?_eq_getElem hk)]; rfl
    cases j with
    | zero =>
      simp at hj
      subst hj
      have : ((w.setCells g 1 (bcells (S.take i))).cell? ⟨g, 0, none⟩) = some (u8 S[0]) := by
        rw [World.cell?_setCells_out g _ 1 w _ (fun _ _ => .inl (by simp))]
        exact h.cell 0 _ (List.getElem?_eq_getElem (by omega))
      exact World.cell?_setCell_same _ _ _ this
    | succ j =>
      rw [World.cell?_setCell_other _ _ _ _ (by simp)]
      rw [List.getElem?_cons_succ] at hj
      by_cases hji : j < i
      · have h2 := World.cell?_setCells_in g (bcells (S.take i)) 1 w (fun k hk => hsome _ (by omega)) j (by omega)
        rw [show j + 1 = 1 + j by omega, h2]
        rw [List.getElem?_append_left (by simp; omega), List.getElem?_take, if_pos hji] at hj
        congr 1
        have : (bcells (S.take i))[j]? = some (u8 d) := by unfold bcells; rw [List.getElem?_map, List.getElem?_take, if_pos hji, hj]; rfl
        exact (List.getElem?_eq_some_iff.1 this).2
      · rw [World.cell?_setCells_out g _ 1 w _ (fun _ _ => .inr (by rw [hlen]; simp; omega))]
        rw [List.getElem?_append_right (by simp; omega), List.length_take, List.getElem?_drop] at hj
        exact h.cell _ _ (by rw [← hj]; congr 1; omega)
  · intro j hj
    rw [touchL_len hil] at hj
    rw [World.frozen?_setCell, World.frozen?_setCells]
    exact h.free j hj

set_option maxHeartbeats 1000000 in
set_option maxRecDepth 100000 in
theorem touch_pos (b g cap : Nat) (S : List UInt8) (i : Nat) (c : UInt8) (w : World) (h : ListAt w b g cap S) (hc : S[i]? = some c) (hi : 0 < i) (hl : S.length ≤ 1000000) :
    Calls Try.prog 56 #[.pointer (some ⟨b, 0, none⟩), .int .i64 (i : Int)] w fun e w' => e = .returned (.int .u8 (c.toNat : Int)) ∧ ListAt w' b g cap (touchL S i) ∧ Keep (fun j => j = g) w w' := by
  have hil : i < S.length := (List.getElem?_eq_some_iff.1 hc).1
  have hcl := h.capl
  have hcm : cap ≤ 9223372036854775807 := by have := h.capm; unfold maxLen at this; omega
  have hx0 := h.box.cell (i := 0) rfl
  have hx1 : w.cell? ⟨g, i, none⟩ = some (.int .u8 (c.toNat : Int)) := h.cell i c hc
  have h1 := h.below (Below.drew (Below.refl _ _))
  have hfin := h1.touched hc
  have hkp := (Keep.of_below (Below.drew (Below.refl w.heap.size w)) (fun j => j = g)).trans hfin.2
  have hb1 : ((w.drew.setCells g 1 (bcells (S.take i))).cell? ⟨b, 0, none⟩) = some (.slice (some ⟨g, 0, none⟩) S.length cap) := by
    rw [World.cell?_setCells_out g _ 1 _ _ (fun e => absurd e.symm h.ne)]
    exact h1.box.cell (i := 0) rfl
  have hf1 : ((w.drew.setCells g 1 (bcells (S.take i))).frozen? ⟨g, 0, none⟩) = false := by rw [World.frozen?_setCells]; exact h1.free 0 (by omega)
  have hs1 : ((w.drew.setCells g 1 (bcells (S.take i))).cell? ⟨g, 0, none⟩) = some (u8 S[0]) := by
    rw [World.cell?_setCells_out g _ 1 _ _ (fun _ _ => .inl (by simp))]
    exact h1.cell 0 _ (List.getElem?_eq_getElem (by omega))
  have hlen : (bcells (S.take i)).length = i := by rw [bcells_len, List.length_take]; omega
  have hsrc : ∀ j v, (bcells (S.take i))[j]? = some v → w.drew.cell? ((⟨g, 0, none⟩ : Addr).add j) = some v := fun j v hv => by
    have hj := (List.getElem?_eq_some_iff.1 hv).1
    rw [hlen] at hj
    unfold bcells at hv
    rw [List.getElem?_map, List.getElem?_take, if_pos hj, List.getElem?_eq_getElem (by omega)] at hv
    cases hv
    rw [show (⟨g, 0, none⟩ : Addr).add j = ⟨g, 0 + j, none⟩ by unfold Addr.add; split <;> simp_all, Nat.zero_add]
    exact h1.cell j _ (List.getElem?_eq_getElem (by omega))
  have hsm : ∀ j, j < (bcells (S.take i)).length → (w.drew.cell? ⟨g, 1 + j, none⟩).isSome = true := fun j hj => by
    rw [h1.cell (1 + j) S[1 + j] (List.getElem?_eq_getElem (by omega))]; rfl
  have hfr : ∀ j, j < (bcells (S.take i)).length → w.drew.frozen? ⟨g, 1 + j, none⟩ = false := fun j hj => h1.free _ (by omega)
  have hone := bcells_one (S.take i)
  have e1 : IntKind.i64.wrap ((i : Int) + 1) = ((i + 1 : Nat) : Int) := by rw [IntWalk.i64_in _ (by omega)]; omega
  obtain ⟨n, hn⟩ : ∃ n, S.length = n := ⟨_, rfl⟩
  obtain ⟨cs, hcs⟩ : ∃ cs, bcells (S.take i) = cs := ⟨_, rfl⟩
  rw [hn] at hx0 hb1 hil hcl hl
  rw [hcs] at hb1 hf1 hs1 hlen hsrc hsm hfr hone hfin hkp
  have HF := Lib.hid hfin
  have HK := Lib.hid hkp
  have hcp := run_copy_cells (P := Try.prog) w.drew 81 81 3 5 g 1 i (cap - 1) ⟨g, 0, none⟩ i cap cs Try.underlying81 (by kernel_rfl) (by rw [hlen]; exact (Nat.min_self i).symm) hsrc hsm hfr hone
  unfold u8 at hs1
  have hsl1 := fun w => run_slice_lh1 (P := Try.prog) w 81 5 Try.underlying81 (by kernel_rfl) g 0 n cap .i64 .i64 1 (i + 1) 1 ((i : Int) + 1) rfl rfl (by omega) (by omega) (by omega)
  have hsl2 := fun w => run_slice_h1 (P := Try.prog) w 81 5 Try.underlying81 (by kernel_rfl) g 0 n cap .i64 i (i : Int) rfl (by omega) (by omega)
  rw [Nat.zero_add, Nat.add_sub_cancel] at hsl1
  clear h h1 hc hn hcs hfin hkp hlen hsrc hsm hfr hone
  go_enter Try.func56, Try.ntmps56
  go_wp2
  go_still_tail 13, (by kernel_rfl)
  change wpList _ _ _ _ _ (World.drew _)
  go_wp2
  go_ret
  exact ⟨rfl, HF.out.1, HK.out⟩

set_option maxHeartbeats 1000000 in
set_option maxRecDepth 100000 in
theorem touch_zero (b g cap : Nat) (S : List UInt8) (c : UInt8) (w : World) (h : ListAt w b g cap S) (hc : S[0]? = some c) (hl : S.length ≤ 1000000) :
    Calls Try.prog 56 #[.pointer (some ⟨b, 0, none⟩), .int .i64 0] w fun e w' => e = .returned (.int .u8 (c.toNat : Int)) ∧ ListAt w' b g cap (touchL S 0) ∧ Keep (fun j => j = g) w w' := by
  have hil : 0 < S.length := (List.getElem?_eq_some_iff.1 hc).1
  have hcl := h.capl
  have hcm : cap ≤ 9223372036854775807 := by have := h.capm; unfold maxLen at this; omega
  have hx0 := h.box.cell (i := 0) rfl
  have hx1 : w.cell? ⟨g, 0, none⟩ = some (.int .u8 (c.toNat : Int)) := h.cell 0 c hc
  have h1 := h.below (Below.drew (Below.refl _ _))
  have hfin := h1.touched hc
  have hkp := (Keep.of_below (Below.drew (Below.refl w.heap.size w)) (fun j => j = g)).trans hfin.2
  have hb1 := h1.box.cell (i := 0) rfl
  have hf1 := h1.free 0 hil
  have hs1 : w.drew.cell? ⟨g, 0, none⟩ = some (.int .u8 (c.toNat : Int)) := h1.cell 0 c hc
  have hz : w.drew.setCells g 1 (bcells (S.take 0)) = w.drew := rfl
  rw [hz] at hfin hkp
  unfold u8 at hfin hkp
  obtain ⟨n, hn⟩ : ∃ n, S.length = n := ⟨_, rfl⟩
  rw [hn] at hx0 hb1 hil hcl hl
  have HF := Lib.hid hfin
  have HK := Lib.hid hkp
  clear h h1 hc hn hfin hkp hz
  have hw1 : IntKind.i64.wrap 1 = 1 := rfl
  by_cases h1c : cap = 1
  · obtain rfl : n = 1 := by omega
    subst h1c
    have hcp := run_copy_none (P := Try.prog) w.drew 81 81 3 5 (some ⟨g, 0, none⟩) (some ⟨g, 0, none⟩) 0 0 0 1 Try.underlying81 (by kernel_rfl) rfl
    go_enter Try.func56, Try.ntmps56
    go_wp2
    go_still_tail 13, (by kernel_rfl)
    change wpList _ _ _ _ _ (World.drew _)
    go_wp2
    go_ret
    exact ⟨rfl, HF.out.1, HK.out⟩
  · have hc2 : 1 < cap := by omega
    have hsl1 := fun w => run_slice_lh1 (P := Try.prog) w 81 5 Try.underlying81 (by kernel_rfl) g 0 n cap .i64 .i64 1 1 1 1 rfl rfl (by omega) (by omega) (by omega)
    have hsl2 := fun w => run_slice_h1 (P := Try.prog) w 81 5 Try.underlying81 (by kernel_rfl) g 0 n cap .i64 0 0 rfl (by omega) (by omega)
    have hcp := run_copy_none (P := Try.prog) w.drew 81 81 3 5 (some ⟨g, 1, none⟩) (some ⟨g, 0, none⟩) 0 (cap - 1) 0 cap Try.underlying81 (by kernel_rfl) rfl
    rw [Nat.zero_add, Nat.sub_self] at hsl1
    go_enter Try.func56, Try.ntmps56
    go_wp2
    go_still_tail 13, (by kernel_rfl)
    change wpList _ _ _ _ _ (World.drew _)
    go_wp2
    go_ret
    exact ⟨rfl, HF.out.1, HK.out⟩

theorem touch_any (b g cap : Nat) (S : List UInt8) (i : Nat) (c : UInt8) (w : World) (h : ListAt w b g cap S) (hc : S[i]? = some c) (hl : S.length ≤ 1000000) :
    Calls Try.prog 56 #[.pointer (some ⟨b, 0, none⟩), .int .i64 (i : Int)] w fun e w' => e = .returned (.int .u8 (c.toNat : Int)) ∧ ListAt w' b g cap (touchL S i) ∧ Keep (fun j => j = g) w w' := by
  cases i with
  | zero => exact touch_zero b g cap S c w h hc hl
  | succ i => exact touch_pos b g cap S (i + 1) c w h hc (by omega) hl

theorem index_plc (l : List UInt8) (c : UInt8) : Lib.indexByte l c = plcI l c := by
  induction l with
  | nil => rfl
  | cons b l ih =>
    rw [Lib.indexByte, ih]
    unfold plcI plc
    rw [List.findIdx?_cons]
    cases hb : b == c with
    | true => simp
    | false =>
      cases h : l.findIdx? (fun x => x == c) with
      | none => simp
      | some k =>
        have : ((k : Int) == -1) = false := beq_eq_false_iff_ne.2 (by omega)
        simp [this]

set_option maxHeartbeats 1000000 in
set_option maxRecDepth 100000 in
theorem indexbyte_any (b g cap : Nat) (S : List UInt8) (c : UInt8) (w : World) (h : ListAt w b g cap S) :
    Calls Try.prog 57 #[.slice (some ⟨g, 0, none⟩) S.length cap, .int .u8 (c.toNat : Int)] w fun e w' => e = .returned (.int .i64 (plcI S c)) ∧ w = w' := by
  have hrun := Lib.run_indexByteSlice (P := Try.prog) w g 0 S.length cap (S.map fun c => (c.toNat : Int)) (by simp) (fun i hi => by
    rw [Nat.zero_add, List.getD_eq_getElem?_getD, List.getElem?_map, List.getElem?_eq_getElem hi]
    exact h.cell i _ (List.getElem?_eq_getElem hi)) (c.toNat : Int)
  have e1 : Lib.bytesOf (S.map fun c => (c.toNat : Int)) = S := by
    unfold Lib.bytesOf
    rw [List.map_map]
    refine (List.map_congr_left fun x _ => ?_).trans (List.map_id S)
    simp
  have e2 : ((c.toNat : Int)).toNat.toUInt8 = c := by simp
  rw [e1, e2, index_plc] at hrun
  clear h e1 e2
  go_enter Try.func57, Try.ntmps57
  go_wp2
  rw [run_callFunc_extern Try.func71 (by kernel_rfl) (by kernel_rfl) (by kernel_rfl) (e := Extern.BytealgIndexByte.indexByte) (by kernel_rfl), hrun]
  simp only [Result.andThen]
  rw [Oper.upon_value]
  go_wp2
  go_ret
  exact ⟨rfl, rfl⟩

theorem plcI_some {l : List UInt8} {c : UInt8} {k : Nat} (h : plc l c = some k) : plcI l c = k := by unfold plcI; rw [h]
theorem plcI_none {l : List UInt8} {c : UInt8} (h : plc l c = none) : plcI l c = -1 := by unfold plcI; rw [h]

theorem find_none (b g cap : Nat) (S : List UInt8) (c : UInt8) (w : World) (h : ListAt w b g cap S) (hp : plc S c = none) :
    Calls Try.prog 25 #[.pointer (some ⟨b, 0, none⟩), .int .u8 (c.toNat : Int)] w fun e w' => e = .returned (.tuple #[.int .i64 0, .int .i64 6]) ∧ w = w' := by
  have HI := Lib.hid (indexbyte_any b g cap S c w h)
  rw [plcI_none hp] at HI
  have hx0 := h.box.cell (i := 0) rfl
  obtain ⟨n, hn⟩ : ∃ n, S.length = n := ⟨_, rfl⟩
  rw [hn] at hx0 HI
  clear h hp hn
  go_enter Try.func25, Try.ntmps25
  go_wp2_with fail
  refine HI.out.mono ?_
  rintro e w1 ⟨rfl, rfl⟩
  go_wp2
  go_ret2
  exact ⟨rfl, rfl⟩

theorem find_some (b g cap : Nat) (S : List UInt8) (c : UInt8) (k : Nat) (w : World) (h : ListAt w b g cap S) (hp : plc S c = some k) (hl : S.length ≤ 1000000) :
    Calls Try.prog 25 #[.pointer (some ⟨b, 0, none⟩), .int .u8 (c.toNat : Int)] w fun e w' => e = .returned (.tuple #[.int .i64 (k : Int), .int .i64 0]) ∧ ListAt w' b g cap (touchL S k) ∧ Keep (fun j => j = g) w w' := by
  have HI := Lib.hid (indexbyte_any b g cap S c w h)
  rw [plcI_some hp] at HI
  have HT := Lib.hid (touch_any b g cap S k c w h (plc_some hp).1 hl)
  have hx0 := h.box.cell (i := 0) rfl
  have hk := (plc_some hp).2
  obtain ⟨n, hn⟩ : ∃ n, S.length = n := ⟨_, rfl⟩
  rw [hn] at hx0 HI
  clear h hp hn
  go_enter Try.func25, Try.ntmps25
  go_wp2_with fail
  refine HI.out.mono ?_
  rintro e w1 ⟨rfl, rfl⟩
  clear HI
  go_wp2_with fail
  refine HT.out.mono ?_
  rintro e w1 ⟨rfl, h2, k2⟩
  have H2 := Lib.hid h2
  have K2 := Lib.hid k2
  clear h2 k2 HT hx0
  go_wp2
  go_ret2
  exact ⟨rfl, H2.out, K2.out⟩

theorem at_no (b g cap : Nat) (S : List UInt8) (i : Int) (w : World) (h : ListAt w b g cap S) (hi : i < 0 ∨ (S.length : Int) ≤ i) :
    Calls Try.prog 24 #[.pointer (some ⟨b, 0, none⟩), .int .i64 i] w fun e w' => e = .returned (.tuple #[.int .u8 0, .int .i64 1]) ∧ w = w' := by
  have hx0 := h.box.cell (i := 0) rfl
  obtain ⟨n, hn⟩ : ∃ n, S.length = n := ⟨_, rfl⟩
  rw [hn] at hx0 hi
  clear h hn
  by_cases h0 : i < 0
  · have hd : decide (i < 0) = true := decide_eq_true h0
    clear hi h0
    go_enter Try.func24, Try.ntmps24
    go_wp2
    go_ret2
    exact ⟨rfl, rfl⟩
  · have hd : decide (i < 0) = false := decide_eq_false h0
    have hd2 : decide ((n : Int) ≤ i) = true := decide_eq_true (by omega)
    clear hi h0
    go_enter Try.func24, Try.ntmps24
    go_wp2
    go_ret2
    exact ⟨rfl, rfl⟩

theorem at_ok (b g cap : Nat) (S : List UInt8) (i : Nat) (c : UInt8) (w : World) (h : ListAt w b g cap S) (hc : S[i]? = some c) (hl : S.length ≤ 1000000) :
    Calls Try.prog 24 #[.pointer (some ⟨b, 0, none⟩), .int .i64 (i : Int)] w fun e w' => e = .returned (.tuple #[.int .u8 (c.toNat : Int), .int .i64 0]) ∧ ListAt w' b g cap (touchL S i) ∧ Keep (fun j => j = g) w w' := by
  have HT := Lib.hid (touch_any b g cap S i c w h hc hl)
  have hx0 := h.box.cell (i := 0) rfl
  have hk : i < S.length := (List.getElem?_eq_some_iff.1 hc).1
  obtain ⟨n, hn⟩ : ∃ n, S.length = n := ⟨_, rfl⟩
  rw [hn] at hx0 hk
  have hd : decide ((i : Int) < 0) = false := decide_eq_false (by omega)
  have hd2 : decide ((n : Int) ≤ (i : Int)) = false := decide_eq_false (by omega)
  have hd3 : decide (n ≤ i) = false := decide_eq_false (by omega)
  clear h hn hc
  go_enter Try.func24, Try.ntmps24
  go_wp2_with fail
  refine HT.out.mono ?_
  rintro e w1 ⟨rfl, h2, k2⟩
  have H2 := Lib.hid h2
  have K2 := Lib.hid k2
  clear h2 k2 HT hx0
  go_wp2
  go_ret2
  exact ⟨rfl, H2.out, K2.out⟩

theorem text_any (b g cap : Nat) (S : List UInt8) (w : World) (h : ListAt w b g cap S) :
    Calls Try.prog 27 #[.pointer (some ⟨b, 0, none⟩)] w fun e w' => e = .returned (.string (str S)) ∧ w = w' := by
  have hx0 := h.box.cell (i := 0) rfl
  have hst := run_string_of (P := Try.prog) (w := w) h.reads 81 9 5 Try.underlying81 Try.underlying5 Try.underlying9
  obtain ⟨n, hn⟩ : ∃ n, S.length = n := ⟨_, rfl⟩
  obtain ⟨q, hq⟩ : ∃ z, str S = z := ⟨_, rfl⟩
  rw [hn] at hx0 hst
  rw [hq] at hst ⊢
  clear h hn hq
  go_enter Try.func27, Try.ntmps27
  go_wp2
  go_ret
  exact ⟨rfl, rfl⟩

theorem len_any (b g cap : Nat) (S : List UInt8) (w : World) (h : ListAt w b g cap S) :
    Calls Try.prog 28 #[.pointer (some ⟨b, 0, none⟩)] w fun e w' => e = .returned (.int .i64 (S.length : Int)) ∧ w = w' := by
  have hx0 := h.box.cell (i := 0) rfl
  obtain ⟨n, hn⟩ : ∃ n, S.length = n := ⟨_, rfl⟩
  rw [hn] at hx0 ⊢
  clear h hn
  go_enter Try.func28, Try.ntmps28
  go_wp2
  go_ret
  exact ⟨rfl, rfl⟩

theorem mnew_no (s : ByteArray) (S : List UInt8) (w : World) (hs : s = str S) (his : isL S = false) (hl : S.length ≤ 1000000) :
    Calls Try.prog 22 #[.string s] w fun e w' => e = .returned (.tuple #[.pointer none, .int .i64 1]) ∧ Below w.heap.size w w' := by
  have HI := Lib.hid (is_any s S w hs hl)
  rw [his] at HI
  clear hs his
  go_enter Try.func22, Try.ntmps22
  go_wp2_with fail
  refine HI.out.mono ?_
  rintro e w1 ⟨rfl, hd⟩
  have hb := below_drawn hd
  clear HI hd
  go_wp2
  go_ret2
  exact ⟨rfl, hb⟩

theorem list_new (w : World) (S : List UInt8) (cap : Nat) (hcap : S.length ≤ cap) (hm : cap ≤ maxLen) (o : Obj) (ho : o = .cells #[.slice (some ⟨w.heap.size, 0, none⟩) S.length cap] 83 (0, 0)) :
    ListAt ((w.drew.alloc (.cells (bytesRow (str S) cap) 5 ((bytesRow (str S) cap).size, (bytesRow (str S) cap).size + 1))).alloc o) (w.heap.size + 1) w.heap.size cap S := by
  subst ho
  have h0 : (w.drew.alloc (.cells (bytesRow (str S) cap) 5 ((bytesRow (str S) cap).size, (bytesRow (str S) cap).size + 1))).heap[w.heap.size]? = some (.cells (bytesRow (str S) cap) 5 ((bytesRow (str S) cap).size, (bytesRow (str S) cap).size + 1)) := heap_alloc_new w.drew _
  have hsz : (w.drew.alloc (.cells (bytesRow (str S) cap) 5 ((bytesRow (str S) cap).size, (bytesRow (str S) cap).size + 1))).heap.size = w.heap.size + 1 := by rw [World.size_alloc]; rfl
  have hb := below_alloc (w.drew.alloc (.cells (bytesRow (str S) cap) 5 ((bytesRow (str S) cap).size, (bytesRow (str S) cap).size + 1))) (.cells #[.slice (some ⟨w.heap.size, 0, none⟩) S.length cap] 83 (0, 0))
  have h1 := (hb.block w.heap.size (by omega)).trans h0
  have hbl : S.length ≤ (bytesRow (str S) cap).size := by unfold bytesRow; simp [str]
  refine ⟨?_, fun i c hi => ?_, fun i hi => ?_, ?_, by omega, hcap, hm⟩
  · have := Blk.new (w.drew.alloc (.cells (bytesRow (str S) cap) 5 ((bytesRow (str S) cap).size, (bytesRow (str S) cap).size + 1))) [.slice (some ⟨w.heap.size, 0, none⟩) S.length cap] 83
    rw [hsz] at this
    exact this
  · have hi2 := (List.getElem?_eq_some_iff.1 hi).1
    have hat := bytesRow_at (str S) cap i (by simpa [str] using hi2)
    have : (str S).data[i]'(by simpa [str] using hi2) = c := by simpa [str] using (List.getElem?_eq_some_iff.1 hi).2
    rw [this] at hat
    simp only [World.cell?, h1]
    exact hat
  · simp [World.frozen?, h1]
    omega
  · have := hb.size; omega

theorem mnew_ok (s : ByteArray) (S : List UInt8) (w : World) (hs : s = str S) (his : isL S = true) (hl : S.length ≤ 1000000) :
    Calls Try.prog 22 #[.string s] w fun e w' => ∃ b g cap, e = .returned (.tuple #[.pointer (some ⟨b, 0, none⟩), .int .i64 0]) ∧ ListAt w' b g cap S ∧ w.heap.size ≤ b ∧ w.heap.size ≤ g ∧ Below w.heap.size w w' := by
  have HI := Lib.hid (is_any s S w hs hl)
  rw [his] at HI
  have hsz : s.size = S.length := by rw [hs, str_size]
  have HS := Lib.hid hs
  have HZ := Lib.hid hsz
  clear hs his hsz
  go_enter Try.func22, Try.ntmps22
  go_wp2_with fail
  refine HI.out.mono ?_
  rintro e w1 ⟨rfl, hd⟩
  have hb := below_drawn hd
  have hcv := run_bytes_of_string (P := Try.prog) w1 9 81 5 s Try.underlying9 Try.underlying81 Try.underlying5
  have hc1 := grownCap_ge w1 s.size 0 5
  have hc2 := grownCap_le_maxLen w1 s.size 0 5 (by rw [HZ.out]; unfold maxLen; omega)
  obtain ⟨cap, hcap⟩ : ∃ z, grownCap w1 s.size 0 5 = z := ⟨_, rfl⟩
  rw [hcap] at hcv hc1 hc2
  have HL := Lib.hid (list_new w1 S cap (by rw [← HZ.out]; exact hc1) hc2 _ rfl)
  rw [← HS.out, ← HZ.out] at HL
  have hsz1 := hb.size
  have hb1 := hb.trans (((Below.drew (Below.refl w.heap.size w1)).alloc (show w.heap.size ≤ w1.drew.heap.size from hsz1) (.cells (bytesRow s cap) 5 ((bytesRow s cap).size, (bytesRow s cap).size + 1))))
  obtain ⟨row, hrow⟩ : ∃ z, bytesRow s cap = z := ⟨_, rfl⟩
  rw [hrow] at hcv HL hb1
  have hb2 := hb1.alloc (by rw [World.size_alloc]; show w.heap.size ≤ w1.heap.size + 1; omega) (.cells #[.slice (some ⟨w1.heap.size, 0, none⟩) s.size cap] 83 (0, 0))
  have HB := Lib.hid hb2
  clear HI hd hb hcap hrow hb1 hb2
  go_wp2
  go_ret2
  exact ⟨_, _, _, rfl, HL.out, by omega, hsz1, HB.out⟩
end Go.Proofs.Ytoebnibhkdidhaa

/- Package delta: a reader in memory; NewReader, Done, Lens, turned, step, Step. -/
import Derived.Test.YtjpjdecbkekcfaaDelB
import Derived.Test.YtjpjdecbkekcfaaBitC
import Derived.Deep.RegionLaw
import Derived.Deep.AppendLies
namespace Go.Proofs.Ytjpjdecbkekcfaa
open Go.RowKit

/-- a reader of lengths in memory -/
structure DRAt (w : World) (p : Nat) (size now : Int) (vl : Value) (l : List Int) (wrong : Bool) : Prop where
  box : Blk w p [.int .i64 size, .int .i64 now, vl, .bool wrong] 91
  row : OwnI w 3 vl l
  ne : vl.ownBlock ≠ some p
  ok : ∀ x ∈ l, 1 ≤ x ∧ x ≤ 20
def DF (p : Nat) (vl : Value) (j : Nat) : Prop := j = p ∨ vl.ownBlock = some j
theorem DRAt.keep {S : Nat → Prop} {w w' : World} {p : Nat} {size now : Int} {vl : Value} {l : List Int} {wrong : Bool} (h : DRAt w p size now vl l wrong) (kp : Keep S w w') (hs : ∀ j, DF p vl j → ¬ S j) : DRAt w' p size now vl l wrong :=
  ⟨h.box.keep kp (hs p (.inl rfl)), h.row.keep kp (fun g hg => hs g (.inr hg)), h.ne, h.ok⟩
theorem DRAt.below {w w' : World} {p : Nat} {size now : Int} {vl : Value} {l : List Int} {wrong : Bool} (h : DRAt w p size now vl l wrong) (kp : Below w.heap.size w w') : DRAt w' p size now vl l wrong :=
  h.keep (Keep.of_below kp (fun _ => False)) (fun _ _ h => h)

/-- a reader of lengths and a reader of bits -/
structure DS (B : Nat) (G : Nat → Prop) (w : World) (p r : Nat) (size now : Int) (l : List Int) (wrong : Bool) (S : List UInt8) (d a : Nat) : Prop where
  ex : ∃ vl, DRAt w p size now vl l wrong ∧ (∀ g, vl.ownBlock = some g → Zone B G g) ∧ vl.ownBlock ≠ some r
  rd : ReaderAt w r S d a
  ne : r ≠ p
  lo : Zone B G p
  gl : ∀ j, G j → j < w.heap.size
theorem DS.below {B : Nat} {G : Nat → Prop} {w w' : World} {p r : Nat} {size now : Int} {l : List Int} {wrong : Bool} {S : List UInt8} {d a : Nat} (h : DS B G w p r size now l wrong S d a) (k : Below w.heap.size w w') : DS B G w' p r size now l wrong S d a := by
  obtain ⟨vl, h1, h2, h3⟩ := h.ex
  exact ⟨⟨vl, h1.below k, h2, h3⟩, h.rd.below k, h.ne, h.lo, fun j hj => Nat.lt_of_lt_of_le (h.gl j hj) k.size⟩
/-- the reader of bits moves -/
theorem DS.move {B : Nat} {G : Nat → Prop} {w w' : World} {p r : Nat} {size now : Int} {l : List Int} {wrong : Bool} {S S2 : List UInt8} {d a d2 a2 : Nat} (h : DS B G w p r size now l wrong S d a) (k : RDid r S2 d2 a2 w w') : DS B G w' p r size now l wrong S2 d2 a2 := by
  obtain ⟨vl, h1, h2, h3⟩ := h.ex
  refine ⟨⟨vl, h1.keep k.2 (fun j hj e => ?_), h2, h3⟩, k.1, h.ne, h.lo, fun j hj => Nat.lt_of_lt_of_le (h.gl j hj) k.2.size⟩
  have e' : j = r := e
  subst e'
  rcases hj with hj | hj
  · exact h.ne hj
  · exact h3 hj
def MayTurn (B : Nat) (G : Nat → Prop) (r j : Nat) : Prop := j = r ∨ Zone B G j

theorem dnew_ok (n : Int) (w : World) (hn : sizD n = true) :
    Calls Try.prog 43 #[.int .i64 n] w fun e w' => e = .returned (.tuple #[.pointer (some ⟨w.heap.size, 0, none⟩), .int .i64 0]) ∧ DRAt w' w.heap.size n 0 (.slice none 0 0) [] false ∧ Below w.heap.size w w' := by
  have HS := Lib.hid (dsized_any n w)
  rw [hn] at HS
  clear hn
  go_enter Try.func43, Try.ntmps43
  go_wp2_with fail
  refine HS.out.mono ?_
  rintro e w1 ⟨rfl, rfl⟩
  go_wp2
  go_ret2
  exact ⟨rfl, ⟨Blk.new w _ _, OwnI.nil _ _, by simp [Value.ownBlock], fun x hx => by cases hx⟩, below_alloc _ _⟩
theorem dnew_no (n : Int) (w : World) (hn : sizD n = false) :
    Calls Try.prog 43 #[.int .i64 n] w fun e w' => e = .returned (.tuple #[.pointer none, .int .i64 1]) ∧ w = w' := by
  have HS := Lib.hid (dsized_any n w)
  rw [hn] at HS
  clear hn
  go_enter Try.func43, Try.ntmps43
  go_wp2_with fail
  refine HS.out.mono ?_
  rintro e w1 ⟨rfl, rfl⟩
  go_wp2
  go_ret2
  exact ⟨rfl, rfl⟩

set_option maxHeartbeats 400000 in
theorem ddone_any (p : Nat) (size now : Int) (vl : Value) (l : List Int) (wrong q : Bool) (w : World) (h : DRAt w p size now vl l wrong) (hq : ((l.length : Int) == size) = q) :
    Calls Try.prog 45 #[.pointer (some ⟨p, 0, none⟩)] w fun e w' => e = .returned (.bool q) ∧ Below w.heap.size w w' := by
  obtain ⟨a, cap, rfl, -, -⟩ := Own.reads h.row
  have c0 := h.box.cell (i := 0) (x := .int .i64 size) rfl
  have c2 := h.box.cell (i := 2) (x := .slice a l.length cap) rfl
  clear h
  cases q with
  | true =>
    go_enter Try.func45, Try.ntmps45
    go_wp2
    go_quiet (fail)
    go_wp2
    go_ret
    exact ⟨rfl, below_drawn ⟨_, rfl⟩⟩
  | false =>
    go_enter Try.func45, Try.ntmps45
    go_wp2
    go_quiet (fail)
    go_wp2
    go_ret
    exact ⟨rfl, below_drawn ⟨_, rfl⟩⟩
theorem ddone_nil (w : World) : Calls Try.prog 45 #[.pointer none] w fun e w' => e = .returned (.bool false) ∧ Below w.heap.size w w' := by
  go_enter Try.func45, Try.ntmps45
  go_wp2
  go_quiet (fail)
  go_wp2
  go_ret
  exact ⟨rfl, below_drawn ⟨_, rfl⟩⟩
theorem dlens_any (p : Nat) (size now : Int) (vl : Value) (l : List Int) (wrong : Bool) (w : World) (h : DRAt w p size now vl l wrong) (hl : l.length ≤ 1000) :
    Calls Try.prog 46 #[.pointer (some ⟨p, 0, none⟩)] w fun e w' => ∃ v, e = .returned v ∧ RInts w' v l ∧ FreshV w.heap.size v ∧ Below w.heap.size w w' := by
  have hr : RInts w vl l := h.row.reads (fun x hx => by have := h.ok x hx; omega)
  have HC := Lib.hid (clone_any vl l w (by omega) hr)
  obtain ⟨a, cap, rfl, -, -⟩ := hr.shape
  have c2 := h.box.cell (i := 2) (x := .slice a l.length cap) rfl
  clear h hr
  go_enter Try.func46, Try.ntmps46
  go_wp2_with fail
  refine HC.out.mono ?_
  rintro e w1 ⟨v, rfl, hv, hf, hb⟩
  have HV := Lib.hid hv
  have HF := Lib.hid hf
  have HB := Lib.hid hb
  obtain ⟨a3, c3, rfl, -, -⟩ := hv.shape
  clear HC hv hf hb c2
  go_wp2
  go_ret
  exact ⟨_, rfl, HV.out, HF.out, HB.out⟩
theorem dlens_nil (w : World) : Calls Try.prog 46 #[.pointer none] w fun e w' => e = .returned (.slice none 0 0) ∧ w = w' := by
  go_enter Try.func46, Try.ntmps46
  go_wp2
  go_ret
  exact ⟨rfl, rfl⟩

theorem dturned_any (p : Nat) (size now : Int) (vl : Value) (l : List Int) (wrong : Bool) (n : Int) (w : World) (h : DRAt w p size now vl l wrong) :
    Calls Try.prog 77 #[.pointer (some ⟨p, 0, none⟩), .int .i64 n] w fun e w' => e = .returned (.int .i64 (if okD n then 0 else 22)) ∧ DRAt w' p size (if okD n then n else now) vl l (if okD n then wrong else true) ∧ Keep (fun j => j = p) w w' := by
  have HL := Lib.hid (dlength_any n w)
  have c1 := h.box.cell (i := 1) (x := .int .i64 now) rfl
  have c3 := h.box.cell (i := 3) (x := .bool wrong) rfl
  have f1 := h.box.free 1
  have f3 := h.box.free 3
  obtain ⟨q, hq⟩ : ∃ z, okD n = z := ⟨_, rfl⟩
  rw [hq] at HL ⊢
  clear hq
  cases q with
  | true =>
    have HK := Lib.hid (keep_setCell (S := fun j => j = p) (Keep.refl _ w) (a := ⟨p, 1, none⟩) rfl (.int .i64 n))
    have HD := Lib.hid (show DRAt (w.setCell ⟨p, 1, none⟩ (.int .i64 n)) p size n vl l wrong from ⟨h.box.set 1 _, h.row.keep HK.out (fun g hg e => h.ne (by have e' : g = p := e; rw [hg, e'])), h.ne, h.ok⟩)
    clear h
    go_enter Try.func77, Try.ntmps77
    go_wp2_with fail
    refine HL.out.mono ?_
    rintro e w1 ⟨rfl, rfl⟩
    go_wp2
    go_ret
    exact ⟨rfl, HD.out, HK.out⟩
  | false =>
    have HK := Lib.hid (keep_setCell (S := fun j => j = p) (Keep.refl _ w) (a := ⟨p, 3, none⟩) rfl (.bool true))
    have HD := Lib.hid (show DRAt (w.setCell ⟨p, 3, none⟩ (.bool true)) p size now vl l true from ⟨h.box.set 3 _, h.row.keep HK.out (fun g hg e => h.ne (by have e' : g = p := e; rw [hg, e'])), h.ne, h.ok⟩)
    clear h
    go_enter Try.func77, Try.ntmps77
    go_wp2_with fail
    refine HL.out.mono ?_
    rintro e w1 ⟨rfl, rfl⟩
    go_wp2
    go_ret
    exact ⟨rfl, HD.out, HK.out⟩
/-- turned, of the two readers -/
theorem dturned_ds (B : Nat) (G : Nat → Prop) (p r : Nat) (size now : Int) (l : List Int) (wrong : Bool) (S : List UInt8) (d a : Nat) (n : Int) (w : World) (h : DS B G w p r size now l wrong S d a) :
    Calls Try.prog 77 #[.pointer (some ⟨p, 0, none⟩), .int .i64 n] w fun e w' => e = .returned (.int .i64 (if okD n then 0 else 22)) ∧ DS B G w' p r size (if okD n then n else now) l (if okD n then wrong else true) S d a ∧ Keep (MayTurn B G r) w w' := by
  obtain ⟨vl, h1, h2, h3⟩ := h.ex
  refine (dturned_any p size now vl l wrong n w h1).mono ?_
  rintro e w' ⟨rfl, hd, hk⟩
  exact ⟨rfl, ⟨⟨vl, hd, h2, h3⟩, h.rd.keep hk (fun e => h.ne e), h.ne, h.lo, fun j hj => Nat.lt_of_lt_of_le (h.gl j hj) hk.size⟩, hk.mono (fun j _ e => .inr (by have e' : j = p := e; rw [e']; exact h.lo))⟩

theorem keep_grown {w w' : World} {r : Option Nat} (h : w.grownBy w' r) : Keep (fun k => r = some k) w w' :=
  ⟨h.os, h.tape, h.output, h.size, fun k hk hs => h.block k hk (fun e => hs e.symm)⟩
/-- behind the append -/
theorem ds_added {B : Nat} {G : Nat → Prop} {w w2 w3 w4 : World} {p r gg cap : Nat} {size now : Int} {vl : Value} {l : List Int} {S : List UInt8} {d a : Nat} (h1 : DRAt w p size now vl l false) (h2 : ∀ g, vl.ownBlock = some g → Zone B G g) (h3 : vl.ownBlock ≠ some r) (hrd : ReaderAt w r S d a) (hne : r ≠ p) (hlo : Zone B G p) (hgl : ∀ j, G j → j < w.heap.size) (hB : B ≤ w.heap.size) (hn : 1 ≤ now ∧ now ≤ 20)
    (hk : Below w.heap.size w w2) (hw3 : Below w2.heap.size w2 w3) (hg : w3.grownBy w4 vl.ownBlock) (ho : w4.ownsRow 0 3 1 (.slice (some ⟨gg, 0, none⟩) (l.length + 1) cap) (l.length + 1) (l.map (Value.int .i64) ++ [.int .i64 now])) (ha : vl.ownBlock = some gg ∨ w2.heap.size ≤ gg) :
    DS B G (w4.setCell ⟨p, 2, none⟩ (.slice (some ⟨gg, 0, none⟩) (l.length + 1) cap)) p r size now (l ++ [now]) false S d a ∧ Keep (MayTurn B G r) w (w4.setCell ⟨p, 2, none⟩ (.slice (some ⟨gg, 0, none⟩) (l.length + 1) cap)) := by
  have hp0 := h1.box.lt
  have hr0 := hrd.box.lt
  have hsz := hk.size
  have hgp : gg ≠ p := by
    rintro rfl
    rcases ha with ha | ha
    · exact h1.ne ha
    · omega
  have hgr : gg ≠ r := by
    rintro rfl
    rcases ha with ha | ha
    · exact h3 ha
    · omega
  have b3 := below_two hk hw3
  have kg := keep_grown hg
  have kp : Keep (fun j => j = p) w4 (w4.setCell ⟨p, 2, none⟩ (.slice (some ⟨gg, 0, none⟩) (l.length + 1) cap)) := keep_setCell (S := fun j => j = p) (Keep.refl _ _) rfl _
  have hbx := ((h1.box.below b3).keep kg h1.ne).set 2 (.slice (some ⟨gg, 0, none⟩) (l.length + 1) cap)
  refine ⟨⟨⟨.slice (some ⟨gg, 0, none⟩) (l.length + 1) cap, ⟨hbx, ?_, ?_, ?_⟩, ?_, ?_⟩, ((hrd.below b3).keep kg h3).keep kp hne, hne, hlo, fun j hj => Nat.lt_of_lt_of_le (hgl j hj) (Nat.le_trans b3.size (Nat.le_trans kg.size kp.size))⟩, ?_⟩
  · have ho2 : Own w4 3 1 (.slice (some ⟨gg, 0, none⟩) (l.length + 1) cap) (l.length + 1) (l.map (Value.int .i64) ++ [.int .i64 now]) := ho
    have := ho2.keep kp (fun g hg e => by simp [Value.ownBlock] at hg; have e' : g = p := e; omega)
    unfold OwnI
    rw [List.length_append, List.length_singleton, List.map_append]
    exact this
  · intro e
    simp [Value.ownBlock] at e
    exact hgp e
  · intro x hx
    rcases List.mem_append.1 hx with hx | hx
    · exact h1.ok x hx
    · rw [List.mem_singleton] at hx; rw [hx]; exact hn
  · intro g hg
    simp [Value.ownBlock] at hg
    subst hg
    rcases ha with ha | ha
    · exact h2 _ ha
    · exact ⟨by omega, fun hG => by have := hgl _ hG; omega⟩
  · intro e
    simp [Value.ownBlock] at e
    exact hgr e
  · refine ((Keep.of_below b3 _).trans (kg.mono (fun j _ e => .inr (h2 j e)))).trans (kp.mono (fun j _ e => .inr (by have e' : j = p := e; rw [e']; exact hlo)))
end Go.Proofs.Ytjpjdecbkekcfaa

/- Package window: a meter in memory, and the contracts of its functions. -/
import Derived.Test.YtfphdcfbkknpbaaSame
namespace Go.Proofs.Ytfphdcfbkknpbaa
open Go.RowKit

/-- where a meter's parts lie -/
structure MB where
  b : Nat
  bq : Nat
  bc : Nat
  bt : Nat

/-- A meter in memory: its span, its tick, its quotas, what was charged in the window, and ever. -/
structure MeterAt (w : World) (m : MB) (span at_ : Int) (Q C T : List Int) : Prop where
  box : ∃ vq, Blk w m.b [.int .i64 span, .int .i64 at_, vq, .slice (some ⟨m.bc, 0, none⟩) Q.length Q.length, .slice (some ⟨m.bt, 0, none⟩) Q.length Q.length] 82 ∧
    RInts w vq Q ∧ (∀ g, vq.ownBlock = some g → g = m.bq)
  blc : Blk w m.bc (C.map (Value.int .i64)) 3
  blt : Blk w m.bt (T.map (Value.int .i64)) 3
  lenC : C.length = Q.length
  lenT : T.length = Q.length
  n1 : m.b ≠ m.bq
  n2 : m.b ≠ m.bc
  n3 : m.b ≠ m.bt
  n4 : m.bq ≠ m.bc
  n5 : m.bq ≠ m.bt
  n6 : m.bc ≠ m.bt
  lq : m.bq < w.heap.size
  q0 : 0 < Q.length
  q16 : Q.length ≤ 16
  mayQ : mayL Q = true

theorem MeterAt.keep {S : Nat → Prop} {w w' : World} {m : MB} {span at_ : Int} {Q C T : List Int} (h : MeterAt w m span at_ Q C T) (k : Keep S w w')
    (h1 : ¬ S m.b) (h2 : ¬ S m.bq) (h3 : ¬ S m.bc) (h4 : ¬ S m.bt) : MeterAt w' m span at_ Q C T := by
  obtain ⟨vq, hb, hr, hf⟩ := h.box
  exact ⟨⟨vq, hb.keep k h1, hr.keep k (fun b hb hs => h2 (by rw [← hf b hb]; exact hs)), hf⟩, h.blc.keep k h3, h.blt.keep k h4, h.lenC, h.lenT, h.n1, h.n2, h.n3, h.n4, h.n5, h.n6,
    Nat.lt_of_lt_of_le h.lq k.size, h.q0, h.q16, h.mayQ⟩
theorem MeterAt.below {w w' : World} {m : MB} {span at_ : Int} {Q C T : List Int} (h : MeterAt w m span at_ Q C T) (k : Below w.heap.size w w') : MeterAt w' m span at_ Q C T :=
  h.keep (Keep.of_below k (fun _ => False)) (fun h => h) (fun h => h) (fun h => h) (fun h => h)

theorem wmay_any (n : Int) (w : World) : Calls Try.prog 58 #[.int .i64 n] w fun e w' => e = .returned (.bool (decide (0 ≤ n) && decide (n ≤ 1099511627776))) ∧ w = w' := by
  by_cases h1 : 0 ≤ n
  · by_cases h2 : n ≤ 1099511627776
    · go_enter Try.func58, Try.ntmps58
      go_wp2
      go_ret
      exact ⟨ret_bool (by simp [h1, h2]), rfl⟩
    · go_enter Try.func58, Try.ntmps58
      go_wp2
      go_ret
      exact ⟨ret_bool (by simp; omega), rfl⟩
  · go_enter Try.func58, Try.ntmps58
    go_wp2
    go_ret
    exact ⟨ret_bool (by simp; omega), rfl⟩

theorem wnew1_any (n : Int) (w : World) : Calls Try.prog 57 #[.int .i64 n] w fun e w' => e = .returned (.bool (wrong n)) ∧ w = w' := by
  go_enter Try.func57, Try.ntmps57
  go_wp2_with fail
  refine (wmay_any _ _).mono ?_
  rintro e w' ⟨rfl, rfl⟩
  go_wp2
  go_ret
  exact ⟨ret_bool (by unfold wrong; simp), rfl⟩

theorem wnew1_enters (args : Array Value) (w : World) : (callFunc 57 args).run Try.prog w = .ok (.enter 57 args) w :=
  enter_of Try.func57 (by kernel_rfl) rfl args w

/-- a meter that was made just now -/
def MeterMade (w : World) (span : Int) (Q : List Int) (b : Nat) (w' : World) : Prop :=
  ∃ m : MB, m.b = b ∧ MeterAt w' m span 0 Q (List.replicate Q.length 0) (List.replicate Q.length 0) ∧ Below w.heap.size w w' ∧ w.heap.size ≤ m.b ∧ w.heap.size ≤ m.bq ∧ w.heap.size ≤ m.bc ∧ w.heap.size ≤ m.bt

theorem meter_close {w W' : World} {a1 : Option Addr} {cap1 x y b : Nat} {Q : List Int} {span : Int} (box : Obj)
    (hbox : box = .cells #[.int .i64 span, .int .i64 0, .slice a1 Q.length cap1, .slice (some ⟨x, 0, none⟩) Q.length Q.length, .slice (some ⟨y, 0, none⟩) Q.length Q.length] 82 (0, 0))
    (hb : b = W'.heap.size) (hx : Blk W' x (List.replicate Q.length (.int .i64 0)) 3) (hy : Blk W' y (List.replicate Q.length (.int .i64 0)) 3) (hxy : x ≠ y)
    (hr : RInts W' (.slice a1 Q.length cap1) Q) (hgx : (Value.slice a1 Q.length cap1).ownBlock ≠ some x) (hgy : (Value.slice a1 Q.length cap1).ownBlock ≠ some y) (hf : FreshV w.heap.size (.slice a1 Q.length cap1))
    (h1 : w.heap.size ≤ x) (h2 : w.heap.size ≤ y) (hbel : Below w.heap.size w W') (q0 : 0 < Q.length) (q16 : Q.length ≤ 16) (hm : mayL Q = true) : MeterMade w span Q b (W'.alloc box) := by
  subst hbox
  subst hb
  obtain ⟨g, off, x0, rfl, hg, _⟩ := hr.at q0
  have hal := below_alloc W' (.cells #[.int .i64 span, .int .i64 0, .slice (some ⟨g, off, none⟩) Q.length cap1, .slice (some ⟨x, 0, none⟩) Q.length Q.length, .slice (some ⟨y, 0, none⟩) Q.length Q.length] 82 (0, 0))
  have hxl := hx.lt
  have hyl := hy.lt
  have hgx' : g ≠ x := fun e => hgx (by simp [Value.ownBlock, e])
  have hgy' : g ≠ y := fun e => hgy (by simp [Value.ownBlock, e])
  have hg2 : w.heap.size ≤ g := hf g rfl
  have hsz := hbel.size
  refine ⟨⟨W'.heap.size, g, x, y⟩, rfl, ⟨⟨.slice (some ⟨g, off, none⟩) Q.length cap1, Blk.new W' _ _, hr.below hal, fun g' h => by simpa [Value.ownBlock] using h.symm⟩, ?_, ?_, by simp, by simp, ?_, ?_, ?_, hgx', hgy', hxy, ?_, q0, q16, hm⟩, below_two hbel hal, hsz, hg2, h1, h2⟩
  · have := hx.below hal
    simpa using this
  · have := hy.below hal
    simpa using this
  · show W'.heap.size ≠ g; omega
  · show W'.heap.size ≠ x; omega
  · show W'.heap.size ≠ y; omega
  · simp; omega

theorem zblk (w : World) (n : Nat) (z : Value) (t : TypeId) (b : Nat) (hb : b = w.heap.size) : Blk (w.alloc (.cells (Array.replicate n z) t (0, 0))) b (List.replicate n z) t := by
  subst hb
  have := Blk.new w (List.replicate n z) t
  simpa using this

theorem own_lt {w : World} {a : Option Addr} {n cap : Nat} {l : List Int} (h : RInts w (.slice a n cap) l) (hn : 0 < n) : ∀ g, (Value.slice a n cap).ownBlock = some g → g < w.heap.size := by
  obtain ⟨g, off, x0, rfl, hg, _⟩ := h.at hn
  intro g' h'
  simp [Value.ownBlock] at h'
  omega

theorem meter_A {w w1 : World} {a1 : Option Addr} {cap1 x y b : Nat} {Q : List Int} {span : Int} (box : Obj) (hb1 : Below w.drew.heap.size w.drew w1) (hr1 : RInts w1 (.slice a1 Q.length cap1) Q) (hf1 : FreshV w.drew.heap.size (.slice a1 Q.length cap1))
    (hbox : box = .cells #[.int .i64 span, .int .i64 0, .slice a1 Q.length cap1, .slice (some ⟨x, 0, none⟩) Q.length Q.length, .slice (some ⟨y, 0, none⟩) Q.length Q.length] 82 (0, 0))
    (hxy : (x = w1.heap.size ∧ y = w1.heap.size + 1) ∨ (x = w1.heap.size + 1 ∧ y = w1.heap.size)) (hb : b = w1.heap.size + 1 + 1) (q0 : 0 < Q.length) (q16 : Q.length ≤ 16) (hm : mayL Q = true) :
    MeterMade w span Q b (((w1.alloc (.cells (Array.replicate Q.length (.int .i64 0)) 3 (0, 0))).alloc (.cells (Array.replicate Q.length (.int .i64 0)) 3 (0, 0))).alloc box) := by
  have hbw : Below w.heap.size w w1 := (Below.drew (Below.refl _ w)).trans hb1
  have k1 := below_alloc w1 (.cells (Array.replicate Q.length (.int .i64 0)) 3 (0, 0))
  have k2 := below_alloc (w1.alloc (.cells (Array.replicate Q.length (.int .i64 0)) 3 (0, 0))) (.cells (Array.replicate Q.length (.int .i64 0)) 3 (0, 0))
  have p1 := (zblk w1 Q.length (.int .i64 0) 3 w1.heap.size rfl).below k2
  have p2 := zblk (w1.alloc (.cells (Array.replicate Q.length (.int .i64 0)) 3 (0, 0))) Q.length (.int .i64 0) 3 (w1.heap.size + 1) (by simp)
  have hl := own_lt hr1 q0
  have hs := hbw.size
  have hr := (hr1.below k1).below k2
  have hbb := below_two (below_two hbw k1) k2
  rcases hxy with ⟨rfl, rfl⟩ | ⟨rfl, rfl⟩
  · exact meter_close box hbox (by simp [hb]) p1 p2 (by omega) hr (fun e => by have := hl _ e; omega) (fun e => by have := hl _ e; omega) hf1 (by omega) (by omega) hbb q0 q16 hm
  · exact meter_close box hbox (by simp [hb]) p2 p1 (by omega) hr (fun e => by have := hl _ e; omega) (fun e => by have := hl _ e; omega) hf1 (by omega) (by omega) hbb q0 q16 hm

theorem meter_B {w w1 : World} {a1 : Option Addr} {cap1 x y b : Nat} {Q : List Int} {span : Int} (box : Obj)
    (hb1 : Below (w.alloc (.cells (Array.replicate Q.length (.int .i64 0)) 3 (0, 0))).drew.heap.size (w.alloc (.cells (Array.replicate Q.length (.int .i64 0)) 3 (0, 0))).drew w1)
    (hr1 : RInts w1 (.slice a1 Q.length cap1) Q) (hf1 : FreshV (w.alloc (.cells (Array.replicate Q.length (.int .i64 0)) 3 (0, 0))).drew.heap.size (.slice a1 Q.length cap1))
    (hbox : box = .cells #[.int .i64 span, .int .i64 0, .slice a1 Q.length cap1, .slice (some ⟨x, 0, none⟩) Q.length Q.length, .slice (some ⟨y, 0, none⟩) Q.length Q.length] 82 (0, 0))
    (hxy : (x = w.heap.size ∧ y = w1.heap.size) ∨ (x = w1.heap.size ∧ y = w.heap.size)) (hb : b = w1.heap.size + 1) (q0 : 0 < Q.length) (q16 : Q.length ≤ 16) (hm : mayL Q = true) :
    MeterMade w span Q b ((w1.alloc (.cells (Array.replicate Q.length (.int .i64 0)) 3 (0, 0))).alloc box) := by
  have k0 := below_alloc w (.cells (Array.replicate Q.length (.int .i64 0)) 3 (0, 0))
  have hbw : Below w.heap.size w w1 := below_two (Below.drew k0) hb1
  have k1 := below_alloc w1 (.cells (Array.replicate Q.length (.int .i64 0)) 3 (0, 0))
  have p0 : Blk (w.alloc (.cells (Array.replicate Q.length (.int .i64 0)) 3 (0, 0))).drew w.heap.size (List.replicate Q.length (.int .i64 0)) 3 := zblk w Q.length (.int .i64 0) 3 w.heap.size rfl
  have p1 := (p0.below hb1).below k1
  have p2 := zblk w1 Q.length (.int .i64 0) 3 w1.heap.size rfl
  have hl := own_lt hr1 q0
  have hs : w.heap.size + 1 ≤ w1.heap.size := by have := hb1.size; simp [World.drew] at this; exact this
  have hf : ∀ g, (Value.slice a1 Q.length cap1).ownBlock = some g → w.heap.size + 1 ≤ g := fun g hg => by have := hf1 g hg; simp [World.drew] at this; exact this
  have hr := hr1.below k1
  have hbb := below_two hbw k1
  rcases hxy with ⟨rfl, rfl⟩ | ⟨rfl, rfl⟩
  · exact meter_close box hbox (by simp [hb]) p1 p2 (by omega) hr (fun e => by have := hf _ e; omega) (fun e => by have := hl _ e; omega) (fun g hg => by have := hf g hg; omega) (by omega) (by omega) hbb q0 q16 hm
  · exact meter_close box hbox (by simp [hb]) p2 p1 (by omega) hr (fun e => by have := hl _ e; omega) (fun e => by have := hf _ e; omega) (fun g hg => by have := hf g hg; omega) (by omega) (by omega) hbb q0 q16 hm

theorem meter_C {w w1 : World} {a1 : Option Addr} {cap1 x y b : Nat} {Q : List Int} {span : Int} (box : Obj)
    (hb1 : Below ((w.alloc (.cells (Array.replicate Q.length (.int .i64 0)) 3 (0, 0))).alloc (.cells (Array.replicate Q.length (.int .i64 0)) 3 (0, 0))).drew.heap.size ((w.alloc (.cells (Array.replicate Q.length (.int .i64 0)) 3 (0, 0))).alloc (.cells (Array.replicate Q.length (.int .i64 0)) 3 (0, 0))).drew w1)
    (hr1 : RInts w1 (.slice a1 Q.length cap1) Q) (hf1 : FreshV ((w.alloc (.cells (Array.replicate Q.length (.int .i64 0)) 3 (0, 0))).alloc (.cells (Array.replicate Q.length (.int .i64 0)) 3 (0, 0))).drew.heap.size (.slice a1 Q.length cap1))
    (hbox : box = .cells #[.int .i64 span, .int .i64 0, .slice a1 Q.length cap1, .slice (some ⟨x, 0, none⟩) Q.length Q.length, .slice (some ⟨y, 0, none⟩) Q.length Q.length] 82 (0, 0))
    (hxy : (x = w.heap.size ∧ y = w.heap.size + 1) ∨ (x = w.heap.size + 1 ∧ y = w.heap.size)) (hb : b = w1.heap.size) (q0 : 0 < Q.length) (q16 : Q.length ≤ 16) (hm : mayL Q = true) :
    MeterMade w span Q b (w1.alloc box) := by
  have k0 := below_alloc w (.cells (Array.replicate Q.length (.int .i64 0)) 3 (0, 0))
  have k1 := below_alloc (w.alloc (.cells (Array.replicate Q.length (.int .i64 0)) 3 (0, 0))) (.cells (Array.replicate Q.length (.int .i64 0)) 3 (0, 0))
  have hbw : Below w.heap.size w w1 := below_two (Below.drew (below_two k0 k1)) hb1
  have q1 : Blk ((w.alloc (.cells (Array.replicate Q.length (.int .i64 0)) 3 (0, 0))).alloc (.cells (Array.replicate Q.length (.int .i64 0)) 3 (0, 0))).drew w.heap.size (List.replicate Q.length (.int .i64 0)) 3 :=
    (zblk w Q.length (.int .i64 0) 3 w.heap.size rfl).below (Below.drew k1)
  have q2 : Blk ((w.alloc (.cells (Array.replicate Q.length (.int .i64 0)) 3 (0, 0))).alloc (.cells (Array.replicate Q.length (.int .i64 0)) 3 (0, 0))).drew (w.heap.size + 1) (List.replicate Q.length (.int .i64 0)) 3 :=
    zblk (w.alloc (.cells (Array.replicate Q.length (.int .i64 0)) 3 (0, 0))) Q.length (.int .i64 0) 3 (w.heap.size + 1) (by simp)
  have p1 := q1.below hb1
  have p2 := q2.below hb1
  have hf : ∀ g, (Value.slice a1 Q.length cap1).ownBlock = some g → w.heap.size + 2 ≤ g := fun g hg => by have := hf1 g hg; simp [World.drew] at this; omega
  rcases hxy with ⟨rfl, rfl⟩ | ⟨rfl, rfl⟩
  · exact meter_close box hbox (by simp [hb]) p1 p2 (by omega) hr1 (fun e => by have := hf _ e; omega) (fun e => by have := hf _ e; omega) (fun g hg => by have := hf g hg; omega) (by omega) (by omega) hbw q0 q16 hm
  · exact meter_close box hbox (by simp [hb]) p2 p1 (by omega) hr1 (fun e => by have := hf _ e; omega) (fun e => by have := hf _ e; omega) (fun g hg => by have := hf g hg; omega) (by omega) (by omega) hbw q0 q16 hm

set_option maxHeartbeats 1000000 in
theorem wnew_ok (v : Value) (Q : List Int) (span : Int) (w : World) (hv : RInts w v Q) (hs1 : 1 ≤ span) (hs2 : span ≤ 1048576) (hq0 : 0 < Q.length) (hq : Q.length ≤ 16) (hm : mayL Q = true) :
    Calls Try.prog 17 #[.int .i64 span, v] w fun e w' => ∃ b, e = .returned (.tuple #[.pointer (some ⟨b, 0, none⟩), .int .i64 0]) ∧ MeterMade w span Q b w' := by
  have HC := Lib.hid (containsfunc_any v Q _ wrong w hv wnew1_enters wnew1_any)
  rw [any_wrong, hm] at HC
  have HM := Lib.hid hm
  have HV := Lib.hid hv
  obtain ⟨a, cap, rfl, hc1, hc2⟩ := hv.shape
  have hmk : ∀ w : World, (Instr.makeSlice 22 (.int .i64 (Q.length : Int)) (.int .i64 (Q.length : Int))).run Try.prog w = .ok (.slice (some ⟨w.heap.size, 0, none⟩) Q.length Q.length) (w.alloc (.cells (List.replicate Q.length (Value.int .i64 0)).toArray 3)) :=
    fun w => run_make_zeros w 22 3 _ 8 Try.underlying22 intinfo rfl _ _ _ (by omega) (by unfold maxLen; omega)
  have hne : ((Q.length : Int) == 0) = false := beq_eq_false_iff_ne.2 (by omega)
  clear hm hv
  go_enter Try.func17, Try.ntmps17
  go_wp2_with fail
  refine HC.out.mono ?_
  rintro e w' ⟨rfl, rfl⟩
  clear HC
  go_wp2
  go_region_with (go_at_call 59; refine (clone_any _ Q _ (by omega) (by first | exact HV.out.below (Below.drew (Below.refl _ _)) | exact HV.out.below (Below.drew (below_alloc _ _)) | exact HV.out.below (Below.drew (below_two (below_alloc _ _) (below_alloc _ _))))).mono ?_; rintro e w1 ⟨v1, rfl, hr1, hf1, hb1⟩; obtain ⟨a1, cap1, rfl, _, _⟩ := hr1.shape)
  all_goals
    go_wp2
    go_ret2
  all_goals
    first
    | exact ⟨_, rfl, meter_A _ hb1 hr1 hf1 rfl (by omega) rfl hq0 hq HM.out⟩
    | exact ⟨_, rfl, meter_B _ hb1 hr1 hf1 rfl (by omega) rfl hq0 hq HM.out⟩
    | exact ⟨_, rfl, meter_C _ hb1 hr1 hf1 rfl (by omega) rfl hq0 hq HM.out⟩
end Go.Proofs.Ytfphdcfbkknpbaa

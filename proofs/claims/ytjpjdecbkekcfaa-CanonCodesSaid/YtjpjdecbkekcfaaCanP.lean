/- Package canon: New. -/
import Derived.Test.YtjpjdecbkekcfaaCanN
import Derived.Deep.RegionHeld3
namespace Go.Proofs.Ytjpjdecbkekcfaa
open Go.RowKit

theorem codezero : ∀ w : World, (zeroValue 76).run Try.prog w = .ok (.agg #[.slice none 0 0, .slice none 0 0, .slice none 0 0, .int .i64 0, .int .i64 0, .int .i64 0, .int .i64 0, .int .i64 0, .int .i64 0, .int .i64 0, .int .i64 0, .int .i64 0, .int .i64 0, .int .i64 0, .int .i64 0, .int .i64 0, .int .i64 0, .int .i64 0, .int .i64 0, .int .i64 0, .int .i64 0, .int .i64 0, .int .i64 0, .int .i64 0, .int .i64 0, .int .i64 0, .int .i64 0, .int .i64 0, .int .i64 0, .int .i64 0, .int .i64 0, .int .i64 0, .int .i64 0, .int .i64 0, .int .i64 0, .int .i64 0, .int .i64 0, .int .i64 0, .int .i64 0, .int .i64 0, .int .i64 0, .int .i64 0, .int .i64 0, .int .i64 0, .int .i64 0, .int .i64 0]) w := fun _ => by kernel_rfl
theorem u32make : (Try.prog.info? 29).map (fun i => (i.zero, i.size, i.bytes)) = some (some (.int .u32 0), 1, 4) := by kernel_rfl

theorem cnew_size (v : Value) (l : List Int) (w : World) (hv : RInts w v l) (h : sizC l = false) : Calls Try.prog 15 #[v] w fun e w' => e = .returned (.tuple #[.pointer none, .int .i64 1]) ∧ w = w' := by
  obtain ⟨a, cap, rfl, hc1, hc2⟩ := hv.shape
  clear hv
  have hs : l.length < 3 ∨ 258 < l.length := by
    have : ¬ (3 ≤ l.length ∧ l.length ≤ 258) := fun q => by rw [sizC_iff.2 q] at h; cases h
    omega
  clear h
  by_cases h3 : l.length < 3
  · have d1 : decide ((l.length : Int) < 3) = true := decide_eq_true (by omega)
    clear hs h3
    go_enter Try.func15, Try.ntmps15
    go_wp2
    go_ret2
    exact ⟨rfl, rfl⟩
  · have d1 : decide ((l.length : Int) < 3) = false := decide_eq_false (by omega)
    have d2 : decide ((258 : Int) < (l.length : Int)) = true := decide_eq_true (by omega)
    clear hs h3
    go_enter Try.func15, Try.ntmps15
    go_wp2
    go_ret2
    exact ⟨rfl, rfl⟩
theorem cnew_no (v : Value) (l : List Int) (w : World) (hv : RInts w v l) (h : sizC l = true) (hw : wholeC l = false) : Calls Try.prog 15 #[v] w fun e w' => e = .returned (.tuple #[.pointer none, .int .i64 22]) ∧ Below w.heap.size w w' := by
  obtain ⟨h3, h258⟩ := sizC_iff.1 h
  have HW := Lib.hid (cwhole_any v l w hv h258)
  rw [hw] at HW
  obtain ⟨a, cap, rfl, hc1, hc2⟩ := hv.shape
  have d1 : decide ((l.length : Int) < 3) = false := decide_eq_false (by omega)
  have d2 : decide ((258 : Int) < (l.length : Int)) = false := decide_eq_false (by omega)
  clear hv h hw h3 h258
  go_enter Try.func15, Try.ntmps15
  go_wp2_with fail
  refine HW.out.mono ?_
  rintro e w1 ⟨rfl, hb⟩
  go_wp2
  go_ret2
  exact ⟨rfl, hb⟩

theorem cw_start {B : Nat} {w : World} {p gc : Nat} {vl : Value} {l : List Int} (hr : RInts w vl l) (hf : FreshV B vl) (hp : Blk w p (codeCells l 1 1 vl (.slice (some ⟨gc, 0, none⟩) l.length l.length) (.slice none 0 0)) 76)
    (hc : Blk w gc (List.replicate l.length (.int .u32 0)) 29) (h1 : ∀ x ∈ l, 1 ≤ x) (lo : B ≤ p ∧ B ≤ gc) (ne : gc ≠ p) (nl : vl.ownBlock ≠ some p ∧ vl.ownBlock ≠ some gc) : CodeW B w p gc 1 1 1 0 vl (.slice none 0 0) l := by
  refine ⟨hp, ?_, OwnI.nil _ _, hr, lo, ne, nl, ⟨by simp [Value.ownBlock], by simp [Value.ownBlock]⟩, fun g hg => by simp [Value.ownBlock] at hg⟩
  rw [codesA_start h1, List.map_replicate]
  exact hc

theorem rints_lt {w : World} {v : Value} {l : List Int} (h : RInts w v l) (hl : 0 < l.length) : ∀ g, v.ownBlock = some g → g < w.heap.size := by
  obtain ⟨a, cap, rfl, -, -⟩ := h.shape
  obtain ⟨b, off, x, rfl, hb, -⟩ := h.at hl
  intro g hg
  simp [Value.ownBlock] at hg
  omega
theorem zblk2 (w : World) (n : Nat) (z : Value) (T : TypeId) : Blk (w.alloc (.cells (Array.replicate n z) T (0, 0))) w.heap.size (List.replicate n z) T := by
  have := Blk.new w (List.replicate n z) T
  rwa [List.toArray_replicate] at this
theorem codebox {w : World} {l : List Int} {vl vc vo : Value} (bx : Obj) (h : bx = .cells ([vl, vc, vo] ++ List.replicate 43 (Value.int .i64 0)).toArray 76 (0, 0)) : Blk (w.alloc bx) w.heap.size (codeCells l 1 1 vl vc vo) 76 := by
  rw [h, cc_start]
  exact Blk.new w _ _
/-- the copy first -/
theorem cw_A {B : Nat} {w0 w1 : World} {a1 : Option Addr} {cap1 p gc : Nat} {l : List Int} (bx : Obj) (hB : B ≤ w0.heap.size) (hb1 : Below w0.drew.heap.size w0.drew w1) (hr1 : RInts w1 (.slice a1 l.length cap1) l) (hf1 : FreshV w0.drew.heap.size (.slice a1 l.length cap1)) (h1 : ∀ x ∈ l, 1 ≤ x) (h0 : 0 < l.length)
    (hgc : gc = w1.heap.size) (hp : p = w1.heap.size + 1) (hbx : bx = .cells ([Value.slice a1 l.length cap1, Value.slice (some ⟨gc, 0, none⟩) l.length l.length, Value.slice none 0 0] ++ List.replicate 43 (Value.int .i64 0)).toArray 76 (0, 0)) :
    CodeW B ((w1.alloc (.cells (Array.replicate l.length (.int .u32 0)) 29 (0, 0))).alloc bx) p gc 1 1 1 0 (.slice a1 l.length cap1) (.slice none 0 0) l ∧ Below w0.heap.size w0 ((w1.alloc (.cells (Array.replicate l.length (.int .u32 0)) 29 (0, 0))).alloc bx) := by
  have k1 := below_alloc w1 (.cells (Array.replicate l.length (.int .u32 0)) 29 (0, 0))
  have k2 := below_alloc (w1.alloc (.cells (Array.replicate l.length (.int .u32 0)) 29 (0, 0))) bx
  have hs : (w1.alloc (.cells (Array.replicate l.length (.int .u32 0)) 29 (0, 0))).heap.size = w1.heap.size + 1 := by simp
  have hx := codebox (w := w1.alloc (.cells (Array.replicate l.length (.int .u32 0)) 29 (0, 0))) (l := l) bx hbx
  rw [hs, ← hp] at hx
  have hc := (zblk2 w1 l.length (.int .u32 0) 29).below k2
  rw [← hgc] at hc
  have hlt := rints_lt hr1 h0
  have hb := below_two (below_drew1 w0) hb1
  have hbs := hb.size
  have hf : FreshV B (.slice a1 l.length cap1) := fun g hg => by have := hf1 g hg; have e : w0.drew.heap.size = w0.heap.size := rfl; omega
  refine ⟨cw_start ((hr1.below k1).below k2) hf hx hc h1 ⟨by omega, by omega⟩ (by omega) ⟨fun e => by have := hlt _ e; omega, fun e => by have := hlt _ e; omega⟩, below_two (below_two hb k1) k2⟩
/-- the table first -/
theorem cw_B {B : Nat} {w0 w1 : World} {a1 : Option Addr} {cap1 p gc : Nat} {l : List Int} (bx : Obj) (hB : B ≤ w0.heap.size) (hb1 : Below (w0.alloc (.cells (Array.replicate l.length (.int .u32 0)) 29 (0, 0))).drew.heap.size (w0.alloc (.cells (Array.replicate l.length (.int .u32 0)) 29 (0, 0))).drew w1) (hr1 : RInts w1 (.slice a1 l.length cap1) l)
    (hf1 : FreshV (w0.alloc (.cells (Array.replicate l.length (.int .u32 0)) 29 (0, 0))).drew.heap.size (.slice a1 l.length cap1)) (h1 : ∀ x ∈ l, 1 ≤ x) (h0 : 0 < l.length)
    (hgc : gc = w0.heap.size) (hp : p = w1.heap.size) (hbx : bx = .cells ([Value.slice a1 l.length cap1, Value.slice (some ⟨gc, 0, none⟩) l.length l.length, Value.slice none 0 0] ++ List.replicate 43 (Value.int .i64 0)).toArray 76 (0, 0)) :
    CodeW B (w1.alloc bx) p gc 1 1 1 0 (.slice a1 l.length cap1) (.slice none 0 0) l ∧ Below w0.heap.size w0 (w1.alloc bx) := by
  have k0 := below_alloc w0 (.cells (Array.replicate l.length (.int .u32 0)) 29 (0, 0))
  have k2 := below_alloc w1 bx
  have hx := codebox (w := w1) (l := l) bx hbx
  rw [← hp] at hx
  have hc := (((zblk2 w0 l.length (.int .u32 0) 29).below (below_drew1 _)).below hb1).below k2
  rw [← hgc] at hc
  have hlt := rints_lt hr1 h0
  have hb := below_two (below_two k0 (below_drew1 _)) hb1
  have hbs := hb.size
  have hs3 : (w0.alloc (.cells (Array.replicate l.length (.int .u32 0)) 29 (0, 0))).drew.heap.size = w0.heap.size + 1 := by
    show (w0.alloc (.cells (Array.replicate l.length (.int .u32 0)) 29 (0, 0))).heap.size = w0.heap.size + 1
    simp
  have hs2 : w0.heap.size + 1 ≤ w1.heap.size := by have := hb1.size; omega
  have hf2 : ∀ g, (Value.slice a1 l.length cap1).ownBlock = some g → w0.heap.size + 1 ≤ g := fun g hg => by have := hf1 g hg; omega
  refine ⟨cw_start (hr1.below k2) (fun g hg => by have := hf2 g hg; omega) hx hc h1 ⟨by omega, by omega⟩ (by omega) ⟨fun e => by have := hlt _ e; omega, fun e => by have := hf2 _ e; omega⟩, below_two hb k2⟩

theorem wpList_append_int2 {P : Program} (wr : World) (o1 : Obj) {ops : Array Oper} {rest : List Oper} {o : Oper} {a : Act} {Q : Exit → Act → World → Prop}
    (hg : o.guard = none) (s x : Operand) (t : TypeId) (hop : o.op = Op.call { callee := Callee.builtin Builtin.append, args := #[s, x], argTypes := #[t, t] })
    (e : TypeId) (h1 : P.underlying t = some (.slice e)) (hinfo : (P.info? e).map (fun i => (i.zero, i.size, i.bytes)) = some (some (.int .i64 0), 1, 8))
    (v : Value) (l : List Int) (y : Int) (t1 : TypeId) (ho1 : o1 = .cells #[.int .i64 y] t1 (0, 0)) (nb : Nat) (hnb : nb = wr.heap.size) (hs : a.eval s = v) (hx : a.eval x = .slice (some ⟨nb, 0, none⟩) 1 1)
    (hown : OwnI wr e v l) (hl : l.length < 1000000000)
    (hK : ∀ v' w', OwnI w' e v' (l ++ [y]) → Keep (fun k => v.ownBlock = some k) wr w' → (∀ g, v'.ownBlock = some g → v.ownBlock = some g ∨ wr.heap.size ≤ g) → wpList P ops Q rest (a.put o.dst v') w') :
    wpList P ops Q (o :: rest) a (wr.alloc o1) := by
  subst hnb
  exact wpList_append_int wr o1 hg s x t hop e h1 hinfo v l y t1 ho1 hs hx hown hl hK

set_option maxHeartbeats 4000000 in
set_option maxRecDepth 100000 in
theorem cnew_any (v : Value) (l : List Int) (w : World) (hv : RInts w v l) (h : sizC l = true) (hw : wholeC l = true) : Calls Try.prog 15 #[v] w fun e w' => ∃ p, e = .returned (.tuple #[.pointer (some ⟨p, 0, none⟩), .int .i64 0]) ∧ w.heap.size ≤ p ∧ CodeAt w' p l ∧ Below w.heap.size w w' := by
  obtain ⟨h3, h258⟩ := sizC_iff.1 h
  have HW := Lib.hid (cwhole_any v l w hv h258)
  have HWH := Lib.hid hw
  rw [hw] at HW
  have HV := Lib.hid hv
  have hz := codezero
  have hmk : ∀ w : World, (Instr.makeSlice 72 (.int .i64 (l.length : Int)) (.int .i64 (l.length : Int))).run Try.prog w = .ok (.slice (some ⟨w.heap.size, 0, none⟩) l.length l.length) (w.alloc (.cells (List.replicate l.length (Value.int .u32 0)).toArray 29)) :=
    fun w => run_make_zeros w 72 29 _ 4 Try.underlying72 u32make rfl _ _ _ (by omega) (by unfold maxLen; omega)
  obtain ⟨a, cap, rfl, hc1, hc2⟩ := hv.shape
  have d1 : decide ((l.length : Int) < 3) = false := decide_eq_false (by omega)
  have d2 : decide ((258 : Int) < (l.length : Int)) = false := decide_eq_false (by omega)
  clear hv h hw
  go_enter Try.func15, Try.ntmps15
  go_wp2_with fail
  refine HW.out.mono ?_
  rintro e w0 ⟨rfl, hb0⟩
  have HV0 := Lib.hid (HV.out.below hb0)
  have HB0 := Lib.hid hb0
  clear HW hb0
  go_wp2
  go_region_with (go_at_call 53; refine (clone_any _ l _ (by omega) (by first | exact HV0.out.below (Below.drew (Below.refl _ _)) | exact HV0.out.below (Below.drew (below_alloc _ _)))).mono ?_; rintro e w1 ⟨v1, rfl, hr1, hf1, hb1⟩; obtain ⟨a1, cap1, rfl, _, _⟩ := hr1.shape)
  all_goals
    go_wp2
    have h1x : ∀ x ∈ l, 1 ≤ x := fun x hx => ((wholeC_iff.1 HWH.out).1 x hx).1
    first
      | (have q := cw_A (p := w1.heap.size + 1) (gc := w1.heap.size) _ HB0.out.size hb1 hr1 hf1 h1x (by omega) rfl rfl rfl
         obtain ⟨p, hp⟩ : ∃ z, w1.heap.size + 1 = z := ⟨_, rfl⟩
         rw [hp] at q ⊢)
      | (have q := cw_B (p := w1.heap.size) (gc := w0.heap.size) _ HB0.out.size hb1 hr1 hf1 h1x (by omega) rfl rfl rfl
         obtain ⟨p, hp⟩ : ∃ z, w1.heap.size = z := ⟨_, rfl⟩
         rw [hp] at q ⊢)
    have HQ := Lib.hid q
    have HP := Lib.hid q.1.lo.1
    clear q hp h1x hb1 hr1 hf1 hmk hz
    go_loopw [5, 6] (fun cv nv wr => ∃ (gc n : Nat) (vl vo : Value), 1 ≤ n ∧ n ≤ 21 ∧ nv = .int .i64 (n : Int) ∧ cv = .int .i64 (endC l (n - 1) : Int) ∧ Hid (CodeW w.heap.size wr p gc n n n 0 vl vo l) ∧ Hid (Below w.heap.size w wr)) (fun _ nv _ => (21 - intOf nv).toNat)
    case atStart => exact ⟨_, 1, _, _, Nat.le_refl _, by decide, rfl, rfl, HQ.out.1, HB0.out.trans (below_of HQ.out.2 HB0.out.size)⟩
    case round =>
      clear HQ
      obtain ⟨gc, n, vl, vo, hn1, hn21, rfl, rfl, HC, HB⟩ := hrel
      have hidx : idxT l n 0 = [] := rfl
      obtain ⟨L, hL⟩ : ∃ L, (ordC l (n - 1) ++ idxT l n 0).map nI = L := ⟨_, rfl⟩
      have hord := HC.out.ord
      rw [hL] at hord
      have HLL := Lib.hid (show L.length = (ordC l (n - 1)).length by rw [← hL, hidx, List.append_nil, List.length_map])
      have HLE := Lib.hid hL
      obtain ⟨ao, co, hvo, -, -, -⟩ := Own.reads hord
      subst hvo
      have HORD := Lib.hid hord
      clear hidx hL hord
      by_cases h21 : n = 21
      · subst h21
        have hb := HC.out.box.below (below_drew1 wr)
        have c2 := hb.cell (i := 2) (x := .slice ao L.length co) rfl
        have f45 := hb.free 45
        obtain ⟨u45, c45⟩ : ∃ u, wr.drew.cell? ⟨p, 45, none⟩ = some u := ⟨_, hb.cell (cc_from (i := 21) (by decide))⟩
        have HAT := Lib.hid (show CodeAt (wr.drew.setCell ⟨p, 45, none⟩ (.int .i64 (L.length : Int))) p l by
          have hb2 := hb.set 45 (.int .i64 (L.length : Int))
          have e := cc_setFrom (l := l) (k1 := 21) (k := 21) (vl := vl) (vc := .slice (some ⟨gc, 0, none⟩) l.length l.length) (vo := .slice ao L.length co) (by decide) (by decide)
          rw [show (((ordC l (21 - 1)).length : Nat) : Int) = (L.length : Int) by rw [HLL.out]] at e
          rw [show 24 + 21 = 45 from rfl] at e
          rw [e] at hb2
          have kp : Keep (fun j => j = p) wr (wr.drew.setCell ⟨p, 45, none⟩ (.int .i64 (L.length : Int))) := keep_setCell (S := fun j => j = p) (Keep.of_below (below_drew1 wr) _) rfl _
          refine ⟨vl, .slice ao L.length co, gc, hb2, ?_, ?_, HC.out.len.keep kp (fun g hg e => HC.out.nl.1 (by have e' : g = p := e; rw [hg, e']))⟩
          · have := HC.out.cod.keep kp (fun e => HC.out.ne e)
            rwa [codesA_done (fun x hx => ((wholeC_iff.1 HWH.out).1 x hx).2)] at this
          · have h2 : L = (ordC l 20).map nI := by rw [← HLE.out]; simp [idxT]
            rw [← h2]
            have hr : RInts wr (.slice ao L.length co) L := OwnI.reads HORD.out (fun x hx => by
              rw [h2] at hx
              obtain ⟨k, hk, rfl⟩ := List.mem_map.1 hx
              have := ordC_lt hk
              unfold nI
              omega)
            exact hr.keep kp (fun g hg e => HC.out.no.1 (by have e' : g = p := e; rw [hg, e'])))
        have HBE := Lib.hid (show Below w.heap.size w (wr.drew.setCell ⟨p, 45, none⟩ (.int .i64 (L.length : Int))) by
          have kp : Keep (fun j => j = p) wr (wr.drew.setCell ⟨p, 45, none⟩ (.int .i64 (L.length : Int))) := keep_setCell (S := fun j => j = p) (Keep.of_below (below_drew1 wr) _) rfl _
          exact HB.out.trans (kp.below (B := w.heap.size) HB.out.size (fun j hj e => by have e' : j = p := e; have := HP.out; omega)))
        clear hb HC HB hn1 hn21 HLL HLE HORD
        go_wp2
        go_still_tail 9, (by kernel_rfl)
        change wpList _ _ _ _ _ (World.drew _)
        go_wp2
        go_ret2
        exact ⟨_, rfl, HP.out, HAT.out, HBE.out⟩
      · obtain ⟨m, hm⟩ : ∃ m, m + 1 = n := ⟨n - 1, by omega⟩
        have HM := Lib.hid hm
        have hn20 : n ≤ 20 := by omega
        have hn20i : (n : Int) ≤ 20 := by omega
        have hnl : n < 21 := by omega
        have hnl2 : n < 22 := by omega
        have hni : (n : Int) < 21 := by omega
        have hni2 : (n : Int) < 22 := by omega
        have hn0 : (0 : Int) ≤ (n : Int) := by omega
        have hes := endC_small HWH.out (n := n - 1) (by omega)
        obtain ⟨e, he⟩ : ∃ e, endC l (n - 1) = e := ⟨_, rfl⟩
        have HEE := Lib.hid he
        rw [he] at hes
        simp only [he]
        have hew : IntKind.i64.wrap ((e : Int) * 2) = (e : Int) * 2 := IntWalk.i64_in _ (by omega)
        obtain ⟨e2, he2⟩ : ∃ z, 2 * e = z := ⟨_, rfl⟩
        have he2i : (e : Int) * 2 = (e2 : Int) := by omega
        have he2b : e2 ≤ 2097152 := by omega
        have hew2 : IntKind.i64.wrap (e2 : Int) = (e2 : Int) := IntWalk.i64_in _ (by omega)
        have HE2 := Lib.hid he2
        obtain ⟨u1, c1⟩ : ∃ u, wr.cell? ⟨p, 3 + n, none⟩ = some u := ⟨_, HC.out.box.cell (cc_first (i := n) hnl)⟩
        have f1 := HC.out.box.free (3 + n)
        have HB1 := Lib.hid (show Blk (wr.setCell ⟨p, 3 + n, none⟩ (.int .i64 (e2 : Int))) p (codeCells l (n + 1) n vl (.slice (some ⟨gc, 0, none⟩) l.length l.length) (.slice ao L.length co)) 76 by
          have hb := HC.out.box.set (3 + n) (.int .i64 (e2 : Int))
          have q := cc_setFirst (l := l) (k := n) (k2 := n) (vl := vl) (vc := .slice (some ⟨gc, 0, none⟩) l.length l.length) (vo := .slice ao L.length co) hn1 hnl
          rw [HEE.out, HE2.out] at q
          rwa [q] at hb)
        have HK1 := Lib.hid (show Keep (fun j => j = p) wr (wr.setCell ⟨p, 3 + n, none⟩ (.int .i64 (e2 : Int))) from keep_setCell (S := fun j => j = p) (Keep.refl _ wr) rfl _)
        clear hm h21 hes he he2 hn21
        go_wp2
        obtain ⟨w2, hw2⟩ : ∃ z, wr.setCell ⟨p, 3 + n, none⟩ (.int .i64 (e2 : Int)) = z := ⟨_, rfl⟩
        rw [hw2] at HB1 HK1 ⊢
        clear hw2 c1 f1
        have hb := HB1.out.below (below_drew1 w2)
        have c2 := hb.cell (i := 2) (x := .slice ao L.length co) rfl
        have f24 := hb.free (24 + n)
        obtain ⟨u24, c24⟩ : ∃ u, w2.drew.cell? ⟨p, 24 + n, none⟩ = some u := ⟨_, hb.cell (cc_from (i := n) hnl2)⟩
        have HK2 := Lib.hid (show Keep (fun j => j = p) wr (w2.drew.setCell ⟨p, 24 + n, none⟩ (.int .i64 (L.length : Int))) from HK1.out.trans (keep_setCell (S := fun j => j = p) (Keep.of_below (below_drew1 w2) _) rfl _))
        have HC2 := Lib.hid (show CodeW w.heap.size (w2.drew.setCell ⟨p, 24 + n, none⟩ (.int .i64 (L.length : Int))) p gc (n + 1) (n + 1) n 0 vl (.slice ao L.length co) l by
          have hb2 := hb.set (24 + n) (.int .i64 (L.length : Int))
          have q := cc_setFrom (l := l) (k1 := n + 1) (k := n) (vl := vl) (vc := .slice (some ⟨gc, 0, none⟩) l.length l.length) (vo := .slice ao L.length co) hn1 hnl2
          rw [← HLL.out] at q
          rw [q] at hb2
          exact ⟨hb2, HC.out.cod.keep HK2.out (fun e => HC.out.ne e), HC.out.ord.keep HK2.out (fun g hg e => HC.out.no.1 (by have e' : g = p := e; rw [hg, e'])), HC.out.len.keep HK2.out (fun g hg e => HC.out.nl.1 (by have e' : g = p := e; rw [hg, e'])), HC.out.lo, HC.out.ne, HC.out.nl, HC.out.no, HC.out.fr⟩)
        have HB2 := Lib.hid (show Below w.heap.size w (w2.drew.setCell ⟨p, 24 + n, none⟩ (.int .i64 (L.length : Int))) from HB.out.trans (HK2.out.below (B := w.heap.size) HB.out.size (fun j hj e => by have e' : j = p := e; have := HP.out; omega)))
        have HN0 := Lib.hid (show nowC l n 0 = e2 by rw [← HM.out, nowC_start, ← HE2.out, ← HEE.out, ← HM.out, Nat.add_sub_cancel])
        clear hb HB HC HB1 HK1 HK2 HLL HLE HORD
        go_wp2
        go_still_tail 10, (by kernel_rfl)
        change wpList _ _ _ _ _ (World.drew _)
        go_wp2
        go_loopw [5, 53] (fun cv iv w3 => ∃ (s : Nat) (vo2 : Value), s ≤ l.length ∧ iv = .int .i64 (s : Int) ∧ cv = .int .i64 (nowC l n s : Int) ∧ Hid (CodeW w.heap.size w3 p gc (n + 1) (n + 1) n s vl vo2 l) ∧ Hid (Below w.heap.size w w3)) (fun _ iv _ => l.length - (intOf iv).toNat)
        case atStart => exact ⟨0, _, Nat.zero_le _, rfl, by rw [HN0.out], HC2.out, HB2.out⟩
        case round =>
          clear HC2 HB2 HN0 c2 f24 c24
          obtain ⟨s, vo2, hsl, rfl, rfl, HC3, HB3⟩ := hrel
          rcases Nat.lt_or_ge s l.length with hlt | hge
          · obtain ⟨bp, offp, x, rfl, -, hx, hcx, -, -⟩ := (HV.out.below HB3.out).at hlt
            have HX := Lib.hid hx
            have hsi : (s : Int) < (l.length : Int) := by omega
            have hs0 : (0 : Int) ≤ (s : Int) := by omega
            have hk := nowC_le (l := l) (n := m) (s := s)
            have hk2 := endC_small HWH.out (n := m + 1) (by rw [HM.out]; exact hn20)
            rw [HM.out] at hk hk2
            clear hx
            by_cases hxn : x = (n : Int)
            · subst hxn
              obtain ⟨k, hkk⟩ : ∃ k, nowC l n s = k := ⟨_, rfl⟩
              have HKK := Lib.hid hkk
              rw [hkk] at hk
              simp only [hkk]
              have hkw : IntKind.u32.wrap (k : Int) = (k : Int) := IntWalk.u32_in _ (by omega)
              have hk1 : IntKind.i64.wrap ((k : Int) + 1) = (k : Int) + 1 := IntWalk.i64_in _ (by omega)
              have HN2 := Lib.hid (show nowC l n (s + 1) = k + 1 by rw [nowC_step HX.out, if_pos rfl, HKK.out])
              obtain ⟨L3, hL3⟩ : ∃ L, (ordC l (n - 1) ++ idxT l n s).map nI = L := ⟨_, rfl⟩
              have HL3 := Lib.hid hL3
              have hord := HC3.out.ord
              rw [hL3] at hord
              obtain ⟨a3, c3, hv3, -, -, -⟩ := Own.reads hord
              subst hv3
              have c1 := HC3.out.box.cell (i := 1) (x := .slice (some ⟨gc, 0, none⟩) l.length l.length) rfl
              have c2 := HC3.out.box.cell (i := 2) (x := .slice a3 L3.length c3) rfl
              have fs := HC3.out.cod.free s
              obtain ⟨us, cs⟩ : ∃ u, wr.cell? ⟨gc, s, none⟩ = some u := ⟨_, HC3.out.cod.cell (i := s) (List.getElem?_eq_getElem (by rw [List.length_map, codesA_len]; exact hlt))⟩
              have hne := HC3.out.ne
              have hne2 : ¬ p = gc := fun e => hne e.symm
              have HK4 := Lib.hid (show Keep (fun j => j = gc) wr (wr.setCell ⟨gc, s, none⟩ (.int .u32 (k : Int))) from keep_setCell (S := fun j => j = gc) (Keep.refl _ wr) rfl _)
              have hown : OwnI (wr.setCell ⟨gc, s, none⟩ (.int .u32 (k : Int))) 3 (.slice a3 L3.length c3) L3 := Own.keep hord HK4.out (fun g hg e => HC3.out.no.2 (by have e' : g = gc := e; rw [hg, e']))
              have HLN := Lib.hid (show L3.length < 1000000000 by
                rw [← HL3.out, List.length_map, List.length_append]
                have h1 := ordC_len l (n - 1)
                have h2 := idxT_len l n s
                have h3 : (n - 1) * l.length ≤ 20 * 258 := Nat.mul_le_mul (by omega) h258
                omega)
              clear hk hk2 hkk hL3 hord
              go_wp2_with (at_builtin; refine wpList_append_int2 _ _ rfl _ _ 22 rfl 3 Try.underlying22 intinfo _ L3 _ _ rfl _ (by simp) rfl rfl hown HLN.out ?_)
              intro v5 w5 hown5 hkeep5 hfresh5
              have hb5 := (HC3.out.box.keep HK4.out (fun e => hne2 e)).keep hkeep5 (fun e => HC3.out.no.1 e)
              have f25 := hb5.free 2
              have c25 := hb5.cell (i := 2) (x := .slice a3 L3.length c3) rfl
              have HB5 := Lib.hid hb5
              have HO5 := Lib.hid hown5
              have HK5 := Lib.hid hkeep5
              have HF5 := Lib.hid hfresh5
              obtain ⟨a5, c5, hv5, -, -, -⟩ := Own.reads hown5
              subst hv5
              clear hb5 hown5 hkeep5 hfresh5 hown c1 c2 fs cs
              have HS4 := Lib.hid (show (wr.setCell ⟨gc, s, none⟩ (.int .u32 (k : Int))).heap.size = wr.heap.size by simp)
              have HK6 := Lib.hid (show Keep (fun j => j = p) w5 (w5.setCell ⟨p, 2, none⟩ (.slice a5 (L3 ++ [(s : Int)]).length c5)) from keep_setCell (S := fun j => j = p) (Keep.refl _ w5) rfl _)
              have HNO := Lib.hid (show ∀ g, (Value.slice a5 (L3 ++ [(s : Int)]).length c5).ownBlock = some g → g ≠ p ∧ g ≠ gc ∧ w.heap.size ≤ g ∧ vl.ownBlock ≠ some g from fun g hg => by
                rcases HF5.out g hg with q | q
                · exact ⟨fun e => HC3.out.no.1 (by rw [q, e]), fun e => HC3.out.no.2 (by rw [q, e]), HC3.out.fr g q⟩
                · have q : wr.heap.size ≤ g := q
                  have h1 := HC3.out.box.lt
                  have h2 := HC3.out.cod.lt
                  have h3 := HB3.out.size
                  exact ⟨by omega, by omega, by omega, fun e => by have := rints_lt HC3.out.len (by omega) g e; omega⟩)
              have HC6 := Lib.hid (show CodeW w.heap.size (w5.setCell ⟨p, 2, none⟩ (.slice a5 (L3 ++ [(s : Int)]).length c5)) p gc (n + 1) (n + 1) n (s + 1) vl (.slice a5 (L3 ++ [(s : Int)]).length c5) l by
                refine ⟨HB5.out.set 2 _, ?_, ?_, ((HC3.out.len.keep HK4.out (fun g hg e => HC3.out.nl.2 (by have e' : g = gc := e; rw [hg, e']))).keep HK5.out (fun g hg e => (HC3.out.fr g e).2 hg)).keep HK6.out (fun g hg e => HC3.out.nl.1 (by have e' : g = p := e; rw [hg, e'])), HC3.out.lo, HC3.out.ne, HC3.out.nl, ⟨fun e => (HNO.out _ e).1 rfl, fun e => (HNO.out _ e).2.1 rfl⟩, fun g hg => (HNO.out g hg).2.2⟩
                · have hb := (HC3.out.cod.set s (.int .u32 (k : Int))).keep HK5.out (fun e => HC3.out.no.2 e)
                  have hb2 := hb.keep HK6.out (fun e => HC3.out.ne e)
                  rw [codesA_hit HX.out, List.map_set, HKK.out]
                  exact hb2
                · have e1 : (ordC l (n - 1) ++ idxT l n (s + 1)).map nI = L3 ++ [(s : Int)] := by
                    rw [idxT_step HX.out, if_pos rfl, ← List.append_assoc, List.map_append, HL3.out]
                    rfl
                  rw [e1]
                  exact OwnI.keep HO5.out HK6.out (fun g hg e => (HNO.out g hg).1 e))
              have HB6 := Lib.hid (show Below w.heap.size w (w5.setCell ⟨p, 2, none⟩ (.slice a5 (L3 ++ [(s : Int)]).length c5)) by
                have k1 := HB3.out.trans (HK4.out.below (B := w.heap.size) HB3.out.size (fun j hj e => by have e' : j = gc := e; have := HC3.out.lo.2; omega))
                have k2 := k1.trans (HK5.out.below (B := w.heap.size) k1.size (fun j hj e => by have := (HC3.out.fr j e).1; omega))
                exact k2.trans (HK6.out.below (B := w.heap.size) k2.size (fun j hj e => by have e' : j = p := e; have := HP.out; omega)))
              clear HB5 HO5 HK5 HF5 HNO HS4 HK6 HK4
              rw [List.length_append, List.length_singleton] at HC6 HB6
              go_wp2
              go_roundw
              case rel => exact ⟨s + 1, _, hlt, by go_num, by rw [HN2.out]; go_num, HC6.out, HB6.out⟩
              case measure => simp [intOf]; omega
            · have t1 : (x == (n : Int)) = false := beq_eq_false_iff_ne.2 hxn
              have HN2 := Lib.hid (show nowC l n (s + 1) = nowC l n s by rw [nowC_step HX.out, if_neg hxn, Nat.add_zero])
              have HC4 := Lib.hid (show CodeW w.heap.size wr p gc (n + 1) (n + 1) n (s + 1) vl vo2 l by
                have q := HC3.out
                refine ⟨q.box, ?_, ?_, q.len, q.lo, q.ne, q.nl, q.no, q.fr⟩
                · rw [codesA_miss HX.out hxn]; exact q.cod
                · rw [idxT_step HX.out, if_neg hxn, List.append_nil]; exact q.ord)
              clear hk hk2 hxn HC3
              go_wp2
              go_roundw
              case rel => exact ⟨s + 1, vo2, hlt, by go_num, by rw [HN2.out], HC4.out, HB3.out⟩
              case measure => simp [intOf]; omega
          · obtain rfl : s = l.length := by omega
            have HC4 := Lib.hid (show CodeW w.heap.size wr p gc (n + 1) (n + 1) (n + 1) 0 vl vo2 l by
              have q := HC3.out
              refine ⟨q.box, ?_, ?_, q.len, q.lo, q.ne, q.nl, q.no, q.fr⟩
              · rw [← codesA_next]; exact q.cod
              · have e1 : ordC l (n + 1 - 1) ++ idxT l (n + 1) 0 = ordC l (n - 1) ++ idxT l n l.length := by
                  rw [← HM.out]
                  simp only [Nat.add_sub_cancel]
                  rw [show idxT l (m + 1 + 1) 0 = [] from rfl, List.append_nil, ordC]
                rw [e1]; exact q.ord)
            have HN2 := Lib.hid (show nowC l n l.length = endC l (n + 1 - 1) by rw [← HM.out, nowC_end]; rfl)
            clear HC3
            go_wp2
            go_roundw
            case rel => exact ⟨gc, n + 1, vl, vo2, by omega, by omega, by go_num, by rw [HN2.out], HC4.out, HB3.out⟩
            case measure => simp [intOf]; omega
end Go.Proofs.Ytjpjdecbkekcfaa

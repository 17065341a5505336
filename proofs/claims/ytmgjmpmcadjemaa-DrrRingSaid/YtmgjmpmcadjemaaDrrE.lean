/- Package drr: many, New. -/
import Derived.Test.YtmgjmpmcadjemaaDrrD
import Derived.Deep.RegionLaw
import Derived.Deep.AppendLies
import Derived.Laws.AppendOwnNone
namespace Go.Proofs.Ytmgjmpmcadjemaa
open Go.RowKit

theorem many_any (w : World) : Calls Try.prog 56 #[] w fun e w' => ∃ b, e = .returned (.pointer (some ⟨b, 0, none⟩)) ∧ QueueAt w' b MAXI (.slice none 0 0) [] ∧ Below w.heap.size w w' ∧ w.heap.size ≤ b := by
  have HN := Lib.hid (qnew_ok MAXI w (by decide) (by decide))
  unfold MAXI at HN
  go_enter Try.func56, Try.ntmps56
  go_wp2_with fail
  refine HN.out.mono ?_
  rintro e w1 ⟨b, rfl, h1, h2, h3⟩
  clear HN
  go_wp2
  go_ret
  exact ⟨b, rfl, h1, h2, h3⟩

def badQ (n : Int) : Bool := decide (n < 1) || decide (1099511627776 < n)
theorem dnew1_any (n : Int) (w : World) : Calls Try.prog 55 #[.int .i64 n] w fun e w' => e = .returned (.bool (badQ n)) ∧ w = w' := by
  unfold badQ
  cases h1 : decide (n < 1) with
  | true =>
    go_enter Try.func55, Try.ntmps55
    go_wp2
    go_ret
    exact ⟨rfl, rfl⟩
  | false =>
    rw [Bool.false_or]
    cases h2 : decide (1099511627776 < n) with
    | true =>
      go_enter Try.func55, Try.ntmps55
      go_wp2
      go_ret
      exact ⟨rfl, rfl⟩
    | false =>
      go_enter Try.func55, Try.ntmps55
      go_wp2
      go_ret
      exact ⟨rfl, rfl⟩
theorem dnew1_enters (args : Array Value) (w : World) : (callFunc 55 args).run Try.prog w = .ok (.enter 55 args) w :=
  enter_of Try.func55 (by kernel_rfl) rfl args w

/-- may quanta be -/
def mayD (l : List Int) : Bool := !l.any badQ && (decide (0 < l.length) && decide (l.length ≤ 16))
theorem mayD_iff {l : List Int} : mayD l = true ↔ (∀ x ∈ l, 1 ≤ x ∧ x ≤ 1099511627776) ∧ 0 < l.length ∧ l.length ≤ 16 := by
  unfold mayD badQ
  rw [Bool.and_eq_true, Bool.and_eq_true, decide_eq_true_eq, decide_eq_true_eq, Bool.not_eq_true', List.any_eq_false]
  constructor
  · rintro ⟨h1, h2⟩
    exact ⟨fun x hx => by have := h1 x hx; simp at this; omega, h2⟩
  · rintro ⟨h1, h2⟩
    exact ⟨fun x hx => by have := h1 x hx; simp; omega, h2⟩

set_option maxHeartbeats 1000000 in
theorem dnew_bad (v : Value) (l : List Int) (w : World) (hv : RInts w v l) (h : mayD l = false) : Calls Try.prog 28 #[v] w fun e w' => e = .returned (.tuple #[.pointer none, .int .i64 1]) ∧ w = w' := by
  have HC := Lib.hid (containsfunc_any v l 55 badQ w hv dnew1_enters (fun x w => dnew1_any x w))
  obtain ⟨a, cap, rfl, hc1, hc2⟩ := hv.shape
  clear hv
  by_cases h0 : l.length = 0
  · have t0 : ((l.length : Int) == 0) = true := by rw [h0]; rfl
    clear h h0
    go_enter Try.func28, Try.ntmps28
    go_wp2_with fail
    refine HC.out.mono ?_
    rintro e w1 ⟨rfl, rfl⟩
    go_wp2
    go_ret2
    exact ⟨rfl, rfl⟩
  have t0 : ((l.length : Int) == 0) = false := beq_eq_false_iff_ne.2 (by omega)
  by_cases h16 : 16 < l.length
  · have t1 : decide ((16 : Int) < (l.length : Int)) = true := decide_eq_true (by omega)
    have t1' : decide (16 < l.length) = true := decide_eq_true h16
    clear h h0 h16
    go_enter Try.func28, Try.ntmps28
    go_wp2_with fail
    refine HC.out.mono ?_
    rintro e w1 ⟨rfl, rfl⟩
    go_wp2
    go_ret2
    exact ⟨rfl, rfl⟩
  have t1 : decide ((16 : Int) < (l.length : Int)) = false := decide_eq_false (by omega)
  have t1' : decide (16 < l.length) = false := decide_eq_false h16
  have hany : l.any badQ = true := by
    cases hb : l.any badQ with
    | true => rfl
    | false =>
      unfold mayD at h
      rw [hb, decide_eq_true (show 0 < l.length by omega), decide_eq_true (show l.length ≤ 16 by omega)] at h
      exact absurd h (by decide)
  rw [hany] at HC
  clear h h0 h16 hany
  go_enter Try.func28, Try.ntmps28
  go_wp2_with fail
  refine HC.out.mono ?_
  rintro e w1 ⟨rfl, rfl⟩
  go_wp2
  go_ret2
  exact ⟨rfl, rfl⟩

/-- a scheduler of the first k quanta -/
def newS (l : List Int) (k : Nat) : Sch := ⟨l.take k, List.replicate k 0, List.replicate k [], []⟩
/-- within New -/
def NewW (l : List Int) (k p rq : Nat) (w w1 : World) : Prop :=
  ∃ ow vt tb qb, DAt ow w.heap.size w1 p rq vt tb qb (newS l k) ∧ Below w.heap.size w w1

theorem tinfo : (Try.prog.info? 102).map (fun i => (i.zero, i.size, i.bytes)) = some (some (.pointer none), 1, 8) := by kernel_rfl
theorem keep_of_grown {w w' : World} {r : Option Nat} (h : w.grownBy w' r) : Keep (fun k => r = some k) w w' :=
  ⟨h.os, h.tape, h.output, h.size, fun k hk hs => h.block k hk (fun e => hs e.symm)⟩
def ptrs (tb : Nat → Nat) (n : Nat) : List Value := (List.range n).map fun i => .pointer (some ⟨tb i, 0, none⟩)
theorem news2 (y1 : World) (o1 : Obj) (u : Value) (t : TypeId) : ∀ (j : Nat) (v : Value), ([u] : List Value)[j]? = some v → ((y1.alloc o1).alloc (.cells #[u] t (0, 0))).cell? ((⟨y1.heap.size + 1, 0, none⟩ : Addr).add j) = some v := by
  intro j v hj
  match j, hj with
  | 0, hj =>
    have hb := Blk.new (y1.alloc o1) [u] t
    have hs : (y1.alloc o1).heap.size = y1.heap.size + 1 := by simp
    rw [hs] at hb
    have := hb.cell (i := 0) hj
    simpa [Addr.add] using this
theorem one2 (n : Nat) : ∀ u ∈ [Value.pointer (some ⟨n, 0, none⟩)], u.oneCell' = true := by
  intro u hu
  simp at hu
  subst hu
  rfl
theorem size2 (y1 : World) (o1 o2 : Obj) : ((y1.alloc o1).alloc o2).heap.size = y1.heap.size + 1 + 1 := by simp
theorem app_lies {ops : Array Oper} {o : Oper} {a : Act} {K : Act → World → Prop} {Q : Exit → Act → World → Prop} {E : Prop} (hgd : o.guard = none) (s x : Operand)
    (ho : o.op = .call { callee := .builtin .append, args := #[s, x], argTypes := #[99, 99] }) (y1 : World) (o1 : Obj) (av : Option Addr) (cv k : Nat) (PT : List Value)
    (hs : a.eval s = .slice av k cv) (hrow : Own y1 102 1 (.slice av k cv) k PT) (hx : a.eval x = .slice (some ⟨y1.heap.size + 1, 0, none⟩) 1 1) (hk : k < 16)
    (h : ∀ g cap w', Own w' 102 1 (.slice (some ⟨g, 0, none⟩) (k + 1) cap) (k + 1) (PT ++ [.pointer (some ⟨y1.heap.size, 0, none⟩)]) → Keep (fun j => (Value.slice av k cv).ownBlock = some j) ((y1.alloc o1).alloc (.cells #[.pointer (some ⟨y1.heap.size, 0, none⟩)] 102 (0, 0))) w' → ((Value.slice av k cv).ownBlock = some g ∨ g = y1.heap.size + 1 + 1) → K (a.put o.dst (.slice (some ⟨g, 0, none⟩) (k + 1) cap)) w') :
    if Region.wanted o (yielded ops a.tmps) = true then Oper.wp Try.prog o a ((y1.alloc o1).alloc (.cells #[.pointer (some ⟨y1.heap.size, 0, none⟩)] 102 (0, 0))) K Q else E := by
  obtain ⟨i0, hi0', hz0, hz1, hz2⟩ := info_parts tinfo
  refine step_append_lies _ hgd s x 99 ho 0 102 i0 _ 1 8 Try.underlying99 hi0' hz0 hz1 hz2 rfl Nat.one_pos (.slice av k cv) k PT hs (World.ownsRow.alloc (World.ownsRow.alloc hrow o1) _) ⟨y1.heap.size + 1, 0, none⟩ 1 1 [.pointer (some ⟨y1.heap.size, 0, none⟩)] hx rfl (news2 y1 o1 _ _) (one2 _) Nat.one_pos (by unfold maxLen; omega) (by omega) (Nat.zero_le _) (y1.heap.size + 1 + 1) (size2 _ _ _) ?_
  intro g cap w' h1 h2 h3 h4
  exact h g cap w' h1 (keep_of_grown h2) h3
/-- one tenant more -/
theorem new_step {ow tb qb : Nat → Nat} {l : List Int} {k p rq : Nat} {w0 wr y1 w4 : World} {av : Option Addr} {cv gg cap qk : Nat} {x : Int} (o1 o2 : Obj)
    (h1 : DAt ow w0.heap.size wr p rq (.slice av k cv) tb qb (newS l k)) (hk : k < l.length) (hx : l[k]? = some x) (hb0 : Below w0.heap.size w0 wr) (hby : Below wr.heap.size wr y1)
    (hqk : QueueAt y1 qk MAXI (.slice none 0 0) []) (hqle : wr.heap.size ≤ qk) (ho1 : o1 = .cells #[.pointer (some ⟨qk, 0, none⟩), .int .i64 x, .int .i64 0] 104 (0, 0))
    (hown : Own w4 102 1 (.slice (some ⟨gg, 0, none⟩) (k + 1) cap) (k + 1) (ptrs tb k ++ [.pointer (some ⟨y1.heap.size, 0, none⟩)]))
    (hgr : Keep (fun j => (Value.slice av k cv).ownBlock = some j) ((y1.alloc o1).alloc o2) w4) (hat : (Value.slice av k cv).ownBlock = some gg ∨ gg = y1.heap.size + 1 + 1) :
    NewW l (k + 1) p rq w0 (w4.setCell ⟨p, 0, none⟩ (.slice (some ⟨gg, 0, none⟩) (k + 1) cap)) := by
  subst ho1
  obtain ⟨y2, hy2⟩ : ∃ z, (y1.alloc (.cells #[.pointer (some ⟨qk, 0, none⟩), .int .i64 x, .int .i64 0] 104 (0, 0))).alloc o2 = z := ⟨_, rfl⟩
  have hsz : y2.heap.size = y1.heap.size + 1 + 1 := by rw [← hy2]; simp
  have hal1 := below_alloc y1 (.cells #[.pointer (some ⟨qk, 0, none⟩), .int .i64 x, .int .i64 0] 104 (0, 0))
  have hal2 := below_alloc (y1.alloc (.cells #[.pointer (some ⟨qk, 0, none⟩), .int .i64 x, .int .i64 0] 104 (0, 0))) o2
  have hb12 : Below y1.heap.size y1 y2 := by rw [← hy2]; exact below_two hal1 hal2
  have hbt : Blk y2 y1.heap.size [.pointer (some ⟨qk, 0, none⟩), .int .i64 x, .int .i64 0] 104 := by
    rw [← hy2]
    exact (Blk.new y1 [.pointer (some ⟨qk, 0, none⟩), .int .i64 x, .int .i64 0] 104).below hal2
  rw [hy2] at hgr
  have hqlt := hqk.box.lt
  have hws := hby.size
  have hB := h1.hB
  have hlenQ : (newS l k).Q.length = k := by show (l.take k).length = k; rw [List.length_take]; omega
  have hpl := h1.box.lt
  have hcp := h1.cp
  have hrow := h1.row
  rw [hlenQ] at hrow
  have hcv := h1.cv
  -- the whole step turns the old row's block and p alone
  have kp : Keep (fun j => j = p) w4 (w4.setCell ⟨p, 0, none⟩ (.slice (some ⟨gg, 0, none⟩) (k + 1) cap)) := keep_setCell (S := fun j => j = p) (Keep.refl _ w4) rfl _
  have hK : Keep (fun j => ow j = 1 ∨ ow j = 2) wr (w4.setCell ⟨p, 0, none⟩ (.slice (some ⟨gg, 0, none⟩) (k + 1) cap)) := by
    have a1 : Keep (fun j => ow j = 1 ∨ ow j = 2) wr y2 := Keep.of_below (below_two hby hb12) _
    refine ⟨(kp.os.trans hgr.os).trans a1.os, (kp.tape.trans hgr.tape).trans a1.tape, (kp.output.trans hgr.output).trans a1.output, Nat.le_trans a1.size (Nat.le_trans hgr.size kp.size), fun j hj hs => ?_⟩
    rw [kp.block j (Nat.lt_of_lt_of_le hj (Nat.le_trans a1.size hgr.size)) (fun e => hs (by have e' : j = p := e; rw [e']; exact .inl hcp)),
      hgr.block j (Nat.lt_of_lt_of_le hj a1.size) (fun e => hs (.inr (hcv j e))), a1.block j hj hs]
  let ow' : Nat → Nat := fun j => if j = qk then 5 + 2 * k else if j = y1.heap.size then 4 + 2 * k else if j = gg then 2 else if j < wr.heap.size then ow j else 0
  have how : ∀ j, j < wr.heap.size → ow' j = ow j := fun j hj => by
    show (if j = qk then 5 + 2 * k else if j = y1.heap.size then 4 + 2 * k else if j = gg then 2 else if j < wr.heap.size then ow j else 0) = ow j
    rw [if_neg (by omega), if_neg (by omega)]
    by_cases e : j = gg
    · rw [if_pos e]
      rcases hat with q | q
      · rw [e, hcv gg q]
      · omega
    · rw [if_neg e, if_pos hj]
  have hgg : gg ≠ p := fun e => by
    rcases hat with q | q
    · have := hcv gg q; rw [e] at this; omega
    · omega
  have hqk4 : ow' qk = 5 + 2 * k := if_pos rfl
  have htk4 : ow' y1.heap.size = 4 + 2 * k := by
    show (if y1.heap.size = qk then 5 + 2 * k else if y1.heap.size = y1.heap.size then 4 + 2 * k else _) = _
    rw [if_neg (by omega), if_pos rfl]
  have hg4 : ow' gg = 2 := by
    show (if gg = qk then 5 + 2 * k else if gg = y1.heap.size then 4 + 2 * k else if gg = gg then 2 else _) = _
    have hgl : gg ≠ qk ∧ gg ≠ y1.heap.size := by
      rcases hat with q | q
      · have := hrow.lt gg q; omega
      · omega
    rw [if_neg hgl.1, if_neg hgl.2, if_pos rfl]
  have htk : l.take (k + 1) = l.take k ++ [x] := take_snoc hx
  have kq : ∀ g, (Value.slice av k cv).ownBlock = some g → g < wr.heap.size := fun g hg => hrow.lt g hg
  have hfin : Keep (fun j => j = p ∨ (Value.slice av k cv).ownBlock = some j) y2 (w4.setCell ⟨p, 0, none⟩ (.slice (some ⟨gg, 0, none⟩) (k + 1) cap)) :=
    (hgr.mono (fun j _ e => .inr e)).trans (kp.mono (fun j _ e => .inl e))
  have nt : ¬ (y1.heap.size = p ∨ (Value.slice av k cv).ownBlock = some y1.heap.size) := by
    rintro (e | e)
    · omega
    · have := kq _ e; omega
  have nq : ¬ (qk = p ∨ (Value.slice av k cv).ownBlock = some qk) := by
    rintro (e | e)
    · omega
    · have := kq _ e; omega
  refine ⟨ow', .slice (some ⟨gg, 0, none⟩) (k + 1) cap, fun i => if i = k then y1.heap.size else tb i, fun i => if i = k then qk else qb i, ?_, ?_⟩
  · exact {
      box := by
        have b1 := (h1.box.below hby).below hb12
        have b2 := b1.keep hgr (fun e => by have := hcv p e; omega)
        exact b2.set 0 _
      row := by
        have e1 : (newS l (k + 1)).Q.length = k + 1 := by show (l.take (k + 1)).length = k + 1; rw [List.length_take]; omega
        rw [e1]
        have e2 : ((List.range (k + 1)).map fun i => Value.pointer (some ⟨if i = k then y1.heap.size else tb i, 0, none⟩)) = ptrs tb k ++ [.pointer (some ⟨y1.heap.size, 0, none⟩)] := by
          rw [List.range_succ, List.map_append]
          unfold ptrs
          congr 1
          · apply List.map_congr_left
            intro i hi
            rw [if_neg (by have := List.mem_range.1 hi; omega)]
          · simp
        rw [e2]
        exact hown.keep kp (fun g hg e => by have e' : g = p := e; simp [Value.ownBlock] at hg; omega)
      ring := h1.ring.keep hK (fun j e => by omega) how
      ten := fun i hi => by
        have hi' : i < k + 1 := by
          have e1 : (newS l (k + 1)).Q.length = k + 1 := by show (l.take (k + 1)).length = k + 1; rw [List.length_take]; omega
          omega
        by_cases e : i = k
        · subst e
          rw [if_pos rfl, if_pos rfl]
          have g1 : (newS l (i + 1)).Q.getD i 0 = x := by show (l.take (i + 1)).getD i 0 = x; rw [htk, List.getD_eq_getElem?_getD, List.getElem?_append_right (by rw [List.length_take]; omega), List.length_take, Nat.min_eq_left (by omega), Nat.sub_self]; rfl
          have g2 : (newS l (i + 1)).C.getD i 0 = 0 := by show (List.replicate (i + 1) (0 : Int)).getD i 0 = 0; rw [List.getD_eq_getElem?_getD, List.getElem?_replicate]; split <;> rfl
          have g3 : (newS l (i + 1)).J.getD i [] = [] := by show (List.replicate (i + 1) ([] : List Int)).getD i [] = []; rw [List.getD_eq_getElem?_getD, List.getElem?_replicate]; split <;> rfl
          rw [g1, g2, g3]
          exact ⟨hbt.keep hfin nt, _, (hqk.below hb12).keep hfin nq (fun g hg => by simp [Value.ownBlock] at hg), hqk4, fun g hg => by simp [Value.ownBlock] at hg⟩
        · rw [if_neg e, if_neg e]
          have hik : i < (newS l k).Q.length := by omega
          obtain ⟨t1, t2⟩ := h1.ten i hik
          have g1 : (newS l (k + 1)).Q.getD i 0 = (newS l k).Q.getD i 0 := by show (l.take (k + 1)).getD i 0 = (l.take k).getD i 0; rw [htk, List.getD_eq_getElem?_getD, List.getD_eq_getElem?_getD, List.getElem?_append_left (by rw [List.length_take]; omega)]
          have g2 : (newS l (k + 1)).C.getD i 0 = (newS l k).C.getD i 0 := by show (List.replicate (k + 1) (0 : Int)).getD i 0 = (List.replicate k (0 : Int)).getD i 0; rw [List.getD_eq_getElem?_getD, List.getD_eq_getElem?_getD, List.getElem?_replicate, List.getElem?_replicate]; split <;> split <;> rfl
          have g3 : (newS l (k + 1)).J.getD i [] = (newS l k).J.getD i [] := by show (List.replicate (k + 1) ([] : List Int)).getD i [] = (List.replicate k ([] : List Int)).getD i []; rw [List.getD_eq_getElem?_getD, List.getD_eq_getElem?_getD, List.getElem?_replicate, List.getElem?_replicate]; split <;> split <;> rfl
          rw [g1, g2, g3]
          have hct := h1.ct i hik
          exact ⟨t1.keep hK (fun e => by omega), t2.keep hK (fun j e => by omega) how⟩
      cp := by rw [how p hpl, hcp]
      cv := fun g hg => by
        simp [Value.ownBlock] at hg
        rw [← hg]
        exact hg4
      ct := fun i hi => by
        have hi' : i < k + 1 := by
          have e1 : (newS l (k + 1)).Q.length = k + 1 := by show (l.take (k + 1)).length = k + 1; rw [List.length_take]; omega
          omega
        by_cases e : i = k
        · subst e; rw [if_pos rfl]; exact htk4
        · rw [if_neg e]
          have hik : i < (newS l k).Q.length := by omega
          rw [how _ (h1.ten i hik).1.lt, h1.ct i hik]
      lo := fun j hj => by
        have hj : (if j = qk then 5 + 2 * k else if j = y1.heap.size then 4 + 2 * k else if j = gg then 2 else if j < wr.heap.size then ow j else 0) ≠ 0 := hj
        by_cases e1 : j = qk
        · omega
        rw [if_neg e1] at hj
        by_cases e2 : j = y1.heap.size
        · omega
        rw [if_neg e2] at hj
        by_cases e3 : j = gg
        · rcases hat with q | q
          · exact h1.lo j (by rw [e3, hcv gg q]; decide)
          · omega
        rw [if_neg e3] at hj
        by_cases e4 : j < wr.heap.size
        · rw [if_pos e4] at hj; exact h1.lo j hj
        · rw [if_neg e4] at hj; exact absurd rfl hj
      hB := Nat.le_trans hB hK.size
      lc := by show (List.replicate (k + 1) (0 : Int)).length = (l.take (k + 1)).length; rw [List.length_replicate, List.length_take]; omega
      lj := by show (List.replicate (k + 1) ([] : List Int)).length = (l.take (k + 1)).length; rw [List.length_replicate, List.length_take]; omega }
  · exact hb0.trans (hK.below hB (fun j hj e => by have := h1.lo j (by rcases e with e | e <;> rw [e] <;> decide); omega))

set_option maxHeartbeats 4000000 in
set_option maxRecDepth 100000 in
theorem dnew_any (v : Value) (l : List Int) (w : World) (hv : RInts w v l) (h : mayD l = true) : Calls Try.prog 28 #[v] w fun e w' => ∃ p rq, e = .returned (.tuple #[.pointer (some ⟨p, 0, none⟩), .int .i64 0]) ∧ NewW l l.length p rq w w' := by
  obtain ⟨hq, h0, h16⟩ := mayD_iff.1 h
  have HC := Lib.hid (containsfunc_any v l 55 badQ w hv dnew1_enters (fun x w => dnew1_any x w))
  have hany : l.any badQ = false := by
    unfold mayD at h
    rw [Bool.and_eq_true, Bool.not_eq_true'] at h
    exact h.1
  rw [hany] at HC
  have HV := Lib.hid hv
  obtain ⟨a, cap, rfl, hc1, hc2⟩ := hv.shape
  have t0 : ((l.length : Int) == 0) = false := beq_eq_false_iff_ne.2 (by omega)
  have t1 : decide ((16 : Int) < (l.length : Int)) = false := decide_eq_false (by omega)
  have t1' : decide (16 < l.length) = false := decide_eq_false (by omega)
  have HMN := Lib.hid many_any
  obtain ⟨i0, hi0', hz0, hz1, hz2⟩ := info_parts tinfo
  have HQ := Lib.hid hq
  clear hv h hany hq
  go_enter Try.func28, Try.ntmps28
  go_wp2_with fail
  refine HC.out.mono ?_
  rintro e w1 ⟨rfl, rfl⟩
  go_wp2_with fail
  refine (HMN.out w).mono ?_
  rintro e w1 ⟨rq, rfl, hq1, hb1, hrq⟩
  have hal := below_alloc w1 (.cells #[.slice none 0 0, .pointer (some ⟨rq, 0, none⟩)] 101 (0, 0))
  have HNW := Lib.hid (show NewW l 0 w1.heap.size rq w (w1.alloc (.cells #[.slice none 0 0, .pointer (some ⟨rq, 0, none⟩)] 101 (0, 0))) by
    have hlt := hq1.box.lt
    refine ⟨fun j => if j = w1.heap.size then 1 else if j = rq then 3 else 0, .slice none 0 0, fun _ => 0, fun _ => 0, ?_, below_two hb1 hal⟩
    exact {
      box := Blk.new w1 _ _
      row := Own.nil _ _ _
      ring := ⟨_, hq1.below hal, by show (if rq = w1.heap.size then 1 else if rq = rq then 3 else 0) = 3; rw [if_neg (by omega), if_pos rfl], fun g hg => by simp [Value.ownBlock] at hg⟩
      ten := fun i hi => absurd hi (by simp [newS])
      cp := if_pos rfl
      cv := fun g hg => by simp [Value.ownBlock] at hg
      ct := fun i hi => absurd hi (by simp [newS])
      lo := fun j hj => by
        have := hb1.size
        by_cases e1 : j = w1.heap.size
        · omega
        · rw [if_neg e1] at hj
          by_cases e2 : j = rq
          · omega
          · rw [if_neg e2] at hj; exact absurd rfl hj
      hB := (below_two hb1 hal).size
      lc := rfl
      lj := rfl })
  obtain ⟨p, hp⟩ : ∃ p, w1.heap.size = p := ⟨_, rfl⟩
  obtain ⟨wn, hwn⟩ : ∃ z, w1.alloc (.cells #[.slice none 0 0, .pointer (some ⟨rq, 0, none⟩)] 101 (0, 0)) = z := ⟨_, rfl⟩
  rw [hp, hwn] at HNW
  clear hq1 hb1 hrq hal HC
  go_wp2
  clear hp hwn
  go_loopw [26] (fun iv w2 => ∃ k, k ≤ l.length ∧ iv = .int .i64 (k : Int) ∧ Hid (NewW l k p rq w w2)) (fun iv _ => l.length - (intOf iv).toNat)
  case atStart => exact ⟨0, Nat.zero_le _, rfl, HNW.out⟩
  case round =>
    obtain ⟨k, hk, rfl, HNW2⟩ := hrel
    clear HNW
    rcases Nat.lt_or_ge k l.length with hlt | hge
    · obtain ⟨ow, vt, tb, qb, h1, hb1⟩ := HNW2.out
      obtain ⟨bq, oq, x, rfl, -, hx, hcx, -, -⟩ := (HV.out.below hb1).at hlt
      have hki : (k : Int) < (l.length : Int) := by omega
      have hk0 : (0 : Int) ≤ (k : Int) := by omega
      have c0 := h1.box.cell (i := 0) (x := vt) rfl
      have f0 := h1.box.free 0
      obtain ⟨av, cv, rfl, hcv1, hcv2⟩ := h1.shape
      have hlen : (newS l k).Q.length = k := by show (l.take k).length = k; rw [List.length_take]; omega
      rw [hlen] at c0 h1
      have hrow : Own wr 102 1 (.slice av k cv) k (ptrs tb k) := by have := h1.row; rw [hlen] at this; exact this
      have hpl := h1.box.lt
      have hne : (Value.slice av k cv).ownBlock ≠ some p := fun e => by have := h1.cv p e; have := h1.cp; omega
      have HFIN := Lib.hid (fun (y1 w4 : World) (gg cap qk : Nat) => new_step (w0 := w) (wr := wr) (y1 := y1) (w4 := w4) (gg := gg) (cap := cap) (qk := qk) (.cells #[.pointer (some ⟨qk, 0, none⟩), .int .i64 x, .int .i64 0] 104 (0, 0)) (.cells #[.pointer (some ⟨y1.heap.size, 0, none⟩)] 102 (0, 0)) h1 hlt hx hb1)
      have HROW := Lib.hid hrow
      have HBX := Lib.hid h1.box
      have HMW := Lib.hid (many_any wr.drew)
      obtain ⟨PT, hPT⟩ : ∃ z, ptrs tb k = z := ⟨_, rfl⟩
      rw [hPT] at HROW HFIN
      have hk16 : k < 16 := by omega
      have h63 : k + 1 ≤ maxLen := by unfold maxLen; omega
      have h88 : (k + 1) * 8 ≤ 140737488355328 := by omega
      clear hx hrow hPT h1 hb1 HNW2
      go_wp2
      go_region_law (first
        | ((fail_if_success clear HBX2); go_simp; go_wp2_with ((go_at_call 56; refine HMW.out.mono ?_; rintro e y1 ⟨qk, rfl, hqk, hby, hqle⟩; have HBY := Lib.hid (below_two (below_drew1 wr) hby); have c0y := cellB c0 HBY.out; have f0y := (HBX.out.below HBY.out).free 0; have c0a := cellB c0y (below_alloc y1 (.cells #[.pointer (some ⟨qk, 0, none⟩), .int .i64 x, .int .i64 0] 104 (0, 0))); have c0b := cellB c0a (below_alloc (y1.alloc (.cells #[.pointer (some ⟨qk, 0, none⟩), .int .i64 x, .int .i64 0] 104 (0, 0))) (.cells #[.pointer (some ⟨y1.heap.size, 0, none⟩)] 102 (0, 0))); have HBX2 := Lib.hid (((HBX.out.below HBY.out).below (below_alloc y1 (.cells #[.pointer (some ⟨qk, 0, none⟩), .int .i64 x, .int .i64 0] 104 (0, 0)))).below (below_alloc (y1.alloc (.cells #[.pointer (some ⟨qk, 0, none⟩), .int .i64 x, .int .i64 0] 104 (0, 0))) (.cells #[.pointer (some ⟨y1.heap.size, 0, none⟩)] 102 (0, 0)))))))
        | ((refine app_lies (by rfl) _ _ (by rfl) y1 _ av cv k PT (by rfl) (Own.below HROW.out HBY.out) (by rfl) hk16 ?_; intro gg cap4 w4 hown4 hgrow hat; have hbx4 := HBX2.out.keep hgrow hne; have hx0 := hbx4.cell (i := 0) rfl; have hx2 := hbx4.free 0)))
      all_goals
        have HN := Lib.hid (HFIN.out y1 w4 gg cap4 qk HBY.out hqk (by have h : wr.heap.size ≤ qk := hqle; exact h) (by first | trivial | rfl) hown4 hgrow hat)
        clear hbx4 hx0 hx2 c0y f0y c0a c0b hown4 hgrow hat hqk hby hqle c0 f0
        go_wp2
        go_roundw
        case rel => exact ⟨k + 1, hlt, by go_num, HN.out⟩
        case measure => simp [intOf]; omega
    · obtain rfl : k = l.length := by omega
      go_wp2
      go_ret2
      exact ⟨p, rq, rfl, HNW2.out⟩
end Go.Proofs.Ytmgjmpmcadjemaa

/- Package picks: a reader in memory: NewReader, Done, Tables, Picks, fail, head. -/
import Derived.Test.YtoebnibhkdidhaaPicD
namespace Go.Proofs.Ytoebnibhkdidhaa
open Go.RowKit

/-- a reader's cells -/
def rcells (t count : Nat) (O : List UInt8) (vl : Value) (wrong : Bool) : List Value := [.int .i64 (t : Int), .int .i64 (count : Int)] ++ (ordV O ++ [vl, .bool wrong])
theorem rc8 {t count : Nat} {O : List UInt8} {vl : Value} {wrong : Bool} (hO : O.length = 6) : (rcells t count O vl wrong)[8]? = some vl := by
  unfold rcells
  rw [List.getElem?_append_right (by simp), List.getElem?_append_right (by rw [ordV_len, hO]; simp), ordV_len, hO]
  rfl
theorem rc9 {t count : Nat} {O : List UInt8} {vl : Value} {wrong : Bool} (hO : O.length = 6) : (rcells t count O vl wrong)[9]? = some (.bool wrong) := by
  unfold rcells
  rw [List.getElem?_append_right (by simp), List.getElem?_append_right (by rw [ordV_len, hO]; simp), ordV_len, hO]
  rfl
theorem rs8 {t count : Nat} {O : List UInt8} {vl v : Value} {wrong : Bool} (hO : O.length = 6) : (rcells t count O vl wrong).set 8 v = rcells t count O v wrong := by
  unfold rcells
  rw [List.set_append_right _ _ (by simp), List.set_append_right _ _ (by rw [ordV_len, hO]; simp), ordV_len, hO]
  rfl
theorem rs9 {t count : Nat} {O : List UInt8} {vl : Value} {wrong w2 : Bool} (hO : O.length = 6) : (rcells t count O vl wrong).set 9 (.bool w2) = rcells t count O vl w2 := by
  unfold rcells
  rw [List.set_append_right _ _ (by simp), List.set_append_right _ _ (by rw [ordV_len, hO]; simp), ordV_len, hO]
  rfl
structure PRAt (w : World) (p t count : Nat) (O : List UInt8) (vl : Value) (l : List Int) (wrong : Bool) : Prop where
  box : Blk w p (rcells t count O vl wrong) 91
  row : OwnI w 3 vl l
  ne : vl.ownBlock ≠ some p
  ol : O.length = 6
  val : ∀ x ∈ l, 0 ≤ x ∧ x ≤ 5
theorem PRAt.c0 {w : World} {p t count : Nat} {O : List UInt8} {vl : Value} {l : List Int} {wrong : Bool} (h : PRAt w p t count O vl l wrong) : w.cell? ⟨p, 0, none⟩ = some (.int .i64 (t : Int)) := h.box.cell (i := 0) rfl
theorem PRAt.c1 {w : World} {p t count : Nat} {O : List UInt8} {vl : Value} {l : List Int} {wrong : Bool} (h : PRAt w p t count O vl l wrong) : w.cell? ⟨p, 1, none⟩ = some (.int .i64 (count : Int)) := h.box.cell (i := 1) rfl
theorem PRAt.c8 {w : World} {p t count : Nat} {O : List UInt8} {vl : Value} {l : List Int} {wrong : Bool} (h : PRAt w p t count O vl l wrong) : w.cell? ⟨p, 8, none⟩ = some vl := h.box.cell (rc8 h.ol)
theorem PRAt.c9 {w : World} {p t count : Nat} {O : List UInt8} {vl : Value} {l : List Int} {wrong : Bool} (h : PRAt w p t count O vl l wrong) : w.cell? ⟨p, 9, none⟩ = some (.bool wrong) := h.box.cell (rc9 h.ol)
def DF (p : Nat) (vl : Value) (j : Nat) : Prop := j = p ∨ vl.ownBlock = some j
theorem PRAt.keep {S : Nat → Prop} {w w' : World} {p t count : Nat} {O : List UInt8} {vl : Value} {l : List Int} {wrong : Bool} (h : PRAt w p t count O vl l wrong) (kp : Keep S w w') (hs : ∀ j, DF p vl j → ¬ S j) : PRAt w' p t count O vl l wrong :=
  ⟨h.box.keep kp (hs p (.inl rfl)), h.row.keep kp (fun g hg => hs g (.inr hg)), h.ne, h.ol, h.val⟩
theorem PRAt.below {w w' : World} {p t count : Nat} {O : List UInt8} {vl : Value} {l : List Int} {wrong : Bool} (h : PRAt w p t count O vl l wrong) (kp : Below w.heap.size w w') : PRAt w' p t count O vl l wrong :=
  h.keep (Keep.of_below kp (fun _ => False)) (fun _ _ h => h)

/-- a reader of picks and a reader of bits -/
structure PS (B : Nat) (G : Nat → Prop) (w : World) (p r t count : Nat) (O : List UInt8) (l : List Int) (wrong : Bool) (S : List UInt8) (d a : Nat) : Prop where
  ex : ∃ vl, PRAt w p t count O vl l wrong ∧ (∀ g, vl.ownBlock = some g → Zone B G g) ∧ vl.ownBlock ≠ some r
  rd : ReaderAt w r S d a
  ne : r ≠ p
  lo : Zone B G p
  gl : ∀ j, G j → j < w.heap.size
theorem PS.below {B : Nat} {G : Nat → Prop} {w w' : World} {p r t count : Nat} {O : List UInt8} {l : List Int} {wrong : Bool} {S : List UInt8} {d a : Nat} (h : PS B G w p r t count O l wrong S d a) (k : Below w.heap.size w w') : PS B G w' p r t count O l wrong S d a := by
  obtain ⟨vl, h1, h2, h3⟩ := h.ex
  exact ⟨⟨vl, h1.below k, h2, h3⟩, h.rd.below k, h.ne, h.lo, fun j hj => Nat.lt_of_lt_of_le (h.gl j hj) k.size⟩
theorem PS.move {B : Nat} {G : Nat → Prop} {w w' : World} {p r t count : Nat} {O : List UInt8} {l : List Int} {wrong : Bool} {S S2 : List UInt8} {d a d2 a2 : Nat} (h : PS B G w p r t count O l wrong S d a) (k : RDid r S2 d2 a2 w w') : PS B G w' p r t count O l wrong S2 d2 a2 := by
  obtain ⟨vl, h1, h2, h3⟩ := h.ex
  refine ⟨⟨vl, h1.keep k.2 (fun j hj e => ?_), h2, h3⟩, k.1, h.ne, h.lo, fun j hj => Nat.lt_of_lt_of_le (h.gl j hj) k.2.size⟩
  have e' : j = r := e
  subst e'
  rcases hj with hj | hj
  · exact h.ne hj
  · exact h3 hj
theorem PS.more {B : Nat} {G G' : Nat → Prop} {w w' : World} {p r t count : Nat} {O : List UInt8} {l : List Int} {wrong : Bool} {S : List UInt8} {d a : Nat} (h : PS B G w p r t count O l wrong S d a) (k : Below w.heap.size w w') (hg : ∀ j, G' j → G j ∨ (w.heap.size ≤ j ∧ j < w'.heap.size)) : PS B G' w' p r t count O l wrong S d a := by
  obtain ⟨vl, h1, h2, h3⟩ := h.ex
  have hb := h.below k
  refine ⟨⟨vl, h1.below k, fun g hgo => ⟨(h2 g hgo).1, fun hG => ?_⟩, h3⟩, hb.rd, h.ne, ⟨h.lo.1, fun hG => ?_⟩, fun j hj => ?_⟩
  · rcases hg g hG with q | q
    · exact (h2 g hgo).2 q
    · have := Own.lt h1.row g hgo; omega
  · rcases hg p hG with q | q
    · exact h.lo.2 q
    · have := h1.box.lt; omega
  · rcases hg j hj with q | q
    · exact Nat.lt_of_lt_of_le (h.gl j q) k.size
    · exact q.2
def MayTurn (B : Nat) (G : Nat → Prop) (r j : Nat) : Prop := j = r ∨ Zone B G j
theorem RDid.turn {B : Nat} {G : Nat → Prop} {r : Nat} {S : List UInt8} {d a : Nat} {w w' : World} (h : RDid r S d a w w') : Keep (MayTurn B G r) w w' := h.2.mono (fun j _ e => .inl e)
theorem MayTurn.own {w w' : World} {r : Nat} (h : Keep (MayTurn w.heap.size (fun _ => False) r) w w') : Keep (fun j => j = r) w w' := h.mono (fun j hj e => e.elim id (fun h => by have := h.1; omega))
/-- the reader's box is turned -/
theorem PS.box {B : Nat} {G : Nat → Prop} {w w' : World} {p r t count t2 c2 : Nat} {O : List UInt8} {l : List Int} {wrong wr2 : Bool} {S : List UInt8} {d a : Nat} (h : PS B G w p r t count O l wrong S d a)
    (hk : Keep (fun j => j = p) w w') (hb : ∀ vl, Blk w p (rcells t count O vl wrong) 91 → Blk w' p (rcells t2 c2 O vl wr2) 91) : PS B G w' p r t2 c2 O l wr2 S d a ∧ Keep (MayTurn B G r) w w' := by
  obtain ⟨vl, h1, h2, h3⟩ := h.ex
  exact ⟨⟨⟨vl, ⟨hb vl h1.box, h1.row.keep hk (fun g hg e => h1.ne (by have e' : g = p := e; rw [hg, e'])), h1.ne, h1.ol, h1.val⟩, h2, h3⟩, h.rd.keep hk (fun e => h.ne e), h.ne, h.lo, fun j hj => Nat.lt_of_lt_of_le (h.gl j hj) hk.size⟩,
    hk.mono (fun j _ e => .inr (by have e' : j = p := e; rw [e']; exact h.lo))⟩

set_option maxRecDepth 100000 in
theorem pnew_any (w : World) : Calls Try.prog 43 #[] w fun e w' => ∃ p, e = .returned (.pointer (some ⟨p, 0, none⟩)) ∧ w.heap.size ≤ p ∧ PRAt w' p 0 0 LET (.slice none 0 0) [] false ∧ Below w.heap.size w w' := by
  have hred : (ordV LET).toArray = #[.int .i64 0, .int .i64 1, .int .i64 2, .int .i64 3, .int .i64 4, .int .i64 5] := rfl
  have HFR := Lib.hid (fresh_any w)
  rw [hred] at HFR
  clear hred
  go_enter Try.func43, Try.ntmps43
  go_wp2_with fail
  refine HFR.out.mono ?_
  rintro e w1 ⟨rfl, hb1⟩
  have HB1 := Lib.hid hb1
  clear HFR hb1
  go_wp2
  go_ret
  exact ⟨_, rfl, HB1.out.size, ⟨Blk.new w1 (rcells 0 0 LET (.slice none 0 0) false) _, OwnI.nil _ _, by simp [Value.ownBlock], rfl, fun x hx => by cases hx⟩, HB1.out.trans (below_of (below_alloc _ _) HB1.out.size)⟩

set_option maxHeartbeats 400000 in
theorem pdone_any (p t count : Nat) (O : List UInt8) (vl : Value) (l : List Int) (wrong q : Bool) (w : World) (h : PRAt w p t count O vl l wrong) (hq : (decide (count ≠ 0) && decide (l.length = count)) = q) :
    Calls Try.prog 44 #[.pointer (some ⟨p, 0, none⟩)] w fun e w' => e = .returned (.bool q) ∧ Below w.heap.size w w' := by
  obtain ⟨a, cap, rfl, -, -⟩ := Own.reads h.row
  have c1 := h.c1
  have c8 := h.c8
  by_cases h0 : count = 0
  · subst h0
    have hqe : q = false := by rw [← hq]; rfl
    subst hqe
    clear h hq
    go_enter Try.func44, Try.ntmps44
    go_wp2
    go_quiet (fail)
    go_wp2
    go_ret
    exact ⟨rfl, below_drawn ⟨_, rfl⟩⟩
  · have hd : decide ((0 : Int) < (count : Int)) = true := decide_eq_true (by omega)
    have hd2 : decide (0 < count) = true := decide_eq_true (by omega)
    rw [decide_eq_true h0, Bool.true_and] at hq
    have he : ((l.length : Int) == (count : Int)) = q := by
      rw [← hq]
      by_cases e : l.length = count
      · rw [decide_eq_true e]; exact beq_iff_eq.2 (by omega)
      · rw [decide_eq_false e]; exact beq_eq_false_iff_ne.2 (by omega)
    clear h hq h0
    cases q with
    | true =>
      go_enter Try.func44, Try.ntmps44
      go_wp2
      go_quiet (fail)
      go_wp2
      go_ret
      exact ⟨rfl, below_drawn ⟨_, rfl⟩⟩
    | false =>
      go_enter Try.func44, Try.ntmps44
      go_wp2
      go_quiet (fail)
      go_wp2
      go_ret
      exact ⟨rfl, below_drawn ⟨_, rfl⟩⟩
theorem pdone_nil (w : World) : Calls Try.prog 44 #[.pointer none] w fun e w' => e = .returned (.bool false) ∧ Below w.heap.size w w' := by
  go_enter Try.func44, Try.ntmps44
  go_wp2
  go_quiet (fail)
  go_wp2
  go_ret
  exact ⟨rfl, below_drawn ⟨_, rfl⟩⟩
theorem ptables_any (p t count : Nat) (O : List UInt8) (vl : Value) (l : List Int) (wrong : Bool) (w : World) (h : PRAt w p t count O vl l wrong) :
    Calls Try.prog 45 #[.pointer (some ⟨p, 0, none⟩)] w fun e w' => e = .returned (.int .i64 (t : Int)) ∧ w = w' := by
  have c0 := h.c0
  clear h
  go_enter Try.func45, Try.ntmps45
  go_wp2
  go_ret
  exact ⟨rfl, rfl⟩
theorem ptables_nil (w : World) : Calls Try.prog 45 #[.pointer none] w fun e w' => e = .returned (.int .i64 0) ∧ w = w' := by
  go_enter Try.func45, Try.ntmps45
  go_wp2
  go_ret
  exact ⟨rfl, rfl⟩
theorem ppicks_any (p t count : Nat) (O : List UInt8) (vl : Value) (l : List Int) (wrong : Bool) (w : World) (h : PRAt w p t count O vl l wrong) (hl : l.length ≤ 1000000) :
    Calls Try.prog 46 #[.pointer (some ⟨p, 0, none⟩)] w fun e w' => ∃ v, e = .returned v ∧ RInts w' v l ∧ FreshV w.heap.size v ∧ Below w.heap.size w w' := by
  have hr : RInts w vl l := h.row.reads (fun x hx => by have := h.val x hx; omega)
  have HC := Lib.hid (clone_any vl l w hl hr)
  obtain ⟨a, cap, rfl, -, -⟩ := hr.shape
  have c8 := h.c8
  clear h hr
  go_enter Try.func46, Try.ntmps46
  go_wp2_with fail
  refine HC.out.mono ?_
  rintro e w1 ⟨v, rfl, hv, hf, hb⟩
  have HV := Lib.hid hv
  have HF := Lib.hid hf
  have HB := Lib.hid hb
  obtain ⟨a3, c3, rfl, -, -⟩ := hv.shape
  clear HC hv hf hb c8
  go_wp2
  go_ret
  exact ⟨_, rfl, HV.out, HF.out, HB.out⟩
theorem ppicks_nil (w : World) : Calls Try.prog 46 #[.pointer none] w fun e w' => e = .returned (.slice none 0 0) ∧ w = w' := by
  go_enter Try.func46, Try.ntmps46
  go_wp2
  go_ret
  exact ⟨rfl, rfl⟩
theorem pfail_any (B : Nat) (G : Nat → Prop) (p r t count : Nat) (O : List UInt8) (l : List Int) (wrong : Bool) (S : List UInt8) (d a : Nat) (w : World) (h : PS B G w p r t count O l wrong S d a) :
    Calls Try.prog 78 #[.pointer (some ⟨p, 0, none⟩)] w fun e w' => e = .returned (.int .i64 25) ∧ PS B G w' p r t count O l true S d a ∧ Keep (MayTurn B G r) w w' := by
  obtain ⟨vl, h1, -, -⟩ := h.ex
  have c9 := h1.c9
  have f9 := h1.box.free 9
  have HO := Lib.hid h1.ol
  have HK := Lib.hid (keep_setCell (S := fun j => j = p) (Keep.refl _ w) (a := ⟨p, 9, none⟩) rfl (.bool true))
  have HE := Lib.hid (h.box (t2 := t) (c2 := count) (wr2 := true) HK.out (fun vl hb => by rw [← rs9 (wrong := wrong) h1.ol]; exact hb.set 9 _))
  clear h h1
  go_enter Try.func78, Try.ntmps78
  go_wp2
  go_ret
  exact ⟨rfl, HE.out.1, HE.out.2⟩

theorem num18 {l : List Bool} (h : l.length = 18) : numL l / 32768 = numL (l.take 3) ∧ numL l % 32768 = numL ((l.drop 3).take 15) ∧ numL l < 262144 ∧ numL (l.take 3) < 8 := by
  have e : l = l.take 3 ++ l.drop 3 := (List.take_append_drop 3 l).symm
  have hd : (l.drop 3).length = 15 := by rw [List.length_drop]; omega
  have e2 : (l.drop 3).take 15 = l.drop 3 := List.take_of_length_le (by omega)
  have h1 := numL_append (l.take 3) (l.drop 3)
  rw [← e, hd] at h1
  have h2 := numL_lt (l.drop 3)
  rw [hd] at h2
  have h3 := numL_lt (l.take 3)
  rw [List.length_take, Nat.min_eq_left (by omega)] at h3
  have p15 : (2 : Nat) ^ 15 = 32768 := rfl
  have p3 : (2 : Nat) ^ 3 = 8 := rfl
  rw [p15] at h1 h2
  rw [p3] at h3
  rw [e2]
  omega

/-- what a step leaves -/
def Stp (B : Nat) (G : Nat → Prop) (p r t count : Nat) (l : List Int) (S : List UInt8) (d a : Nat) (st : Int × Nat × Nat × Nat × List UInt8 × List Int) (w : World) (x : Ending) (w' : World) : Prop :=
  x = .returned (.int .i64 st.1) ∧ ∃ a2, PS B G w' p r st.2.2.1 st.2.2.2.1 st.2.2.2.2.1 (l ++ st.2.2.2.2.2) (decide (st.1 = 25)) S d a2 ∧ (st.1 ≠ 3 → a2 = a + st.2.1) ∧ Keep (MayTurn B G r) w w'

set_option maxHeartbeats 1000000 in
theorem phead_any (B : Nat) (G : Nat → Prop) (p r t : Nat) (O : List UInt8) (l : List Int) (S : List UInt8) (d a : Nat) (w : World) (h : PS B G w p r t 0 O l false S d a) :
    Calls Try.prog 65 #[.pointer (some ⟨p, 0, none⟩), .pointer (some ⟨r, 0, none⟩)] w (Stp B G p r t 0 l S d a (stepP t 0 O ((bitsL S).drop a)) w) := by
  have hlen : ((bitsL S).drop a).length = 8 * S.length - a := by rw [List.length_drop, bitsL_len]
  have hhi := h.rd.hi
  unfold stepP
  rw [if_pos rfl]
  by_cases h5 : ((bitsL S).drop a).length < 18
  · rw [if_pos h5]
    have HG := Lib.hid (rget_short r S d a 18 w h.rd (by decide) (by omega))
    have H := Lib.hid h
    clear h hlen hhi h5
    go_enter Try.func65, Try.ntmps65
    go_wp2_with fail
    refine HG.out.mono ?_
    rintro e w1 ⟨rfl, hd⟩
    have HB := Lib.hid (below_drawn hd)
    clear HG hd
    go_wp2
    go_ret
    exact ⟨rfl, a, by rw [List.append_nil]; exact H.out.below HB.out, fun h => absurd rfl h, Keep.of_below HB.out _⟩
  · rw [if_neg h5]
    have HG := Lib.hid (rget_ok r S d a 18 w h.rd (by decide) (by omega))
    have hg18 : (getBits S a 18).length = 18 := getBits_len (by omega)
    obtain ⟨n1, n2, n3, n4⟩ := num18 hg18
    have e3 : (getBits S a 18).take 3 = ((bitsL S).drop a).take 3 := by unfold getBits; rw [List.take_take]; rfl
    have e15 : ((getBits S a 18).drop 3).take 15 = (((bitsL S).drop a).drop 3).take 15 := by unfold getBits; rw [List.drop_take, List.take_take]; rfl
    rw [e3] at n1 n4
    rw [e15] at n2
    have hand : bits BinOp.and .u32 ((numL (getBits S a 18) : Nat) : Int) 32767 = ((numL (getBits S a 18) % 32768 : Nat) : Int) := by
      rw [show (32767 : Int) = ((32767 : Nat) : Int) from rfl, u32_and_nat _ _ (by omega) (by decide), show (32767 : Nat) = 2 ^ 15 - 1 from rfl, Nat.and_two_pow_sub_one_eq_mod]
    have hshr : ((numL (getBits S a 18) : Nat) : Int) / 32768 = ((numL (getBits S a 18) / 32768 : Nat) : Int) := by omega
    have hn2lt : numL (getBits S a 18) % 32768 < 32768 := Nat.mod_lt _ (by decide)
    rw [n1] at hshr
    rw [n2] at hand hn2lt
    obtain ⟨T, hT⟩ : ∃ z, numL (((bitsL S).drop a).take 3) = z := ⟨_, rfl⟩
    obtain ⟨C, hC⟩ : ∃ z, numL ((((bitsL S).drop a).drop 3).take 15) = z := ⟨_, rfl⟩
    obtain ⟨V, hV⟩ : ∃ z, numL (getBits S a 18) = z := ⟨_, rfl⟩
    rw [hT, hC]
    rw [hV, hT] at hshr
    rw [hV, hC] at hand
    rw [hC] at hn2lt
    rw [hT] at n4
    rw [hV] at HG n3
    have hcT : IntKind.i64.wrap (T : Int) = (T : Int) := IntWalk.i64_in _ (by omega)
    have hcC : IntKind.i64.wrap (C : Int) = (C : Int) := IntWalk.i64_in _ (by omega)
    have hshr2 : (V : Int) / 2 ^ 15 = (T : Int) := hshr
    have H := Lib.hid h
    have HTB := Lib.hid (fun w => ptabled_any (T : Int) w)
    clear h hlen hhi h5 hg18 n1 n2 e3 e15 hT hC hV
    by_cases hok : 2 ≤ T ∧ T ≤ 6 ∧ C ≠ 0
    · rw [if_pos hok]
      have htb : tabP (T : Int) = true := tabP_iff.2 (by omega)
      have hc0 : ((C : Int) == 0) = false := beq_eq_false_iff_ne.2 (by omega)
      rw [htb] at HTB
      clear hok htb
      go_enter Try.func65, Try.ntmps65
      go_wp2_with fail
      refine HG.out.mono ?_
      rintro e w1 ⟨rfl, hd⟩
      have H1 := Lib.hid (H.out.move hd)
      have HK1 := Lib.hid (RDid.turn (B := B) (G := G) hd)
      clear HG hd
      go_wp2_with fail
      refine (HTB.out _).mono ?_
      rintro e w2 ⟨rfl, rfl⟩
      obtain ⟨vl, q1, -, -⟩ := H1.out.ex
      have d0 := q1.c0
      have d1 := q1.c1
      have f0 := q1.box.free 0
      have f1 := q1.box.free 1
      have HK2 := Lib.hid (keep_setCell (S := fun j => j = p) (keep_setCell (S := fun j => j = p) (Keep.refl _ w1) (a := ⟨p, 0, none⟩) rfl (.int .i64 (T : Int))) (a := ⟨p, 1, none⟩) rfl (.int .i64 (C : Int)))
      have HE := Lib.hid (H1.out.box (t2 := T) (c2 := C) (wr2 := false) HK2.out (fun vl hb => (hb.set 0 _).set 1 _))
      clear HTB q1
      go_wp2
      go_ret
      exact ⟨rfl, a + 18, by rw [List.append_nil]; exact HE.out.1, fun _ => rfl, HK1.out.trans HE.out.2⟩
    · rw [if_neg hok]
      by_cases htp : 2 ≤ T ∧ T ≤ 6
      · have htb : tabP (T : Int) = true := tabP_iff.2 (by omega)
        have hC0 : C = 0 := by
          by_cases e : C = 0
          · exact e
          · exact absurd ⟨htp.1, htp.2, e⟩ hok
        subst hC0
        rw [htb] at HTB
        clear hok htb htp
        go_enter Try.func65, Try.ntmps65
        go_wp2_with fail
        refine HG.out.mono ?_
        rintro e w1 ⟨rfl, hd⟩
        have H1 := Lib.hid (H.out.move hd)
        have HK1 := Lib.hid (RDid.turn (B := B) (G := G) hd)
        clear HG hd
        go_wp2_with fail
        refine (HTB.out _).mono ?_
        rintro e w2 ⟨rfl, rfl⟩
        clear HTB
        go_wp2_with fail
        refine (pfail_any B G p r t 0 O l false S d (a + 18) w1 H1.out).mono ?_
        rintro e w3 ⟨rfl, h3, hk3⟩
        have H3 := Lib.hid h3
        have HK3 := Lib.hid (HK1.out.trans hk3)
        clear h3 hk3
        go_wp2
        go_ret
        exact ⟨rfl, a + 18, by rw [List.append_nil]; exact H3.out, fun _ => rfl, HK3.out⟩
      · have htb : tabP (T : Int) = false := by rw [Bool.eq_false_iff]; intro e; have := tabP_iff.1 e; exact htp (by omega)
        rw [htb] at HTB
        clear hok htb htp
        go_enter Try.func65, Try.ntmps65
        go_wp2_with fail
        refine HG.out.mono ?_
        rintro e w1 ⟨rfl, hd⟩
        have H1 := Lib.hid (H.out.move hd)
        have HK1 := Lib.hid (RDid.turn (B := B) (G := G) hd)
        clear HG hd
        go_wp2_with fail
        refine (HTB.out _).mono ?_
        rintro e w2 ⟨rfl, rfl⟩
        clear HTB
        go_wp2_with fail
        refine (pfail_any B G p r t 0 O l false S d (a + 18) w1 H1.out).mono ?_
        rintro e w3 ⟨rfl, h3, hk3⟩
        have H3 := Lib.hid h3
        have HK3 := Lib.hid (HK1.out.trans hk3)
        clear h3 hk3
        go_wp2
        go_ret
        exact ⟨rfl, a + 18, by rw [List.append_nil]; exact H3.out, fun _ => rfl, HK3.out⟩
end Go.Proofs.Ytoebnibhkdidhaa

/- Package jobs: a table in memory; New, Find, Len. -/
import Derived.Test.YtmgjmpmcadjemaaJobL
import Derived.Test.YtmgjmpmcadjemaaSame
namespace Go.Proofs.Ytmgjmpmcadjemaa
open Go.RowKit

theorem cellB {w w' : World} {a : Addr} {v : Value} (h : w.cell? a = some v) (k : Below w.heap.size w w') : w'.cell? a = some v :=
  (World.cell?_of_block (k.block a.block (World.block_lt_of_cell? w _ h))).trans h

/-- a table in memory -/
structure TabAt (w : World) (b : Nat) (lim : Int) (last : Nat) (vl : Value) (L : List LV) : Prop where
  box : Blk w b [.int .i64 lim, .int .i64 (last : Int), vl] 82
  row : Own w 85 5 vl L.length (L.flatMap encV)
  ne : vl.ownBlock ≠ some b
  good : ∀ x ∈ L, goodV x

/-- the blocks of a table -/
def JF (b : Nat) (vl : Value) (j : Nat) : Prop := j = b ∨ vl.ownBlock = some j
theorem TabAt.keep {S : Nat → Prop} {w w' : World} {b : Nat} {lim : Int} {last : Nat} {vl : Value} {L : List LV} (h : TabAt w b lim last vl L) (kp : Keep S w w') (hs : ∀ j, JF b vl j → ¬ S j) : TabAt w' b lim last vl L :=
  ⟨h.box.keep kp (hs b (.inl rfl)), h.row.keep kp (fun g hg => hs g (.inr hg)), h.ne, h.good⟩
theorem TabAt.below {w w' : World} {b : Nat} {lim : Int} {last : Nat} {vl : Value} {L : List LV} (h : TabAt w b lim last vl L) (kp : Below w.heap.size w w') : TabAt w' b lim last vl L :=
  h.keep (Keep.of_below kp (fun _ => False)) (fun _ _ h => h)
theorem TabAt.lt {w : World} {b : Nat} {lim : Int} {last : Nat} {vl : Value} {L : List LV} (h : TabAt w b lim last vl L) : ∀ j, JF b vl j → j < w.heap.size := by
  intro j hj
  rcases hj with rfl | hj
  · exact h.box.lt
  · exact Own.lt h.row j hj
theorem TabAt.rs {w : World} {b : Nat} {lim : Int} {last : Nat} {vl : Value} {L : List LV} (h : TabAt w b lim last vl L) : RS w vl L encV 5 goodV := rs_of_own encV_len h.row h.good

/-- the function value's place: p x of x, whatever is made beside -/
def FnP (w : World) (f : Nat) (lb : Array Value) (p : LV → Bool) : Prop :=
  ∀ (x : LV) (w' : World), Below w.heap.size w w' → Calls Try.prog f (#[.agg (encV x).toArray] ++ lb) w' fun e w2 => e = .returned (.bool (p x)) ∧ Below w'.heap.size w' w2
theorem FnP.below {w w' : World} {f : Nat} {lb : Array Value} {p : LV → Bool} (h : FnP w f lb p) (k : Below w.heap.size w w') : FnP w' f lb p :=
  fun x w2 hb => h x w2 (below_two k hb)

set_option maxHeartbeats 400000 in
theorem lidx_any (v : Value) (L : List LV) (f : Nat) (lb : Array Value) (p : LV → Bool) (w : World) (hv : RS w v L encV 5 goodV) (hent : ∀ (args : Array Value) (w : World), (callFunc f args).run Try.prog w = .ok (.enter f args) w) (hf : FnP w f lb p) :
    Calls Try.prog 70 #[v, .func (.func f) #[] lb] w fun e w' => e = .returned (.int .i64 (plK p L)) ∧ Below w.heap.size w w' := by
  have HV := Lib.hid hv
  obtain ⟨a, cap, rfl, hc1, hc2⟩ := hv.shape
  have HF := Lib.hid hf
  clear hf hv
  go_enter Try.func70, Try.ntmps70
  go_wp2
  go_loopw [5, 8] (fun x i wr => ∃ k : Nat, k ≤ L.length ∧ i = .int .i64 k ∧ Hid (∀ (i : Nat) (y : LV), i < k → L[i]? = some y → p y = false) ∧ Below w.heap.size w wr) (fun _ i _ => L.length - (intOf i).toNat)
  case atStart => exact ⟨0, Nat.zero_le _, rfl, fun i y h _ => absurd h (by omega), Below.refl _ _⟩
  case round =>
    obtain ⟨k, hk, rfl, HALL, hb⟩ := hrel
    by_cases hlt : k < L.length
    · obtain ⟨b2, off, x, rfl, hbb, hx, hgx, hcx⟩ := (HV.out.below hb).at hlt
      have HX := Lib.hid hx
      have HC := Lib.hid (HF.out x wr hb)
      obtain ⟨⟨xc, xi, xt, xn⟩, xh⟩ := x
      have c0 : wr.cell? ⟨b2, off + k * 5, none⟩ = some (.int .i64 xc) := hcx 0 _ rfl
      have c1 : wr.cell? ⟨b2, off + k * 5 + 1, none⟩ = some (.int .i64 xi) := hcx 1 _ rfl
      have c2 : wr.cell? ⟨b2, off + k * 5 + 2, none⟩ = some (.int .i64 xt) := hcx 2 _ rfl
      have c3 : wr.cell? ⟨b2, off + k * 5 + 3, none⟩ = some (.int .i64 xn) := hcx 3 _ rfl
      have c4 : wr.cell? ⟨b2, off + k * 5 + 4, none⟩ = some (.int .i64 xh) := hcx 4 _ rfl
      clear hx hgx hcx
      go_wp2_with fail
      refine HC.out.mono ?_
      rintro e w2 ⟨rfl, hb2⟩
      have HB2 := Lib.hid (hb.trans (below_of hb2 hb.size))
      clear HC hb hb2 c0 c1 c2 c3 c4
      cases hp : p ((xc, xi, xt, xn), xh) with
      | true =>
        have HP := Lib.hid (plK_some HX.out hp HALL.out).1
        clear hp
        go_wp2
        go_ret
        exact ⟨ret_int HP.out.symm, HB2.out⟩
      | false =>
        have HP := Lib.hid hp
        clear hp
        go_wp2
        go_roundw
        case rel =>
          refine ⟨k + 1, by omega, by go_num, fun i y hi hy => ?_, HB2.out⟩
          by_cases e : i = k
          · subst e
            have := HX.out
            rw [this] at hy
            cases hy
            exact HP.out
          · exact HALL.out i y (by omega) hy
        case measure => simp [intOf]; omega
    · obtain rfl : k = L.length := by omega
      have HP := Lib.hid (plK_none (p := p) (L := L) fun i y hy => HALL.out i y ((List.getElem?_eq_some_iff.1 hy).1) hy).1
      go_wp2
      go_ret
      exact ⟨ret_int HP.out.symm, hb⟩

theorem all_any (b : Nat) (lim : Int) (last : Nat) (vl : Value) (L : List LV) (w : World) (h : TabAt w b lim last vl L) :
    Calls Try.prog 46 #[.pointer (some ⟨b, 0, none⟩)] w fun e w' => e = .returned vl ∧ w = w' := by
  have c2 := h.box.cell (i := 2) (x := vl) rfl
  clear h
  go_enter Try.func46, Try.ntmps46
  go_wp2
  go_ret
  exact ⟨rfl, rfl⟩
theorem all_nil (w : World) : Calls Try.prog 46 #[.pointer none] w fun e w' => e = .returned (.slice none 0 0) ∧ w = w' := by
  go_enter Try.func46, Try.ntmps46
  go_wp2
  go_ret
  exact ⟨rfl, rfl⟩

theorem jplace_any (b : Nat) (lim : Int) (last : Nat) (vl : Value) (L : List LV) (f : Nat) (lb : Array Value) (p : LV → Bool) (w : World) (h : TabAt w b lim last vl L)
    (hent : ∀ (args : Array Value) (w : World), (callFunc f args).run Try.prog w = .ok (.enter f args) w) (hf : FnP w f lb p) :
    Calls Try.prog 43 #[.pointer (some ⟨b, 0, none⟩), .func (.func f) #[] lb] w fun e w' => e = .returned (.int .i64 (plK p L)) ∧ Below w.heap.size w w' := by
  have HA := Lib.hid (all_any b lim last vl L w h)
  have HI := Lib.hid (lidx_any vl L f lb p w h.rs hent hf)
  obtain ⟨a, cap, rfl, -, -⟩ := h.rs.shape
  obtain ⟨r, hr⟩ : ∃ z, plK p L = z := ⟨_, rfl⟩
  obtain ⟨n, hn⟩ : ∃ z, L.length = z := ⟨_, rfl⟩
  rw [hr] at HI ⊢
  rw [hn] at HA HI
  clear h hf hr hn
  go_enter Try.func43, Try.ntmps43
  go_wp2_with fail
  refine HA.out.mono ?_
  rintro e w1 ⟨rfl, rfl⟩
  go_wp2_with fail
  refine HI.out.mono ?_
  rintro e w1 ⟨rfl, hb⟩
  clear HA HI
  go_wp2
  go_ret
  exact ⟨rfl, hb⟩

theorem hmf : ∀ (fn : Fn) (first cap : Array Value) (w : World), (Instr.makeFunc fn first cap).run Try.prog w = .ok (.func fn first cap) w := fun _ _ _ _ => rfl

/-- the closures -/
theorem cloFind (c1 c2 : Nat) (c i : Int) (w : World) (h1 : w.cell? ⟨c1, 0, none⟩ = some (.int .i64 c)) (h2 : w.cell? ⟨c2, 0, none⟩ = some (.int .i64 i)) :
    FnP w 44 #[.pointer (some ⟨c1, 0, none⟩), .pointer (some ⟨c2, 0, none⟩)] (isCI c i) := by
  intro x w' hb
  obtain ⟨⟨xc, xi, xt, xn⟩, xh⟩ := x
  have hal := below_alloc w' (.cells #[.int .i64 xc, .int .i64 xi, .int .i64 xt, .int .i64 xn, .int .i64 xh] 85 (0, 0))
  have d1 := cellB (cellB h1 hb) hal
  have d2 := cellB (cellB h2 hb) hal
  clear h1 h2 hb
  unfold isCI
  show Calls _ _ #[.agg #[.int .i64 xc, .int .i64 xi, .int .i64 xt, .int .i64 xn, .int .i64 xh], .pointer (some ⟨c1, 0, none⟩), .pointer (some ⟨c2, 0, none⟩)] _ (fun e w2 => e = .returned (.bool ((xc == c) && (xi == i))) ∧ _)
  have HL := Lib.hid hal
  clear hal
  cases hb1 : xc == c with
  | true =>
    cases hb2 : xi == i with
    | true =>
      go_enter Try.func44, Try.ntmps44
      go_wp2
      go_ret
      exact ⟨rfl, HL.out⟩
    | false =>
      go_enter Try.func44, Try.ntmps44
      go_wp2
      go_ret
      exact ⟨rfl, HL.out⟩
  | false =>
    go_enter Try.func44, Try.ntmps44
    go_wp2
    go_ret
    exact ⟨rfl, HL.out⟩
theorem cloGet (c1 : Nat) (n : Int) (w : World) (h1 : w.cell? ⟨c1, 0, none⟩ = some (.int .i64 n)) :
    FnP w 45 #[.pointer (some ⟨c1, 0, none⟩)] (isH n) := by
  intro x w' hb
  obtain ⟨⟨xc, xi, xt, xn⟩, xh⟩ := x
  have hal := below_alloc w' (.cells #[.int .i64 xc, .int .i64 xi, .int .i64 xt, .int .i64 xn, .int .i64 xh] 85 (0, 0))
  have d1 := cellB (cellB h1 hb) hal
  clear h1 hb
  show Calls _ _ #[.agg #[.int .i64 xc, .int .i64 xi, .int .i64 xt, .int .i64 xn, .int .i64 xh], .pointer (some ⟨c1, 0, none⟩)] _ (fun e w2 => e = .returned (.bool (xh == n)) ∧ _)
  have HL := Lib.hid hal
  clear hal
  go_enter Try.func45, Try.ntmps45
  go_wp2
  go_ret
  exact ⟨rfl, HL.out⟩
theorem cloDrop (c1 : Nat) (n : Int) (w : World) (h1 : w.cell? ⟨c1, 0, none⟩ = some (.int .i64 n)) :
    FnP w 42 #[.pointer (some ⟨c1, 0, none⟩)] (isH n) := by
  intro x w' hb
  obtain ⟨⟨xc, xi, xt, xn⟩, xh⟩ := x
  have hal := below_alloc w' (.cells #[.int .i64 xc, .int .i64 xi, .int .i64 xt, .int .i64 xn, .int .i64 xh] 85 (0, 0))
  have d1 := cellB (cellB h1 hb) hal
  clear h1 hb
  show Calls _ _ #[.agg #[.int .i64 xc, .int .i64 xi, .int .i64 xt, .int .i64 xn, .int .i64 xh], .pointer (some ⟨c1, 0, none⟩)] _ (fun e w2 => e = .returned (.bool (xh == n)) ∧ _)
  have HL := Lib.hid hal
  clear hal
  go_enter Try.func42, Try.ntmps42
  go_wp2
  go_ret
  exact ⟨rfl, HL.out⟩
theorem cloOf (c1 : Nat) (n : Int) (w : World) (h1 : w.cell? ⟨c1, 0, none⟩ = some (.int .i64 n)) :
    FnP w 52 #[.pointer (some ⟨c1, 0, none⟩)] (isC n) := by
  intro x w' hb
  obtain ⟨⟨xc, xi, xt, xn⟩, xh⟩ := x
  have hal := below_alloc w' (.cells #[.int .i64 xc, .int .i64 xi, .int .i64 xt, .int .i64 xn, .int .i64 xh] 85 (0, 0))
  have d1 := cellB (cellB h1 hb) hal
  clear h1 hb
  show Calls _ _ #[.agg #[.int .i64 xc, .int .i64 xi, .int .i64 xt, .int .i64 xn, .int .i64 xh], .pointer (some ⟨c1, 0, none⟩)] _ (fun e w2 => e = .returned (.bool (xc == n)) ∧ _)
  have HL := Lib.hid hal
  clear hal
  go_enter Try.func52, Try.ntmps52
  go_wp2
  go_ret
  exact ⟨rfl, HL.out⟩
theorem cloBy (c1 : Nat) (n : Int) (w : World) (h1 : w.cell? ⟨c1, 0, none⟩ = some (.int .i64 n)) :
    FnP w 53 #[.pointer (some ⟨c1, 0, none⟩)] (isT n) := by
  intro x w' hb
  obtain ⟨⟨xc, xi, xt, xn⟩, xh⟩ := x
  have hal := below_alloc w' (.cells #[.int .i64 xc, .int .i64 xi, .int .i64 xt, .int .i64 xn, .int .i64 xh] 85 (0, 0))
  have d1 := cellB (cellB h1 hb) hal
  clear h1 hb
  show Calls _ _ #[.agg #[.int .i64 xc, .int .i64 xi, .int .i64 xt, .int .i64 xn, .int .i64 xh], .pointer (some ⟨c1, 0, none⟩)] _ (fun e w2 => e = .returned (.bool (xt == n)) ∧ _)
  have HL := Lib.hid hal
  clear hal
  go_enter Try.func53, Try.ntmps53
  go_wp2
  go_ret
  exact ⟨rfl, HL.out⟩

set_option maxHeartbeats 1000000 in
set_option maxRecDepth 100000 in
theorem find_any (b : Nat) (lim : Int) (last : Nat) (vl : Value) (L : List LV) (c i : Int) (w : World) (h : TabAt w b lim last vl L) :
    Calls Try.prog 14 #[.pointer (some ⟨b, 0, none⟩), .int .i64 c, .int .i64 i] w fun e w' => e = .returned (.tuple #[.int .i64 (findH c i L), .int .i64 (findE c i L)]) ∧ Below w.heap.size w w' := by
  have hal1 := below_alloc w (.cells #[.int .i64 c] 3 (0, 0))
  have hal2 := below_alloc (w.alloc (.cells #[.int .i64 c] 3 (0, 0))) (.cells #[.int .i64 i] 3 (0, 0))
  have hal := below_two hal1 hal2
  have h2 := h.below hal
  have d1 := cellB ((Blk.new w [.int .i64 c] 3).cell (i := 0) rfl) hal2
  have d2 := (Blk.new (w.alloc (.cells #[.int .i64 c] 3 (0, 0))) [.int .i64 i] 3).cell (i := 0) rfl
  rw [World.size_alloc] at d2
  have HP := Lib.hid (jplace_any b lim last vl L 44 _ _ _ h2 (fun args w => enter_of Try.func44 (by kernel_rfl) rfl args w) (cloFind _ _ c i _ d1 d2))
  have hm := hmf
  have HH := Lib.hid h2
  have HAL := Lib.hid hal
  rcases plK_cases (isCI c i) L with ⟨e1, e2⟩ | ⟨k, x, e1, hk, hx, e2⟩
  · have HR := Lib.hid (show findH c i L = 0 ∧ findE c i L = 6 by unfold findH findE; rw [e2]; exact ⟨rfl, rfl⟩)
    rw [e1] at HP
    clear h e1 e2 hal1 hal2 hal h2 d1 d2
    go_enter Try.func14, Try.ntmps14
    go_wp2_with fail
    refine HP.out.mono ?_
    rintro e w1 ⟨rfl, hb⟩
    have HB := Lib.hid (below_two HAL.out hb)
    clear HP hb
    go_wp2
    go_ret2
    exact ⟨by rw [HR.out.1, HR.out.2]; rfl, HB.out⟩
  · have HR := Lib.hid (show findH c i L = x.2 ∧ findE c i L = 0 by unfold findH findE; rw [e2]; exact ⟨rfl, rfl⟩)
    rw [e1] at HP
    obtain ⟨a, cap, rfl, hc1, hc2⟩ := h.rs.shape
    clear h e1 e2 hal1 hal2 hal h2 d1 d2
    go_enter Try.func14, Try.ntmps14
    go_wp2_with fail
    refine HP.out.mono ?_
    rintro e w1 ⟨rfl, hb⟩
    have HB := Lib.hid (below_two HAL.out hb)
    have h3 := HH.out.below hb
    have c2 := h3.box.cell (i := 2) (x := .slice a L.length cap) rfl
    obtain ⟨b2, off, y, rfl, hbb, hy, hgy, hcy⟩ := h3.rs.at hk
    obtain rfl : x = y := by rw [hx] at hy; simpa using hy
    have c4 : w1.cell? ⟨b2, off + k * 5 + 4, none⟩ = some (.int .i64 x.2) := hcy 4 _ rfl
    clear HP hb h3 hy hgy hcy HH hx
    go_wp2
    go_ret2
    exact ⟨by rw [HR.out.1, HR.out.2]; rfl, HB.out⟩
theorem find_nil (c i : Int) (w : World) : Calls Try.prog 14 #[.pointer none, .int .i64 c, .int .i64 i] w fun e w' => e = .returned (.tuple #[.int .i64 0, .int .i64 7]) ∧ Below w.heap.size w w' := by
  have hal := below_two (below_alloc w (.cells #[.int .i64 c] 3 (0, 0))) (below_alloc (w.alloc (.cells #[.int .i64 c] 3 (0, 0))) (.cells #[.int .i64 i] 3 (0, 0)))
  go_enter Try.func14, Try.ntmps14
  go_wp2
  go_ret2
  exact ⟨rfl, hal⟩

theorem jlen_any (b : Nat) (lim : Int) (last : Nat) (vl : Value) (L : List LV) (w : World) (h : TabAt w b lim last vl L) :
    Calls Try.prog 16 #[.pointer (some ⟨b, 0, none⟩)] w fun e w' => e = .returned (.int .i64 (L.length : Int)) ∧ w = w' := by
  have HA := Lib.hid (all_any b lim last vl L w h)
  obtain ⟨a, cap, rfl, -, -⟩ := h.rs.shape
  obtain ⟨n, hn⟩ : ∃ z, L.length = z := ⟨_, rfl⟩
  rw [hn] at HA ⊢
  clear h hn
  go_enter Try.func16, Try.ntmps16
  go_wp2_with fail
  refine HA.out.mono ?_
  rintro e w1 ⟨rfl, rfl⟩
  go_wp2
  go_ret
  exact ⟨rfl, rfl⟩
theorem jlen_nil (w : World) : Calls Try.prog 16 #[.pointer none] w fun e w' => e = .returned (.int .i64 0) ∧ w = w' := by
  go_enter Try.func16, Try.ntmps16
  go_wp2_with fail
  refine (all_nil _).mono ?_
  rintro e w1 ⟨rfl, rfl⟩
  go_wp2
  go_ret
  exact ⟨rfl, rfl⟩

theorem jnew_no (lim : Int) (w : World) (h : lim < 1 ∨ 64 < lim) :
    Calls Try.prog 11 #[.int .i64 lim] w fun e w' => e = .returned (.tuple #[.pointer none, .int .i64 1]) ∧ w = w' := by
  by_cases h0 : lim < 1
  · have hd : decide (lim < 1) = true := decide_eq_true h0
    clear h h0
    go_enter Try.func11, Try.ntmps11
    go_wp2
    go_ret2
    exact ⟨rfl, rfl⟩
  · have hd : decide (lim < 1) = false := decide_eq_false h0
    have hd2 : decide (64 < lim) = true := decide_eq_true (by omega)
    clear h h0
    go_enter Try.func11, Try.ntmps11
    go_wp2
    go_ret2
    exact ⟨rfl, rfl⟩
theorem jnew_ok (lim : Int) (w : World) (h1 : 1 ≤ lim) (h2 : lim ≤ 64) :
    Calls Try.prog 11 #[.int .i64 lim] w fun e w' => e = .returned (.tuple #[.pointer (some ⟨w.heap.size, 0, none⟩), .int .i64 0]) ∧ TabAt w' w.heap.size lim 0 (.slice none 0 0) [] ∧ Below w.heap.size w w' := by
  have hd : decide (lim < 1) = false := decide_eq_false (by omega)
  have hd2 : decide (64 < lim) = false := decide_eq_false (by omega)
  clear h1 h2
  go_enter Try.func11, Try.ntmps11
  go_wp2
  go_ret2
  exact ⟨rfl, ⟨Blk.new w _ _, Own.nil _ _ _, by simp [Value.ownBlock], fun x hx => by cases hx⟩, below_alloc _ _⟩
end Go.Proofs.Ytmgjmpmcadjemaa

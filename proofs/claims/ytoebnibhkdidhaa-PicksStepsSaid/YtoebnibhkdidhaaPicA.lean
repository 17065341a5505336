/- Package picks: the order; what may be written; places. -/
import Derived.Test.YtoebnibhkdidhaaPicL
import Derived.Test.YtoebnibhkdidhaaBitB
import Derived.Test.YtoebnibhkdidhaaSame
namespace Go.Proofs.Ytoebnibhkdidhaa
open Go.RowKit

theorem cellB {w w' : World} {a : Addr} {v : Value} (h : w.cell? a = some v) (k : Below w.heap.size w w') : w'.cell? a = some v :=
  (World.cell?_of_block (k.block a.block (World.block_lt_of_cell? w _ h))).trans h
theorem hmf : ∀ (fn : Fn) (first cap : Array Value) (w : World), (Instr.makeFunc fn first cap).run Try.prog w = .ok (.func fn first cap) w := fun _ _ _ _ => rfl
theorem below_drew1 (w : World) : Below w.heap.size w w.drew := below_drawn ⟨1, rfl⟩

def ordV (O : List UInt8) : List Value := O.map fun c => .int .i64 (valU c)
theorem ordV_len (O : List UInt8) : (ordV O).length = O.length := by simp [ordV]
theorem mid_at {pre post : List Value} {O : List UInt8} {i : Nat} {c : UInt8} (h : O[i]? = some c) : (pre ++ (ordV O ++ post))[pre.length + i]? = some (.int .i64 (valU c)) := by
  have hi := (List.getElem?_eq_some_iff.1 h).1
  rw [List.getElem?_append_right (by omega), Nat.add_sub_cancel_left, List.getElem?_append_left (by rw [ordV_len]; exact hi)]
  unfold ordV
  rw [List.getElem?_map, h]
  rfl
theorem mid_set {pre post : List Value} {O : List UInt8} {i : Nat} (c : UInt8) (hi : i < O.length) : (pre ++ (ordV O ++ post)).set (pre.length + i) (.int .i64 (valU c)) = pre ++ (ordV (O.set i c) ++ post) := by
  rw [List.set_append_right _ _ (by omega), Nat.add_sub_cancel_left, List.set_append_left _ _ (by rw [ordV_len]; exact hi)]
  unfold ordV
  rw [List.map_set]
/-- an order while it is moved: the place k is free -/
def sl (O : List UInt8) (i k : Nat) : List UInt8 := O.take (k + 1) ++ ((O.drop k).take (i - k) ++ O.drop (i + 1))
theorem sl_start (O : List UInt8) (i : Nat) : sl O i i = O := by unfold sl; rw [Nat.sub_self, List.take_zero, List.nil_append, List.take_append_drop]
theorem sl_len {O : List UInt8} {i k : Nat} (hk : k ≤ i) (hi : i < O.length) : (sl O i k).length = O.length := by
  unfold sl
  rw [List.length_append, List.length_append, List.length_take, List.length_take, List.length_drop, List.length_drop]
  omega
theorem sl_at {O : List UInt8} {i k : Nat} (hk : k ≤ i) (hi : i < O.length) {j : Nat} (hj : j ≤ k) : (sl O i k)[j]? = O[j]? := by
  unfold sl
  rw [List.getElem?_append_left (by rw [List.length_take]; omega), List.getElem?_take, if_pos (by omega)]
theorem sl_step {O : List UInt8} {i k : Nat} (hk : k + 1 ≤ i) (hi : i < O.length) {c : UInt8} (hc : O[k]? = some c) : (sl O i (k + 1)).set (k + 1) c = sl O i k := by
  have hk2 : k < O.length := by omega
  have e1 : O[k] = c := by rw [List.getElem?_eq_getElem hk2] at hc; exact Option.some.inj hc
  unfold sl
  rw [List.set_append_left _ _ (by rw [List.length_take]; omega)]
  have h1 : (O.take (k + 1 + 1)).set (k + 1) c = O.take (k + 1) ++ [c] := by
    rw [List.take_add_one, List.getElem?_eq_getElem (show k + 1 < O.length by omega), List.set_append_right _ _ (by rw [List.length_take]; omega), List.length_take, Nat.min_eq_left (by omega), Nat.sub_self]
    rfl
  have h2 : (O.drop k).take (i - k) = c :: (O.drop (k + 1)).take (i - (k + 1)) := by
    rw [List.drop_eq_getElem_cons hk2, e1, show i - k = (i - (k + 1)) + 1 by omega, List.take_succ_cons]
  rw [h1, h2, List.append_assoc]
  rfl
theorem sl_end {O : List UInt8} {i : Nat} {c : UInt8} (hc : O[i]? = some c) : (sl O i 0).set 0 c = touchL O i := by
  have hi := (List.getElem?_eq_some_iff.1 hc).1
  rw [touchL_eq hc]
  unfold sl
  rw [Nat.sub_zero, List.drop_zero]
  cases O with
  | nil => simp at hi
  | cons x O => simp

set_option maxHeartbeats 1000000 in
set_option maxRecDepth 100000 in
theorem ptouch_any (b : Nat) (pre post : List Value) (T : TypeId) (O : List UInt8) (i : Nat) (c : UInt8) (w : World) (h : Blk w b (pre ++ (ordV O ++ post)) T) (hO : O.length = 6) (hc : O[i]? = some c) :
    Calls Try.prog 77 #[.pointer (some ⟨b, pre.length, none⟩), .int .i64 (i : Int)] w fun e w' => e = .returned (.int .i64 (valU c)) ∧ Blk w' b (pre ++ (ordV (touchL O i) ++ post)) T ∧ Keep (fun j => j = b) w w' := by
  have hi : i < O.length := (List.getElem?_eq_some_iff.1 hc).1
  have hi6 : i < 6 := by omega
  have hi6' : (i : Int) < 6 := by omega
  have hx := h.cell (mid_at hc)
  have HB := Lib.hid (show Blk w b (pre ++ (ordV (sl O i i) ++ post)) T by rw [sl_start]; exact h)
  have HC := Lib.hid hc
  have HO := Lib.hid hO
  obtain ⟨f, hf⟩ : ∃ z, pre.length = z := ⟨_, rfl⟩
  have HF := Lib.hid hf
  rw [hf] at hx ⊢
  obtain ⟨v, hv⟩ : ∃ z, valU c = z := ⟨_, rfl⟩
  have HV := Lib.hid hv
  rw [hv] at hx ⊢
  clear h hc hi hO hf hv
  go_enter Try.func77, Try.ntmps77
  go_wp2
  go_loopw [6] (fun ks wr => ∃ k : Nat, ks = .int .i64 (k : Int) ∧ k ≤ i ∧ Hid (Blk wr b (pre ++ (ordV (sl O i k) ++ post)) T) ∧ Hid (Keep (fun j => j = b) w wr)) (fun ks _ => (intOf ks).toNat)
  case atStart => exact ⟨i, rfl, Nat.le_refl _, HB.out, Keep.refl _ _⟩
  case round =>
    clear HB hx
    obtain ⟨k, rfl, hki, HB, HK⟩ := hrel
    have hil : i < O.length := by rw [HO.out]; exact hi6
    have HIL := Lib.hid hil
    by_cases hk0 : 0 < k
    · have hd : decide ((0 : Int) < (k : Int)) = true := decide_eq_true (by omega)
      obtain ⟨m, hm⟩ : ∃ m, m + 1 = k := ⟨k - 1, by omega⟩
      have HM := Lib.hid hm
      obtain ⟨y, hy⟩ : ∃ y, O[m]? = some y := ⟨O[m]'(by omega), List.getElem?_eq_getElem _⟩
      have hb1 := HB.out.below (below_drew1 wr)
      have hc1 : wr.drew.cell? ⟨b, f + m, none⟩ = some (.int .i64 (valU y)) := by
        have := hb1.cell (mid_at (pre := pre) (post := post) (O := sl O i k) (i := m) (c := y) (by rw [sl_at hki hil (by omega)]; exact hy))
        rwa [HF.out] at this
      obtain ⟨z, hz⟩ : ∃ z, O[k]? = some z := ⟨O[k]'(by omega), List.getElem?_eq_getElem _⟩
      have hc2 : wr.drew.cell? ⟨b, f + k, none⟩ = some (.int .i64 (valU z)) := by
        have := hb1.cell (mid_at (pre := pre) (post := post) (O := sl O i k) (i := k) (c := z) (by rw [sl_at hki hil (Nat.le_refl _)]; exact hz))
        rwa [HF.out] at this
      have hf2 := hb1.free (f + k)
      have HB2 := Lib.hid (show Blk (wr.drew.setCell ⟨b, f + k, none⟩ (.int .i64 (valU y))) b (pre ++ (ordV (sl O i m) ++ post)) T by
        have := hb1.set (f + k) (.int .i64 (valU y))
        have hki2 := hki
        rw [← hm] at this hki2
        rw [← HF.out, mid_set y (by rw [sl_len hki2 hil]; omega), sl_step hki2 hil hy] at this
        rw [← HF.out, ← hm]
        exact this)
      have HK2 := Lib.hid (HK.out.trans (keep_setCell (S := fun j => j = b) (Keep.of_below (below_drew1 wr) _) (a := ⟨b, f + k, none⟩) rfl (.int .i64 (valU y))))
      have e1 : IntKind.i64.wrap ((k : Int) - 1) = (m : Int) := by rw [IntWalk.i64_in _ (by omega)]; omega
      have e2 : (k : Int) - 1 = (m : Int) := by omega
      have e3 : IntKind.i64.wrap (m : Int) = (m : Int) := IntWalk.i64_in _ (by omega)
      have hk6' : (k : Int) < 6 := by omega
      have hk6 : k < 6 := by omega
      have hm7 : m < 6 := by omega
      have hm8 : (m : Int) < 6 := by omega
      clear hy hz hb1 hk0 HB HK hil hm
      go_wp2
      go_still_tail 10, (by kernel_rfl)
      change wpList _ _ _ _ _ (World.drew _)
      go_wp2
      go_roundw
      case rel => exact ⟨m, rfl, by have := HM.out; omega, HB2.out, HK2.out⟩
      case measure => have := HM.out; simp [intOf]; omega
    · obtain rfl : k = 0 := by omega
      obtain ⟨y, hy⟩ : ∃ y, O[0]? = some y := ⟨O[0]'(by omega), List.getElem?_eq_getElem _⟩
      have hc2 : wr.cell? ⟨b, f, none⟩ = some (.int .i64 (valU y)) := by
        have := HB.out.cell (mid_at (pre := pre) (post := post) (O := sl O i 0) (i := 0) (c := y) (by rw [sl_at (Nat.zero_le _) hil (Nat.le_refl _)]; exact hy))
        rwa [HF.out] at this
      have hf2 := HB.out.free f
      have HB2 := Lib.hid (show Blk (wr.setCell ⟨b, f, none⟩ (.int .i64 v)) b (pre ++ (ordV (touchL O i) ++ post)) T by
        have := HB.out.set (pre.length + 0) (.int .i64 (valU c))
        rw [mid_set c (by rw [sl_len (Nat.zero_le _) hil]; omega), sl_end HC.out, Nat.add_zero, HF.out, HV.out] at this
        exact this)
      have HK2 := Lib.hid (HK.out.trans (keep_setCell (S := fun j => j = b) (Keep.refl _ wr) (a := ⟨b, f, none⟩) rfl (.int .i64 v)))
      clear hy hk0 HB HK hil
      go_wp2
      go_ret
      exact ⟨rfl, HB2.out, HK2.out⟩

set_option maxHeartbeats 1000000 in
theorem pfind_any (b : Nat) (pre post : List Value) (T : TypeId) (O : List UInt8) (p : Int) (w : World) (h : Blk w b (pre ++ (ordV O ++ post)) T) (hO : OrdP O) (h0 : 0 ≤ p) (h5 : p ≤ 5) :
    Calls Try.prog 75 #[.pointer (some ⟨b, pre.length, none⟩), .int .i64 p] w fun e w' => e = .returned (.int .i64 (placeP O p : Int)) ∧ Blk w' b (pre ++ (ordV (touchL O (placeP O p)) ++ post)) T ∧ Keep (fun j => j = b) w w' := by
  obtain ⟨-, hk6, hkp, hno⟩ := placeP_ok hO h0 h5
  have HL := Lib.hid hO.len
  have HT := Lib.hid (ptouch_any b pre post T O (placeP O p) _ w h hO.len hkp)
  have HNO := Lib.hid hno
  have HKP := Lib.hid hkp
  obtain ⟨K, hK⟩ : ∃ z, placeP O p = z := ⟨_, rfl⟩
  rw [hK] at HT HNO HKP hk6 ⊢
  have HB := Lib.hid h
  have HPV := Lib.hid (valU_letB h0 h5)
  obtain ⟨f, hf⟩ : ∃ z, pre.length = z := ⟨_, rfl⟩
  have HF := Lib.hid hf
  rw [hf] at HT ⊢
  clear h hO hkp hno hK hf
  go_enter Try.func75, Try.ntmps75
  go_wp2
  go_loop [5] (fun ks => ∃ k : Nat, ks = .int .i64 (k : Int) ∧ k ≤ K) (fun ks => K - (intOf ks).toNat)
  case atStart => exact ⟨0, rfl, Nat.zero_le _⟩
  case round =>
    obtain ⟨k, rfl, hk⟩ := hrel
    obtain ⟨y, hy⟩ : ∃ y, O[k]? = some y := ⟨O[k]'(by rw [HL.out]; omega), List.getElem?_eq_getElem _⟩
    have hc : w.cell? ⟨b, f + k, none⟩ = some (.int .i64 (valU y)) := by
      have := HB.out.cell (mid_at (pre := pre) (post := post) hy)
      rwa [HF.out] at this
    have hk6' : (k : Int) < 6 := by omega
    have hkk : k < 6 := by omega
    by_cases hlt : k < K
    · have hne : (valU y != p) = true := by simpa using HNO.out k y hlt hy
      clear hy
      go_wp2
      go_round
      case rel => exact ⟨k + 1, by go_num, by omega⟩
      case measure => simp [intOf]; omega
    · obtain rfl : k = K := by omega
      have hyp : valU y = p := by have := HKP.out; rw [hy] at this; cases this; exact HPV.out
      have hne : (valU y != p) = false := by simp [hyp]
      clear hy hyp
      go_wp2_with fail
      refine HT.out.mono ?_
      rintro e w1 ⟨rfl, hb, hkp⟩
      have HB1 := Lib.hid hb
      have HK1 := Lib.hid hkp
      clear HT hb hkp hc
      go_wp2
      go_ret
      exact ⟨rfl, HB1.out, HK1.out⟩

theorem ptabled_any (n : Int) (w : World) : Calls Try.prog 72 #[.int .i64 n] w fun e w' => e = .returned (.bool (tabP n)) ∧ w = w' := by
  unfold tabP
  by_cases h1 : 2 ≤ n
  · have d1 : decide (2 ≤ n) = true := decide_eq_true h1
    rw [d1, Bool.true_and]
    cases d2 : decide (n ≤ 6) with
    | true =>
      clear h1
      go_enter Try.func72, Try.ntmps72
      go_wp2
      go_ret
      exact ⟨rfl, rfl⟩
    | false =>
      clear h1
      go_enter Try.func72, Try.ntmps72
      go_wp2
      go_ret
      exact ⟨rfl, rfl⟩
  · have d1 : decide (2 ≤ n) = false := decide_eq_false h1
    rw [d1, Bool.false_and]
    clear h1
    go_enter Try.func72, Try.ntmps72
    go_wp2
    go_ret
    exact ⟨rfl, rfl⟩

/-- the two functions of package slices, with what the function value holds -/
theorem indexfunc_lb (v : Value) (l : List Int) (f : Nat) (lb : Array Value) (p : Int → Bool) (w : World) (hv : RInts w v l) (hent : ∀ (args : Array Value) (w : World), (callFunc f args).run Try.prog w = .ok (.enter f args) w)
    (hf : ∀ (x : Int), Calls Try.prog f (#[.int .i64 x] ++ lb) w fun e w' => e = .returned (.bool (p x)) ∧ w = w') :
    Calls Try.prog 79 #[v, .func (.func f) #[] lb] w fun e w' => e = .returned (.int .i64 (findI p l)) ∧ w = w' := by
  obtain ⟨a, cap, rfl, hc1, hc2⟩ := hv.shape
  have HF := Lib.hid hf
  clear hf
  go_enter Try.func79, Try.ntmps79
  go_wp2
  go_loop [5, 8] (fun x i => ∃ k : Nat, k ≤ l.length ∧ i = .int .i64 k ∧ Hid (∀ i y, i < k → l[i]? = some y → p y = false)) (fun _ i => l.length - (intOf i).toNat)
  case atStart => exact ⟨0, Nat.zero_le _, rfl, fun i y h _ => absurd h (by omega)⟩
  case round =>
    obtain ⟨k, hk, rfl, HALL⟩ := hrel
    by_cases hlt : k < l.length
    · obtain ⟨b, off, x, rfl, hbb, hx, hcx, hx1, hx2⟩ := hv.at hlt
      have HX := Lib.hid hx
      clear hx hv
      go_wp2_with fail
      refine (HF.out _).mono ?_
      rintro e w' ⟨rfl, rfl⟩
      cases hp : p x with
      | true =>
        have HP := Lib.hid hp
        clear hp
        go_wp2
        go_ret
        exact ⟨ret_int (findI_some HX.out HP.out HALL.out).symm, rfl⟩
      | false =>
        have HP := Lib.hid hp
        clear hp
        go_wp2
        go_round
        case rel =>
          refine ⟨k + 1, by omega, by go_num, fun i y hi hy => ?_⟩
          by_cases e : i = k
          · subst e
            have := HX.out
            rw [this] at hy
            cases hy
            exact HP.out
          · exact HALL.out i y (by omega) hy
        case measure => simp [intOf]; omega
    · obtain rfl : k = l.length := by omega
      go_wp2
      go_ret
      exact ⟨ret_int (findI_none fun i y hy => HALL.out i y ((List.getElem?_eq_some_iff.1 hy).1) hy).symm, rfl⟩
theorem containsfunc_lb (v : Value) (l : List Int) (f : Nat) (lb : Array Value) (p : Int → Bool) (w : World) (hv : RInts w v l) (hent : ∀ (args : Array Value) (w : World), (callFunc f args).run Try.prog w = .ok (.enter f args) w)
    (hf : ∀ (x : Int), Calls Try.prog f (#[.int .i64 x] ++ lb) w fun e w' => e = .returned (.bool (p x)) ∧ w = w') :
    Calls Try.prog 73 #[v, .func (.func f) #[] lb] w fun e w' => e = .returned (.bool (l.any p)) ∧ w = w' := by
  have HI := Lib.hid (indexfunc_lb v l f lb p w hv hent hf)
  obtain ⟨r, hr⟩ : ∃ r, findI p l = r := ⟨_, rfl⟩
  have hr2 := findI_any p l
  rw [hr] at HI hr2
  have HR := Lib.hid hr2
  clear hr2 hr hf hv hent
  go_enter Try.func73, Try.ntmps73
  go_wp2_with fail
  refine HI.out.mono ?_
  rintro e w' ⟨rfl, rfl⟩
  clear HI
  by_cases h0 : 0 ≤ r
  · go_wp2
    go_ret
    exact ⟨ret_bool (by rw [HR.out.1 h0]), rfl⟩
  · go_wp2
    go_ret
    exact ⟨ret_bool (by
      have : l.any p = false := by rw [Bool.eq_false_iff]; exact fun h => absurd (HR.out.2 h) (by omega)
      rw [this]
      simp
      try omega), rfl⟩

theorem pmay1_any (c : Nat) (t x : Int) (w : World) (hc : w.cell? ⟨c, 0, none⟩ = some (.int .i64 t)) :
    Calls Try.prog 74 #[.int .i64 x, .pointer (some ⟨c, 0, none⟩)] w fun e w' => e = .returned (.bool (inP t x)) ∧ w = w' := by
  unfold inP
  cases h1 : decide (x < 0) with
  | true =>
    go_enter Try.func74, Try.ntmps74
    go_wp2
    go_ret
    exact ⟨rfl, rfl⟩
  | false =>
    rw [Bool.false_or]
    cases h2 : decide (t ≤ x) with
    | true =>
      go_enter Try.func74, Try.ntmps74
      go_wp2
      go_ret
      exact ⟨rfl, rfl⟩
    | false =>
      go_enter Try.func74, Try.ntmps74
      go_wp2
      go_ret
      exact ⟨rfl, rfl⟩
set_option maxHeartbeats 1000000 in
theorem pmay_any (v : Value) (l : List Int) (t : Int) (w : World) (hv : RInts w v l) :
    Calls Try.prog 61 #[v, .int .i64 t] w fun e w' => e = .returned (.bool (mayP l t)) ∧ Below w.heap.size w w' := by
  have hmf' := hmf
  have hal := below_alloc w (.cells #[.int .i64 t] 3 (0, 0))
  have hc := (Blk.new w [.int .i64 t] 3).cell (i := 0) rfl
  have HT := Lib.hid (fun w => ptabled_any t w)
  have HC := Lib.hid (containsfunc_lb v l 74 #[.pointer (some ⟨w.heap.size, 0, none⟩)] (inP t) _ (hv.below hal) (fun args w => enter_of Try.func74 (by kernel_rfl) rfl args w) (fun x => pmay1_any w.heap.size t x _ hc))
  have HAL := Lib.hid hal
  obtain ⟨a, cap, rfl, hc1, hc2⟩ := hv.shape
  unfold mayP
  obtain ⟨q, hq⟩ : ∃ z, l.any (inP t) = z := ⟨_, rfl⟩
  obtain ⟨n, hn⟩ : ∃ z, l.length = z := ⟨_, rfl⟩
  rw [hq, hn] at HC
  rw [hq, hn]
  clear hv hal hq hn hc1
  cases htp : tabP t with
  | false =>
    rw [htp] at HT
    rw [Bool.false_and]
    clear htp HC
    go_enter Try.func61, Try.ntmps61
    go_wp2_with fail
    refine (HT.out _).mono ?_
    rintro e w1 ⟨rfl, rfl⟩
    go_wp2
    go_ret
    exact ⟨rfl, HAL.out⟩
  | true =>
    rw [htp] at HT
    rw [Bool.true_and]
    clear htp
    by_cases h0 : n = 0
    · subst h0
      clear HC
      go_enter Try.func61, Try.ntmps61
      go_wp2_with fail
      refine (HT.out _).mono ?_
      rintro e w1 ⟨rfl, rfl⟩
      go_wp2
      go_ret
      exact ⟨rfl, HAL.out⟩
    · have d0 : decide (n ≠ 0) = true := decide_eq_true h0
      have d1 : ((n : Int) == 0) = false := beq_eq_false_iff_ne.2 (by omega)
      rw [d0, Bool.true_and]
      by_cases hm : n ≤ 32767
      · have d2 : decide (n ≤ 32767) = true := decide_eq_true hm
        have d3 : decide ((32767 : Int) < (n : Int)) = false := decide_eq_false (by omega)
        rw [d2, Bool.true_and]
        clear d0 d2 h0
        cases q with
        | true =>
          go_enter Try.func61, Try.ntmps61
          go_wp2_with fail
          refine (HT.out _).mono ?_
          rintro e w1 ⟨rfl, rfl⟩
          clear HT
          go_wp2_with fail
          refine HC.out.mono ?_
          rintro e w1 ⟨rfl, rfl⟩
          go_wp2
          go_ret
          exact ⟨rfl, HAL.out⟩
        | false =>
          go_enter Try.func61, Try.ntmps61
          go_wp2_with fail
          refine (HT.out _).mono ?_
          rintro e w1 ⟨rfl, rfl⟩
          clear HT
          go_wp2_with fail
          refine HC.out.mono ?_
          rintro e w1 ⟨rfl, rfl⟩
          go_wp2
          go_ret
          exact ⟨rfl, HAL.out⟩
      · have d2 : decide (n ≤ 32767) = false := decide_eq_false hm
        have d3 : decide ((32767 : Int) < (n : Int)) = true := decide_eq_true (by omega)
        rw [d2, Bool.false_and]
        clear d0 d2 h0 HC
        go_enter Try.func61, Try.ntmps61
        go_wp2_with fail
        refine (HT.out _).mono ?_
        rintro e w1 ⟨rfl, rfl⟩
        go_wp2
        go_ret
        exact ⟨rfl, HAL.out⟩
end Go.Proofs.Ytoebnibhkdidhaa

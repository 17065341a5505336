/- Package canon: slices' Index and Contains; lens.between, lens.Share, whole; the references May, Share, Whole. -/
import Derived.Test.YtjpjdecbkekcfaaCanL
import Derived.Test.YtjpjdecbkekcfaaSame
namespace Go.Proofs.Ytjpjdecbkekcfaa
open Go.RowKit

theorem cellB {w w' : World} {a : Addr} {v : Value} (h : w.cell? a = some v) (k : Below w.heap.size w w') : w'.cell? a = some v :=
  (World.cell?_of_block (k.block a.block (World.block_lt_of_cell? w _ h))).trans h
theorem hmf : ∀ (fn : Fn) (first cap : Array Value) (w : World), (Instr.makeFunc fn first cap).run Try.prog w = .ok (.func fn first cap) w := fun _ _ _ _ => rfl
theorem below_drew1 (w : World) : Below w.heap.size w w.drew := below_drawn ⟨1, rfl⟩

def eqI (n : Int) (x : Int) : Bool := n == x
/-- the place of a number in a list, or -1 -/
def placeI (l : List Int) (n : Int) : Int := findI (eqI n) l

set_option maxHeartbeats 400000 in
theorem index_any (v : Value) (l : List Int) (n : Int) (w : World) (hv : RInts w v l) :
    Calls Try.prog 79 #[v, .int .i64 n] w fun e w' => e = .returned (.int .i64 (placeI l n)) ∧ w = w' := by
  obtain ⟨a, cap, rfl, hc1, hc2⟩ := hv.shape
  obtain ⟨R, hR⟩ : ∃ R, placeI l n = R := ⟨_, rfl⟩
  have HR := Lib.hid hR
  rw [hR]
  clear hR
  go_enter Try.func79, Try.ntmps79
  go_wp2
  go_loop [5, 8] (fun x i => ∃ k : Nat, k ≤ l.length ∧ i = .int .i64 k ∧ Hid (∀ (i : Nat) (y : Int), i < k → l[i]? = some y → eqI n y = false)) (fun _ i => l.length - (intOf i).toNat)
  case atStart => exact ⟨0, Nat.zero_le _, rfl, fun i y h _ => absurd h (by omega)⟩
  case round =>
    obtain ⟨k, hk, rfl, HALL⟩ := hrel
    by_cases hlt : k < l.length
    · obtain ⟨b, off, x, rfl, hbb, hx, hcx, hx1, hx2⟩ := hv.at hlt
      have HX := Lib.hid hx
      clear hx hv
      cases hp : (n == x) with
      | true =>
        have HP := Lib.hid (show eqI n x = true from hp)
        go_wp2
        go_ret
        exact ⟨ret_int (by rw [← HR.out]; exact (findI_some HX.out HP.out HALL.out).symm), rfl⟩
      | false =>
        have HP := Lib.hid (show eqI n x = false from hp)
        go_wp2
        go_round
        case rel =>
          refine ⟨k + 1, by omega, by go_num, fun i y hi hy => ?_⟩
          by_cases e : i = k
          · subst e
            have := HX.out
            rw [this] at hy
            cases hy
            exact HP.out
          · exact HALL.out i y (by omega) hy
        case measure => simp [intOf]; omega
    · obtain rfl : k = l.length := by omega
      go_wp2
      go_ret
      exact ⟨ret_int (by rw [← HR.out]; exact (findI_none fun i y hy => HALL.out i y ((List.getElem?_eq_some_iff.1 hy).1) hy).symm), rfl⟩

def hasI (l : List Int) (n : Int) : Bool := l.any (eqI n)
theorem placeI_has (l : List Int) (n : Int) : (0 ≤ placeI l n) ↔ hasI l n = true := findI_any _ _

theorem contains_any (v : Value) (l : List Int) (n : Int) (w : World) (hv : RInts w v l) :
    Calls Try.prog 72 #[v, .int .i64 n] w fun e w' => e = .returned (.bool (hasI l n)) ∧ w = w' := by
  have HI := Lib.hid (index_any v l n w hv)
  obtain ⟨r, hr⟩ : ∃ r, placeI l n = r := ⟨_, rfl⟩
  have hr2 := placeI_has l n
  rw [hr] at HI hr2
  have HR := Lib.hid hr2
  clear hr2 hr hv
  go_enter Try.func72, Try.ntmps72
  go_wp2_with fail
  refine HI.out.mono ?_
  rintro e w' ⟨rfl, rfl⟩
  clear HI
  by_cases h0 : 0 ≤ r
  · go_wp2
    go_ret
    exact ⟨ret_bool (by rw [HR.out.1 h0]), rfl⟩
  · go_wp2
    go_ret
    exact ⟨ret_bool (by
      have : hasI l n = false := by rw [Bool.eq_false_iff]; exact fun h => absurd (HR.out.2 h) (by omega)
      rw [this]
      simp
      try omega), rfl⟩

/-- the two functions of package slices, with what the function value holds -/
theorem indexfunc_lb (v : Value) (l : List Int) (f : Nat) (lb : Array Value) (p : Int → Bool) (w : World) (hv : RInts w v l) (hent : ∀ (args : Array Value) (w : World), (callFunc f args).run Try.prog w = .ok (.enter f args) w)
    (hf : ∀ (x : Int), Calls Try.prog f (#[.int .i64 x] ++ lb) w fun e w' => e = .returned (.bool (p x)) ∧ w = w') :
    Calls Try.prog 81 #[v, .func (.func f) #[] lb] w fun e w' => e = .returned (.int .i64 (findI p l)) ∧ w = w' := by
  obtain ⟨a, cap, rfl, hc1, hc2⟩ := hv.shape
  have HF := Lib.hid hf
  clear hf
  go_enter Try.func81, Try.ntmps81
  go_wp2
  go_loop [5, 8] (fun x i => ∃ k : Nat, k ≤ l.length ∧ i = .int .i64 k ∧ Hid (∀ i y, i < k → l[i]? = some y → p y = false)) (fun _ i => l.length - (intOf i).toNat)
  case atStart => exact ⟨0, Nat.zero_le _, rfl, fun i y h _ => absurd h (by omega)⟩
  case round =>
    obtain ⟨k, hk, rfl, HALL⟩ := hrel
    by_cases hlt : k < l.length
    · obtain ⟨b, off, x, rfl, hbb, hx, hcx, hx1, hx2⟩ := hv.at hlt
      have HX := Lib.hid hx
      clear hx hv
      go_wp2_with fail
      refine (HF.out _).mono ?_
      rintro e w' ⟨rfl, rfl⟩
      cases hp : p x with
      | true =>
        have HP := Lib.hid hp
        clear hp
        go_wp2
        go_ret
        exact ⟨ret_int (findI_some HX.out HP.out HALL.out).symm, rfl⟩
      | false =>
        have HP := Lib.hid hp
        clear hp
        go_wp2
        go_round
        case rel =>
          refine ⟨k + 1, by omega, by go_num, fun i y hi hy => ?_⟩
          by_cases e : i = k
          · subst e
            have := HX.out
            rw [this] at hy
            cases hy
            exact HP.out
          · exact HALL.out i y (by omega) hy
        case measure => simp [intOf]; omega
    · obtain rfl : k = l.length := by omega
      go_wp2
      go_ret
      exact ⟨ret_int (findI_none fun i y hy => HALL.out i y ((List.getElem?_eq_some_iff.1 hy).1) hy).symm, rfl⟩
theorem containsfunc_lb (v : Value) (l : List Int) (f : Nat) (lb : Array Value) (p : Int → Bool) (w : World) (hv : RInts w v l) (hent : ∀ (args : Array Value) (w : World), (callFunc f args).run Try.prog w = .ok (.enter f args) w)
    (hf : ∀ (x : Int), Calls Try.prog f (#[.int .i64 x] ++ lb) w fun e w' => e = .returned (.bool (p x)) ∧ w = w') :
    Calls Try.prog 74 #[v, .func (.func f) #[] lb] w fun e w' => e = .returned (.bool (l.any p)) ∧ w = w' := by
  have HI := Lib.hid (indexfunc_lb v l f lb p w hv hent hf)
  obtain ⟨r, hr⟩ : ∃ r, findI p l = r := ⟨_, rfl⟩
  have hr2 := findI_any p l
  rw [hr] at HI hr2
  have HR := Lib.hid hr2
  clear hr2 hr hf hv hent
  go_enter Try.func74, Try.ntmps74
  go_wp2_with fail
  refine HI.out.mono ?_
  rintro e w' ⟨rfl, rfl⟩
  clear HI
  by_cases h0 : 0 ≤ r
  · go_wp2
    go_ret
    exact ⟨ret_bool (by rw [HR.out.1 h0]), rfl⟩
  · go_wp2
    go_ret
    exact ⟨ret_bool (by
      have : l.any p = false := by rw [Bool.eq_false_iff]; exact fun h => absurd (HR.out.2 h) (by omega)
      rw [this]
      simp
      try omega), rfl⟩


theorem between1_any (c d : Nat) (lo hi x : Int) (w : World) (hc : w.cell? ⟨c, 0, none⟩ = some (.int .i64 lo)) (hd : w.cell? ⟨d, 0, none⟩ = some (.int .i64 hi)) :
    Calls Try.prog 82 #[.int .i64 x, .pointer (some ⟨c, 0, none⟩), .pointer (some ⟨d, 0, none⟩)] w fun e w' => e = .returned (.bool (outC lo hi x)) ∧ w = w' := by
  unfold outC
  cases h1 : decide (x < lo) with
  | true =>
    go_enter Try.func82, Try.ntmps82
    go_wp2
    go_ret
    exact ⟨rfl, rfl⟩
  | false =>
    rw [Bool.false_or]
    cases h2 : decide (hi < x) with
    | true =>
      go_enter Try.func82, Try.ntmps82
      go_wp2
      go_ret
      exact ⟨rfl, rfl⟩
    | false =>
      go_enter Try.func82, Try.ntmps82
      go_wp2
      go_ret
      exact ⟨rfl, rfl⟩
set_option maxHeartbeats 1000000 in
theorem between_any (v : Value) (l : List Int) (lo hi : Int) (w : World) (hv : RInts w v l) :
    Calls Try.prog 78 #[v, .int .i64 lo, .int .i64 hi] w fun e w' => e = .returned (.bool (l.all (rngC lo hi))) ∧ Below w.heap.size w w' := by
  have hmf' := hmf
  have hal := below_alloc w (.cells #[.int .i64 lo] 3 (0, 0))
  have hal2 := below_alloc (w.alloc (.cells #[.int .i64 lo] 3 (0, 0))) (.cells #[.int .i64 hi] 3 (0, 0))
  have hsz : (w.alloc (.cells #[.int .i64 lo] 3 (0, 0))).heap.size = w.heap.size + 1 := by simp
  have hb2 := (Blk.new (w.alloc (.cells #[.int .i64 lo] 3 (0, 0))) [.int .i64 hi] 3).cell (i := 0) rfl
  rw [hsz] at hb2
  have hc := cellB ((Blk.new w [.int .i64 lo] 3).cell (i := 0) rfl) hal2
  have HC := Lib.hid (containsfunc_lb v l 82 #[.pointer (some ⟨w.heap.size, 0, none⟩), .pointer (some ⟨w.heap.size + 1, 0, none⟩)] (outC lo hi) _ ((hv.below hal).below hal2) (fun args w => enter_of Try.func82 (by kernel_rfl) rfl args w) (fun x => between1_any w.heap.size (w.heap.size + 1) lo hi x _ hc hb2))
  have HAL := Lib.hid (below_two hal hal2)
  obtain ⟨a, cap, rfl, hc1, hc2⟩ := hv.shape
  have hq := outC_any lo hi l
  rw [hq] at HC
  obtain ⟨q, hqq⟩ : ∃ z, l.all (rngC lo hi) = z := ⟨_, rfl⟩
  rw [hqq] at HC ⊢
  clear hv hal hal2 hc1 hc hb2 hq hqq
  go_enter Try.func78, Try.ntmps78
  go_wp2_with fail
  refine HC.out.mono ?_
  rintro e w1 ⟨rfl, rfl⟩
  cases q with
  | true =>
    go_wp2
    go_ret
    exact ⟨rfl, HAL.out⟩
  | false =>
    go_wp2
    go_ret
    exact ⟨rfl, HAL.out⟩

set_option maxHeartbeats 1000000 in
theorem lshare_no (v : Value) (l : List Int) (w : World) (hv : RInts w v l) (hl : l.length ≤ 258) (h : l.all (rngC 0 20) = false) :
    Calls Try.prog 71 #[v] w fun e w' => e = .returned (.tuple #[.int .i64 0, .int .i64 1]) ∧ Below w.heap.size w w' := by
  have HB := Lib.hid (between_any v l 0 20 w hv)
  rw [h] at HB
  have t1 : decide ((258 : Int) < (l.length : Int)) = false := decide_eq_false (by omega)
  obtain ⟨a, cap, rfl, hc1, hc2⟩ := hv.shape
  clear hv h
  go_enter Try.func71, Try.ntmps71
  go_wp2_with fail
  refine HB.out.mono ?_
  rintro e w1 ⟨rfl, hb⟩
  go_wp2
  go_ret2
  exact ⟨rfl, hb⟩

set_option maxHeartbeats 1000000 in
theorem lshare_any (v : Value) (l : List Int) (w : World) (hv : RInts w v l) (hl : l.length ≤ 258) (h : l.all (rngC 0 20) = true) :
    Calls Try.prog 71 #[v] w fun e w' => e = .returned (.tuple #[.int .i64 (shareC l : Int), .int .i64 0]) ∧ Below w.heap.size w w' := by
  have HB := Lib.hid (between_any v l 0 20 w hv)
  have HA := Lib.hid (allC_iff.1 h)
  rw [h] at HB
  have t1 : decide ((258 : Int) < (l.length : Int)) = false := decide_eq_false (by omega)
  have HV := Lib.hid hv
  obtain ⟨a, cap, rfl, hc1, hc2⟩ := hv.shape
  clear hv h
  go_enter Try.func71, Try.ntmps71
  go_wp2_with fail
  refine HB.out.mono ?_
  rintro e w1 ⟨rfl, hb⟩
  have HV1 := Lib.hid (HV.out.below hb)
  have HBW := Lib.hid hb
  clear HB HV hb
  go_wp2
  go_loop [4, 17] (fun tot i => ∃ k : Nat, k ≤ l.length ∧ i = .int .i64 (k : Int) ∧ ∃ t : Nat, tot = .int .i64 (t : Int) ∧ Hid (t = shareC (l.take k))) (fun _ i => l.length - (intOf i).toNat)
  case atStart => exact ⟨0, Nat.zero_le _, rfl, 0, rfl, rfl⟩
  case round =>
    obtain ⟨k, hk, rfl, t, rfl, HTT⟩ := hrel
    by_cases hlt : k < l.length
    · obtain ⟨b, off, x, rfl, hbb, hx, hcx, -, -⟩ := HV1.out.at hlt
      have hx20 := HA.out x (List.mem_of_getElem? hx)
      have HS := Lib.hid (shareC_take hx)
      have hle := shareC_le (l.take k)
      rw [List.length_take, Nat.min_eq_left (by omega)] at hle
      obtain ⟨d, hd⟩ : ∃ d, 20 - x.toNat = d := ⟨_, rfl⟩
      have hwt : wt x = 2 ^ d := by unfold wt; rw [hd]
      have hle2 := wt_le x
      obtain ⟨p, hp⟩ : ∃ p, wt x = p := ⟨_, rfl⟩
      rw [hp] at HS hwt hle2
      rw [← HTT.out] at HS hle
      have hdi : (20 : Int) - x = (d : Int) := by omega
      have hdw : IntKind.i64.wrap (d : Int) = (d : Int) := IntWalk.i64_in _ (by omega)
      have hd0 : (0 : Int) ≤ (d : Int) := by omega
      have hd64 : (d : Int) ≤ 64 := by omega
      have hpi : (2 : Int) ^ d = (p : Int) := by rw [hwt]; simp
      have hpw : IntKind.i64.wrap (p : Int) = (p : Int) := IntWalk.i64_in _ (by omega)
      have htb : t ≤ 300000000 := by omega
      clear hx hx20 hd hwt hp hle
      go_wp2
      go_round
      case rel => exact ⟨k + 1, by omega, by go_num, t + p, by go_num, HS.out.symm⟩
      case measure => simp [intOf]; omega
    · obtain rfl : k = l.length := by omega
      have HE := Lib.hid (show t = shareC l by rw [HTT.out, List.take_length])
      go_wp2
      go_ret2
      exact ⟨by rw [HE.out]; rfl, HBW.out⟩

theorem wholeC_split (l : List Int) : wholeC l = (l.all (rngC 0 20) && (decide (shareC l = 1048576) && !hasI l 0)) := by
  have h : l.all (rngC 1 20) = (l.all (rngC 0 20) && !hasI l 0) := by
    rw [Bool.eq_iff_iff, Bool.and_eq_true, allC_iff, allC_iff, Bool.not_eq_true']
    unfold hasI
    rw [List.any_eq_false]
    unfold eqI
    constructor
    · intro h
      exact ⟨fun x hx => by have := h x hx; omega, fun x hx e => by have := h x hx; have e' : (0 : Int) = x := by simpa using e
                                                                    omega⟩
    · rintro ⟨h1, h2⟩ x hx
      have a := h1 x hx
      have b := h2 x hx
      have : (0 : Int) ≠ x := fun e => b (by simpa using e)
      omega
  unfold wholeC
  rw [h, Bool.and_assoc, Bool.and_comm (!hasI l 0)]
set_option maxHeartbeats 1000000 in
theorem cwhole_any (v : Value) (l : List Int) (w : World) (hv : RInts w v l) (hl : l.length ≤ 258) :
    Calls Try.prog 52 #[v] w fun e w' => e = .returned (.bool (wholeC l)) ∧ Below w.heap.size w w' := by
  have HC := Lib.hid (fun w h => contains_any v l 0 w h)
  have HV := Lib.hid hv
  have HS1 := Lib.hid (lshare_no v l w hv hl)
  have HS2 := Lib.hid (lshare_any v l w hv hl)
  have hb := shareC_le l
  rw [wholeC_split]
  obtain ⟨a, cap, rfl, hc1, hc2⟩ := hv.shape
  obtain ⟨s, hs⟩ : ∃ z, shareC l = z := ⟨_, rfl⟩
  rw [hs] at HS2 hb
  rw [hs]
  obtain ⟨q, hq⟩ : ∃ z, hasI l 0 = z := ⟨_, rfl⟩
  rw [hq] at HC
  rw [hq]
  clear hv hs hq
  cases h : l.all (rngC 0 20) with
  | false =>
    have HS := Lib.hid (HS1.out h)
    rw [Bool.false_and]
    clear h
    go_enter Try.func52, Try.ntmps52
    go_wp2_with fail
    refine HS.out.mono ?_
    rintro e w1 ⟨rfl, hb1⟩
    go_wp2
    go_ret
    exact ⟨rfl, hb1⟩
  | true =>
    have HS := Lib.hid (HS2.out h)
    rw [Bool.true_and]
    clear h
    by_cases hs : s = 1048576
    · subst hs
      rw [decide_eq_true rfl, Bool.true_and]
      cases q with
      | true =>
        go_enter Try.func52, Try.ntmps52
        go_wp2_with fail
        refine HS.out.mono ?_
        rintro e w1 ⟨rfl, hb1⟩
        have HB1 := Lib.hid hb1
        clear hb1
        go_wp2_with fail
        refine (HC.out _ (HV.out.below HB1.out)).mono ?_
        rintro e w2 ⟨rfl, rfl⟩
        go_wp2
        go_ret
        exact ⟨rfl, HB1.out⟩
      | false =>
        go_enter Try.func52, Try.ntmps52
        go_wp2_with fail
        refine HS.out.mono ?_
        rintro e w1 ⟨rfl, hb1⟩
        have HB1 := Lib.hid hb1
        clear hb1
        go_wp2_with fail
        refine (HC.out _ (HV.out.below HB1.out)).mono ?_
        rintro e w2 ⟨rfl, rfl⟩
        go_wp2
        go_ret
        exact ⟨rfl, HB1.out⟩
    · have d1 : ((s : Int) == 1048576) = false := beq_eq_false_iff_ne.2 (by omega)
      rw [decide_eq_false hs, Bool.false_and]
      clear hs
      go_enter Try.func52, Try.ntmps52
      go_wp2_with fail
      refine HS.out.mono ?_
      rintro e w1 ⟨rfl, hb1⟩
      go_wp2
      go_ret
      exact ⟨rfl, hb1⟩

theorem all_take {p : Int → Bool} {l : List Int} {k : Nat} {x : Int} (hx : l[k]? = some x) : (l.take (k + 1)).all p = ((l.take k).all p && p x) := by rw [take_snoc hx]; simp
theorem all_false {p : Int → Bool} {l : List Int} {k : Nat} {x : Int} (hx : l[k]? = some x) (h : p x = false) : l.all p = false := by
  rw [Bool.eq_false_iff]
  intro ha
  rw [List.all_eq_true] at ha
  rw [ha x (List.mem_of_getElem? hx)] at h
  cases h

set_option maxHeartbeats 400000 in
theorem refmay09_any (v : Value) (l : List Int) (lo hi : Int) (w : World) (hv : RInts w v l) :
    Calls Try.prog 54 #[v, .int .i64 lo, .int .i64 hi] w fun e w' => e = .returned (.bool (l.all (rngC lo hi))) ∧ w = w' := by
  have HV := Lib.hid hv
  obtain ⟨a, cap, rfl, hc1, hc2⟩ := hv.shape
  clear hv
  go_enter Try.func54, Try.ntmps54
  go_wp2
  go_loop [8, 11] (fun _ i => ∃ k : Nat, k ≤ l.length ∧ i = .int .i64 k ∧ Hid ((l.take k).all (rngC lo hi) = true)) (fun _ i => l.length - (intOf i).toNat)
  case atStart => exact ⟨0, Nat.zero_le _, rfl, rfl⟩
  case round =>
    obtain ⟨k, hk, rfl, HA⟩ := hrel
    by_cases hlt : k < l.length
    · obtain ⟨b, off, x, rfl, hbb, hx, hcx, -, -⟩ := HV.out.at hlt
      have HX := Lib.hid hx
      have HT := Lib.hid (all_take (p := rngC lo hi) hx)
      clear hx
      by_cases h1 : x < lo
      · have hd1 : decide (x < lo) = true := decide_eq_true h1
        have HE := Lib.hid (all_false (p := rngC lo hi) HX.out (by unfold rngC; rw [decide_eq_false (show ¬ lo ≤ x by omega)]; rfl))
        clear h1
        go_wp2
        go_ret
        exact ⟨ret_bool HE.out.symm, rfl⟩
      · have hd1 : decide (x < lo) = false := decide_eq_false h1
        by_cases h2 : hi < x
        · have hd2 : decide (hi < x) = true := decide_eq_true h2
          have HE := Lib.hid (all_false (p := rngC lo hi) HX.out (by unfold rngC; rw [decide_eq_false (show ¬ x ≤ hi by omega), Bool.and_false]))
          clear h1 h2
          go_wp2
          go_ret
          exact ⟨ret_bool HE.out.symm, rfl⟩
        · have hd2 : decide (hi < x) = false := decide_eq_false h2
          have HE := Lib.hid (show (l.take (k + 1)).all (rngC lo hi) = true by rw [HT.out, HA.out]; unfold rngC; rw [decide_eq_true (show lo ≤ x by omega), decide_eq_true (show x ≤ hi by omega)]; rfl)
          clear h1 h2
          go_wp2
          go_round
          case rel => exact ⟨k + 1, by omega, by go_num, HE.out⟩
          case measure => simp [intOf]; omega
    · obtain rfl : k = l.length := by omega
      have HE := Lib.hid (show l.all (rngC lo hi) = true by have := HA.out; rwa [List.take_length] at this)
      go_wp2
      go_ret
      exact ⟨ret_bool HE.out.symm, rfl⟩


set_option maxHeartbeats 2000000 in
theorem refshare_any (v : Value) (l : List Int) (w : World) (hv : RInts w v l) (hl : l.length ≤ 1000) (h : ∀ x ∈ l, 1 ≤ x ∧ x ≤ 20) :
    Calls Try.prog 55 #[v] w fun e w' => e = .returned (.int .i64 (shareC l : Int)) ∧ w = w' := by
  have HA := Lib.hid h
  have HV := Lib.hid hv
  obtain ⟨a, cap, rfl, hc1, hc2⟩ := hv.shape
  clear hv h
  go_enter Try.func55, Try.ntmps55
  go_wp2
  go_loop [3, 9] (fun tot i => ∃ k : Nat, k ≤ l.length ∧ i = .int .i64 (k : Int) ∧ ∃ t : Nat, tot = .int .i64 (t : Int) ∧ Hid (t = shareC (l.take k))) (fun _ i => l.length - (intOf i).toNat)
  case atStart => exact ⟨0, Nat.zero_le _, rfl, 0, rfl, rfl⟩
  case round =>
    obtain ⟨k, hk, rfl, t, rfl, HTT⟩ := hrel
    by_cases hlt : k < l.length
    · obtain ⟨b, off, x, rfl, hbb, hx, hcx, -, -⟩ := HV.out.at hlt
      have hx20 := HA.out x (List.mem_of_getElem? hx)
      have HS := Lib.hid (shareC_take hx)
      have hle := shareC_le (l.take k)
      rw [List.length_take, Nat.min_eq_left (by omega)] at hle
      obtain ⟨d, hd⟩ : ∃ d, 20 - x.toNat = d := ⟨_, rfl⟩
      have hwt : wt x = 2 ^ d := by unfold wt; rw [hd]
      have hle2 := wt_le x
      rw [← HTT.out] at HS hle
      rw [hwt] at HS hle2
      have hdi : (20 : Int) - x = (d : Int) := by omega
      have hdw : IntKind.i64.wrap (d : Int) = (d : Int) := IntWalk.i64_in _ (by omega)
      have hd19 : d ≤ 19 := by omega
      have htb : t ≤ 1048576000 := by omega
      have HWT := Lib.hid hle2
      have HX := Lib.hid hx20
      clear hx hx20 hd hwt hle hle2
      go_wp2
      go_loop [6, 15] (fun pt j => ∃ m p : Nat, m ≤ d ∧ j = .int .i64 (m : Int) ∧ pt = .int .i64 (p : Int) ∧ Hid (2 ^ m = p)) (fun _ j => d - (intOf j).toNat)
      case atStart => exact ⟨0, 1, Nat.zero_le _, rfl, rfl, rfl⟩
      case round =>
        obtain ⟨m, p, hm, rfl, rfl, HP2⟩ := hrel
        have hpm : 2 ^ m ≤ 1048576 := Nat.le_trans (Nat.pow_le_pow_right (by decide) (show m ≤ 20 by omega)) (by decide)
        have HP := Lib.hid (show 2 ^ (m + 1) = 2 * 2 ^ m by rw [Nat.pow_succ, Nat.mul_comm])
        by_cases hlt2 : m < d
        · rw [HP2.out] at HP hpm
          have hlt3 : (m : Int) < (d : Int) := by omega
          go_wp2
          go_round
          case rel => exact ⟨m + 1, 2 * p, by omega, by go_num, by go_num, HP.out⟩
          case measure => simp [intOf]; omega
        · obtain rfl : m = d := by omega
          rw [HP2.out] at HS hpm
          clear HP
          have hlt3 : ¬ (m : Int) < (m : Int) := by omega
          go_wp2
          go_round
          case rel => exact ⟨k + 1, by omega, by go_num, t + p, by go_num, HS.out.symm⟩
          case measure => simp [intOf]; omega
    · obtain rfl : k = l.length := by omega
      have HE := Lib.hid (show t = shareC l by rw [HTT.out, List.take_length])
      go_wp2
      go_ret
      exact ⟨ret_int (by rw [HE.out]), rfl⟩
set_option maxHeartbeats 1000000 in
theorem refwhole_any (v : Value) (l : List Int) (w : World) (hv : RInts w v l) (hl : l.length ≤ 1000) :
    Calls Try.prog 17 #[v] w fun e w' => e = .returned (.bool (wholeC l)) ∧ w = w' := by
  have HM := Lib.hid (refmay09_any v l 1 20 w hv)
  have HS0 := Lib.hid (refshare_any v l w hv hl)
  have hb := shareC_le l
  obtain ⟨a, cap, rfl, hc1, hc2⟩ := hv.shape
  unfold wholeC
  obtain ⟨s, hs⟩ : ∃ z, shareC l = z := ⟨_, rfl⟩
  rw [hs] at HS0 hb
  rw [hs]
  clear hv hs
  cases h : l.all (rngC 1 20) with
  | false =>
    rw [h] at HM
    rw [Bool.false_and]
    clear h HS0
    go_enter Try.func17, Try.ntmps17
    go_wp2_with fail
    refine HM.out.mono ?_
    rintro e w1 ⟨rfl, rfl⟩
    go_wp2
    go_ret
    exact ⟨rfl, rfl⟩
  | true =>
    have HS := Lib.hid (HS0.out (allC_iff.1 h))
    rw [h] at HM
    rw [Bool.true_and]
    clear h HS0
    by_cases hs : s = 1048576
    · subst hs
      rw [decide_eq_true rfl]
      go_enter Try.func17, Try.ntmps17
      go_wp2_with fail
      refine HM.out.mono ?_
      rintro e w1 ⟨rfl, rfl⟩
      go_wp2_with fail
      refine HS.out.mono ?_
      rintro e w1 ⟨rfl, rfl⟩
      go_wp2
      go_ret
      exact ⟨rfl, rfl⟩
    · have d1 : ((s : Int) == 1048576) = false := beq_eq_false_iff_ne.2 (by omega)
      rw [decide_eq_false hs]
      clear hs
      go_enter Try.func17, Try.ntmps17
      go_wp2_with fail
      refine HM.out.mono ?_
      rintro e w1 ⟨rfl, rfl⟩
      go_wp2_with fail
      refine HS.out.mono ?_
      rintro e w1 ⟨rfl, rfl⟩
      go_wp2
      go_ret
      exact ⟨rfl, rfl⟩
end Go.Proofs.Ytjpjdecbkekcfaa

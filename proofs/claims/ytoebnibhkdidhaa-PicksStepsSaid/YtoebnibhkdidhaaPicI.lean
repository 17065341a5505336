/- Package picks: the reference Read. -/
import Derived.Test.YtoebnibhkdidhaaPicH
namespace Go.Proofs.Ytoebnibhkdidhaa
open Go.RowKit

theorem gotzero : ∀ w : World, (zeroValue 60).run Try.prog w = .ok (.agg #[.slice none 0 0, .int .i64 0, .int .i64 0, .int .i64 0, .int .i64 0]) w := fun _ => by kernel_rfl

theorem stx_idx {s : ByteArray} {all : List Bool} (hs : s = stx all) {c : Nat} {x : Bool} {r : List Bool} (hd : all.drop c = x :: r) : ∃ h : c < s.size, s[c] = chB x := by
  have h1 := (drop_one hd).2
  have hsz : s.size = all.length := by rw [hs, stx_size]
  have hx : all[c]? = some x := by
    have := congrArg (fun l => l[0]?) hd
    simpa using this
  exact ⟨by omega, stx_at hs hx (by omega)⟩

/-- what the document's Read tells -/
def RefQ (all : List Bool) (w : World) (e : Ending) (w' : World) : Prop :=
  ∃ v, e = .returned (.agg #[v, .int .i64 ((refP all).2.1 : Int), .int .i64 ((refP all).2.2.1 : Int), .int .i64 ((refP all).2.2.2.1 : Int), .int .i64 (refP all).2.2.2.2]) ∧ RInts w' v (refP all).1 ∧ FreshV w.heap.size v ∧ Below w.heap.size w w'
/-- the end of it: the cells are told -/
theorem refq_end {all : List Bool} {w wr : World} {v : Value} {rl : List Int} {rt ru ro : Nat} {re : Int} (hr : refP all = (rl, rt, ru, ro, re)) (hb : Below w.heap.size w wr) (hv : RInts wr v rl) (hf : FreshV w.heap.size v) (hne : v.ownBlock ≠ some w.heap.size) (a0 a1 a2 a3 a4 : Value) :
    RefQ all w (.returned (.agg #[v, .int .i64 (rt : Int), .int .i64 (ru : Int), .int .i64 (ro : Int), .int .i64 re])) (((((wr.setCell ⟨w.heap.size, 0, none⟩ a0).setCell ⟨w.heap.size, 1, none⟩ a1).setCell ⟨w.heap.size, 2, none⟩ a2).setCell ⟨w.heap.size, 3, none⟩ a3).setCell ⟨w.heap.size, 4, none⟩ a4) := by
  have hk : Keep (fun j => j = w.heap.size) wr (((((wr.setCell ⟨w.heap.size, 0, none⟩ a0).setCell ⟨w.heap.size, 1, none⟩ a1).setCell ⟨w.heap.size, 2, none⟩ a2).setCell ⟨w.heap.size, 3, none⟩ a3).setCell ⟨w.heap.size, 4, none⟩ a4) :=
    keep_setCell (S := fun j => j = w.heap.size) (keep_setCell (S := fun j => j = w.heap.size) (keep_setCell (S := fun j => j = w.heap.size) (keep_setCell (S := fun j => j = w.heap.size) (keep_setCell (S := fun j => j = w.heap.size) (Keep.refl _ _) rfl _) rfl _) rfl _) rfl _) rfl _
  refine ⟨v, by rw [hr], ?_, hf, hb.trans (hk.below hb.size (fun j hj e => by have : j = w.heap.size := e; omega))⟩
  rw [hr]
  exact hv.keep hk (fun g hg e => hne (by have e' : g = w.heap.size := e; rw [hg, e']))

theorem refq_new {all : List Bool} {w : World} {ro : Nat} {re : Int} (hr : refP all = ([], 0, 0, ro, re)) (o : Obj) : RefQ all w (.returned (.agg #[.slice none 0 0, .int .i64 ((0 : Nat) : Int), .int .i64 ((0 : Nat) : Int), .int .i64 (ro : Int), .int .i64 re])) (w.alloc o) :=
  ⟨_, by rw [hr], by rw [hr]; exact RInts.nil _, FreshV.nil _, below_alloc _ _⟩

theorem let_nat {c : UInt8} (h0 : 0 ≤ valU c) (h5 : valU c ≤ 5) : c = 48 ∨ c = 49 ∨ c = 50 ∨ c = 51 ∨ c = 52 ∨ c = 53 := by
  have h : c.toNat = 48 ∨ c.toNat = 49 ∨ c.toNat = 50 ∨ c.toNat = 51 ∨ c.toNat = 52 ∨ c.toNat = 53 := by unfold valU at h0 h5; omega
  rcases h with h | h | h | h | h | h
  · exact .inl (UInt8.toNat_inj.1 h)
  · exact .inr (.inl (UInt8.toNat_inj.1 h))
  · exact .inr (.inr (.inl (UInt8.toNat_inj.1 h)))
  · exact .inr (.inr (.inr (.inl (UInt8.toNat_inj.1 h))))
  · exact .inr (.inr (.inr (.inr (.inl (UInt8.toNat_inj.1 h)))))
  · exact .inr (.inr (.inr (.inr (.inr (UInt8.toNat_inj.1 h)))))

set_option maxHeartbeats 4000000 in
set_option maxRecDepth 100000 in
theorem refread_any (s : ByteArray) (all : List Bool) (w : World) (hs : s = stx all) (hl : all.length ≤ 10000) :
    Calls Try.prog 33 #[.string s] w (RefQ all w) := by
  have HS := Lib.hid hs
  have HZ := Lib.hid (show s.size = all.length by rw [hs, stx_size])
  have HLL := Lib.hid hl
  have hsz : s.size ≤ 10000 := by rw [hs, stx_size]; exact hl
  have hzg := gotzero
  have HB0 := Lib.hid (Blk.new w [.slice none 0 0, .int .i64 0, .int .i64 0, .int .i64 0, .int .i64 0] 60)
  have HAL := Lib.hid (below_alloc w (.cells #[.slice none 0 0, .int .i64 0, .int .i64 0, .int .i64 0, .int .i64 0] 60 (0, 0)))
  by_cases h18 : all.length < 18
  · have HE := Lib.hid (show refP all = ([], 0, 0, 0, 3) by unfold refP goP; rw [if_pos rfl, if_pos h18])
    have ht : decide ((s.size : Int) < 18) = true := decide_eq_true (by have := HZ.out; omega)
    have c0 := HB0.out.cell (i := 0) rfl
    have c1 := HB0.out.cell (i := 1) rfl
    have c2 := HB0.out.cell (i := 2) rfl
    have c3 := HB0.out.cell (i := 3) rfl
    have c4 := HB0.out.cell (i := 4) rfl
    have f0 := HB0.out.free 0
    have f1 := HB0.out.free 1
    have f2 := HB0.out.free 2
    have f3 := HB0.out.free 3
    have f4 := HB0.out.free 4
    have HQ := Lib.hid (fun o => refq_new (w := w) HE.out o)
    clear hs hl h18
    go_enter Try.func33, Try.ntmps33
    go_wp2
    refine bodyPost_ret (v := .agg #[.slice none 0 0, .int .i64 ((0 : Nat) : Int), .int .i64 ((0 : Nat) : Int), .int .i64 ((0 : Nat) : Int), .int .i64 3]) (by simp [results, Try.results33, go_sem, c0, c1, c2, c3, c4, f0, f1, f2, f3, f4]) rfl ?_
    exact HQ.out _
  · have ht : decide ((s.size : Int) < 18) = false := decide_eq_false (by have := HZ.out; omega)
    have ht18 : (18 : Int) ≤ (s.size : Int) := by have := HZ.out; omega
    have ht3 : (3 : Int) ≤ (s.size : Int) := by omega
    have hX3 : s.extract 0 3 = stx (all.take 3) := by rw [hs, stx_extract, List.drop_zero]
    have hX15 : s.extract 3 18 = stx ((all.drop 3).take 15) := by rw [hs, stx_extract]
    have HN3 := Lib.hid (fun w => refnum_any _ (all.take 3) w hX3 (by rw [List.length_take]; omega))
    have HN15 := Lib.hid (fun w => refnum_any _ ((all.drop 3).take 15) w hX15 (by rw [List.length_take]; omega))
    have hlt3 := numL_lt (all.take 3)
    rw [List.length_take, Nat.min_eq_left (by omega)] at hlt3
    have hlt15 := numL_lt ((all.drop 3).take 15)
    rw [List.length_take, List.length_drop, Nat.min_eq_left (by omega)] at hlt15
    have HR := Lib.hid (show refP all = if 2 ≤ numL (all.take 3) ∧ numL (all.take 3) ≤ 6 ∧ numL ((all.drop 3).take 15) ≠ 0 then loopP (numL (all.take 3)) (numL ((all.drop 3).take 15) - ([] : List Int).length) LET [] 18 (all.drop 18) else ([], 0, 0, 18, 25) by unfold refP goP; rw [if_pos rfl, if_neg h18])
    have HL18 := Lib.hid (show 18 ≤ all.length by omega)
    obtain ⟨t, hv⟩ : ∃ z, numL (all.take 3) = z := ⟨_, rfl⟩
    obtain ⟨q, hv2⟩ : ∃ z, numL ((all.drop 3).take 15) = z := ⟨_, rfl⟩
    rw [hv] at HN3 hlt3 HR
    rw [hv2] at HN15 hlt15 HR
    have hlt3' : t < 8 := hlt3
    have hlt15' : q < 32768 := hlt15
    have hct : IntKind.i64.wrap (t : Int) = (t : Int) := IntWalk.i64_in _ (by omega)
    have hcq : IntKind.i64.wrap (q : Int) = (q : Int) := IntWalk.i64_in _ (by omega)
    clear hs hl h18 hX3 hX15 hlt3 hlt15 hv hv2
    by_cases hok : 2 ≤ t ∧ t ≤ 6 ∧ q ≠ 0
    · rw [if_pos hok] at HR
      have t1 : decide ((t : Int) < 2) = false := decide_eq_false (by omega)
      have t2 : decide (6 < (t : Int)) = false := decide_eq_false (by omega)
      have t3 : ((q : Int) == 0) = false := beq_eq_false_iff_ne.2 (by omega)
      have HT6 := Lib.hid hok
      clear hok
      go_enter Try.func33, Try.ntmps33
      go_wp2_with fail
      refine (HN3.out _).mono ?_
      rintro e w1 ⟨rfl, rfl⟩
      clear HN3
      go_wp2_with fail
      refine (HN15.out _).mono ?_
      rintro e w1 ⟨rfl, rfl⟩
      clear HN15
      go_wp2
      go_loopw [5, 6, 7, 8] (fun ord o at_ _ wr => ∃ (so : ByteArray) (O : List UInt8) (l : List Int) (c : Nat), c ≤ all.length ∧ ord = .string so ∧ at_ = .int .i64 (c : Int) ∧ Hid (so = str O) ∧ Hid (OrdP O) ∧ Hid (refP all = loopP t (q - l.length) O l c (all.drop c)) ∧ Hid (OwnI wr 3 o l) ∧ Hid (∀ x ∈ l, 0 ≤ x ∧ x ≤ 5) ∧ Hid (FreshV (w.heap.size + 1) o) ∧ l.length ≤ q ∧ Hid (Below w.heap.size w wr) ∧ Hid (Blk wr w.heap.size [.slice none 0 0, .int .i64 0, .int .i64 0, .int .i64 0, .int .i64 0] 60)) (fun _ _ at_ _ _ => all.length - (intOf at_).toNat)
      case atStart => exact ⟨_, LET, [], 18, HL18.out, rfl, rfl, rfl, List.Perm.refl _, HR.out, OwnI.nil _ _, fun x hx => (by cases hx), FreshV.nil _, Nat.zero_le _, HAL.out, HB0.out⟩
      case round =>
        clear HB0 HAL
        obtain ⟨so, O, l, c, hc, rfl, rfl, HSO, HOP, HG, HO, HOK, HF, hln, HB, HBX⟩ := hrel
        obtain ⟨ao, co, hvo, -, -, -⟩ := Own.reads HO.out
        subst hvo
        have c0 := HBX.out.cell (i := 0) rfl
        have c1 := HBX.out.cell (i := 1) rfl
        have c2 := HBX.out.cell (i := 2) rfl
        have c3 := HBX.out.cell (i := 3) rfl
        have c4 := HBX.out.cell (i := 4) rfl
        have f0 := HBX.out.free 0
        have f1 := HBX.out.free 1
        have f2 := HBX.out.free 2
        have f3 := HBX.out.free 3
        have f4 := HBX.out.free 4
        by_cases hlt : l.length < q
        · have hlt2 : (l.length : Int) < (q : Int) := by omega
          obtain ⟨m, hm⟩ : ∃ m, q - l.length = m + 1 := ⟨q - l.length - 1, by omega⟩
          have HG1 := Lib.hid HG.out
          rw [hm, loopP] at HG1
          have hX : s.extract c s.size = stx (all.drop c) := by rw [HS.out, stx_extract, stx_size, List.take_of_length_le (by rw [List.length_drop]; omega)]
          have HON := Lib.hid (fun w => refones_any _ (all.drop c) w hX (by rw [List.length_drop]; have := HLL.out; omega))
          have hcs : (c : Int) ≤ (s.size : Int) := by have := HZ.out; omega
          have hcs' : c ≤ s.size := by omega
          have hon := onesL_le (all.drop c)
          rw [List.length_drop] at hon
          have hdl : (all.drop c).length = all.length - c := List.length_drop
          rw [hdl] at HG1
          obtain ⟨n, hn⟩ : ∃ z, onesL (all.drop c) = z := ⟨_, rfl⟩
          rw [hn] at HON HG1 hon
          have HTT := Lib.hid HT6.out
          have hcl : c + n ≤ 10000 := by have := HLL.out; omega
          clear hX hn HG hdl
          by_cases h1 : t ≤ n
          · rw [if_pos h1] at HG1
            have g1 : decide ((t : Int) ≤ (n : Int)) = true := decide_eq_true (by omega)
            have g1' : decide (t ≤ n) = true := decide_eq_true h1
            obtain ⟨z, hz⟩ : ∃ z, c + t = z := ⟨_, rfl⟩
            have hzi : (c : Int) + (t : Int) = (z : Int) := by omega
            have hzw : IntKind.i64.wrap (z : Int) = (z : Int) := IntWalk.i64_in _ (by omega)
            rw [hz] at HG1
            have HQ := Lib.hid (refq_end HG1.out HB.out (RInts.nil _) (FreshV.nil _) (by simp [Value.ownBlock]) (.slice none 0 0) (.int .i64 0) (.int .i64 0) (.int .i64 (z : Int)) (.int .i64 25))
            clear h1 hm HG1 hlt hz hon hln
            go_wp2_with fail
            refine (HON.out _).mono ?_
            rintro e w3 ⟨rfl, rfl⟩
            clear HON
            go_wp2
            refine bodyPost_ret (v := .agg #[.slice none 0 0, .int .i64 ((0 : Nat) : Int), .int .i64 ((0 : Nat) : Int), .int .i64 (z : Int), .int .i64 25]) (by simp [results, Try.results33, go_sem, c0, c1, c2, c3, c4, f0, f1, f2, f3, f4]) rfl ?_
            exact HQ.out
          · rw [if_neg h1] at HG1
            have g1 : decide ((t : Int) ≤ (n : Int)) = false := decide_eq_false (by omega)
            have g1' : decide (t ≤ n) = false := decide_eq_false h1
            obtain ⟨z, hz⟩ : ∃ z, c + n = z := ⟨_, rfl⟩
            have hzi : (c : Int) + (n : Int) = (z : Int) := by omega
            have hzw : IntKind.i64.wrap (z : Int) = (z : Int) := IntWalk.i64_in _ (by omega)
            by_cases h2 : n = all.length - c
            · rw [if_pos h2] at HG1
              have g2 : ((z : Int) == (s.size : Int)) = true := beq_iff_eq.2 (by have := HZ.out; omega)
              have HQ := Lib.hid (refq_end HG1.out HB.out (RInts.nil _) (FreshV.nil _) (by simp [Value.ownBlock]) (.slice none 0 0) (.int .i64 0) (.int .i64 0) (.int .i64 0) (.int .i64 3))
              clear h1 h2 hm HG1 hlt hz hon hln
              go_wp2_with fail
              refine (HON.out _).mono ?_
              rintro e w3 ⟨rfl, rfl⟩
              clear HON
              go_wp2
              refine bodyPost_ret (v := .agg #[.slice none 0 0, .int .i64 ((0 : Nat) : Int), .int .i64 ((0 : Nat) : Int), .int .i64 ((0 : Nat) : Int), .int .i64 3]) (by simp [results, Try.results33, go_sem, c0, c1, c2, c3, c4, f0, f1, f2, f3, f4]) rfl ?_
              exact HQ.out
            · rw [if_neg h2] at HG1
              have g2 : ((z : Int) == (s.size : Int)) = false := beq_eq_false_iff_ne.2 (by have := HZ.out; omega)
              have hO6 := HOP.out.len
              have hn6 : n < O.length := by have := HT6.out; omega
              have hso6 : so.size = 6 := by rw [HSO.out, str_size, hO6]
              have hnso : n < so.size := by omega
              have hat := str_at HSO.out hnso
              have hget : O.getD n 0 = so[n] := by rw [List.getD_eq_getElem?_getD, hat]; rfl
              have hval := HOP.out.val (List.mem_of_getElem? hat)
              rw [hget] at HG1
              obtain ⟨ch, hch⟩ : ∃ z, so[n] = z := ⟨_, rfl⟩
              rw [hch] at HG1 hval
              have HCS := Lib.hid (let_nat hval.1 hval.2)
              have HTO := Lib.hid (fun w => reftouch_any so O n w HSO.out (by omega) hn6)
              have HOP2 := Lib.hid (HOP.out.touch (i := n) (by omega))
              obtain ⟨O2, hO2⟩ : ∃ z, touchL O n = z := ⟨_, rfl⟩
              rw [hO2] at HG1 HTO HOP2
              obtain ⟨so2, hso2⟩ : ∃ z, str O2 = z := ⟨_, rfl⟩
              rw [hso2] at HTO
              have HSO2 := Lib.hid hso2
              obtain ⟨y, hy⟩ : ∃ z, c + (n + 1) = z := ⟨_, rfl⟩
              have hyi : (z : Int) + 1 = (y : Int) := by omega
              have hyw : IntKind.i64.wrap (y : Int) = (y : Int) := IntWalk.i64_in _ (by omega)
              have hdd : (all.drop c).drop (n + 1) = all.drop y := by rw [List.drop_drop, hy]
              rw [hy, hdd] at HG1
              have hya : y ≤ all.length := by omega
              have HYC := Lib.hid (show c < y by omega)
              have HM := Lib.hid (show m = q - (l.length + 1) by omega)
              have hown := HO.out
              have HLN := Lib.hid (show l.length < 1000000000 by omega)
              have hn0 : (n : Int) < (so.size : Int) := by omega
              have HLT := Lib.hid hlt
              clear h1 h2 hm hlt hz hon hln hat hget hval hO2 hso2 hy hdd c0 c1 c2 c3 c4 f0 f1 f2 f3 f4 hO6 hn6
              rcases HCS.out with rfl | rfl | rfl | rfl | rfl | rfl
              all_goals
                go_wp2_with fail
                refine (HON.out _).mono ?_
                rintro e w3 ⟨rfl, rfl⟩
                clear HON
                go_wp2_with (at_builtin; refine wpList_append_int _ _ rfl _ _ 23 rfl 3 Try.underlying23 intinfo _ l _ _ rfl rfl rfl hown HLN.out ?_)
                intro v3 w3 hown3 hkeep hfresh
                have hbl := HBX.out.lt
                have HB3 := Lib.hid (HB.out.trans (hkeep.below HB.out.size (fun j hj e => by have := HF.out _ e; omega)))
                have HF3 := Lib.hid (show FreshV (w.heap.size + 1) v3 from fun g hg => (hfresh g hg).elim (HF.out g) (fun h => by omega))
                have HO3 := Lib.hid hown3
                have HBX3 := Lib.hid (HBX.out.keep hkeep (fun e => by have := HF.out _ e; omega))
                clear hown hown3 hkeep hfresh hbl HB HF HO HBX
                go_wp2_with fail
                refine (HTO.out _).mono ?_
                rintro e w4 ⟨rfl, hq⟩
                have HB4 := Lib.hid (HB3.out.trans (below_of hq HB3.out.size))
                have HO4 := Lib.hid (Own.below HO3.out hq)
                have HBX4 := Lib.hid (HBX3.out.below hq)
                clear HTO hq HB3 HO3 HBX3
                go_wp2
                go_roundw
                case rel => exact ⟨so2, O2, _, y, hya, rfl, rfl, HSO2.out.symm, HOP2.out, by rw [HG1.out, List.length_append, HM.out]; rfl, HO4.out, fun x hx => (List.mem_append.1 hx).elim (HOK.out x) (fun h => by rw [List.mem_singleton.1 h]; decide), HF3.out, by rw [List.length_append]; exact HLT.out, HB4.out, HBX4.out⟩
                case measure => have := HYC.out; simp [intOf]; omega
        · have hlt2 : ¬ (l.length : Int) < (q : Int) := by omega
          have HE := Lib.hid (show refP all = (l, t, c, c, 0) by rw [HG.out, show q - l.length = 0 by omega, loopP])
          have HQ := Lib.hid (refq_end HE.out HB.out (HO.out.reads (fun x hx => by have := HOK.out x hx; omega)) (fun g hg => by have := HF.out g hg; omega) (fun e => by have := HF.out _ e; omega) (.slice ao l.length co) (.int .i64 (t : Int)) (.int .i64 (c : Int)) (.int .i64 (c : Int)) (.int .i64 0))
          clear HG hlt
          go_wp2
          refine bodyPost_ret (v := .agg #[.slice ao l.length co, .int .i64 (t : Int), .int .i64 (c : Int), .int .i64 (c : Int), .int .i64 0]) (by simp [results, Try.results33, go_sem, c0, c1, c2, c3, c4, f0, f1, f2, f3, f4]) rfl ?_
          exact HQ.out
    · rw [if_neg hok] at HR
      have c0 := HB0.out.cell (i := 0) rfl
      have c1 := HB0.out.cell (i := 1) rfl
      have c2 := HB0.out.cell (i := 2) rfl
      have c3 := HB0.out.cell (i := 3) rfl
      have c4 := HB0.out.cell (i := 4) rfl
      have f0 := HB0.out.free 0
      have f1 := HB0.out.free 1
      have f2 := HB0.out.free 2
      have f3 := HB0.out.free 3
      have f4 := HB0.out.free 4
      have HQ := Lib.hid (fun o => refq_new (w := w) HR.out o)
      have hcase : ((decide ((t : Int) < 2)) = true) ∨ ((decide ((t : Int) < 2)) = false ∧ decide (6 < (t : Int)) = true) ∨ ((decide ((t : Int) < 2)) = false ∧ decide (6 < (t : Int)) = false ∧ ((q : Int) == 0) = true) := by
        by_cases a1 : t < 2
        · exact .inl (decide_eq_true (by omega))
        · by_cases a2 : 6 < t
          · exact .inr (.inl ⟨decide_eq_false (by omega), decide_eq_true (by omega)⟩)
          · exact .inr (.inr ⟨decide_eq_false (by omega), decide_eq_false (by omega), beq_iff_eq.2 (by omega)⟩)
      clear hok
      rcases hcase with t1 | ⟨t1, t2⟩ | ⟨t1, t2, t3⟩
      all_goals
        go_enter Try.func33, Try.ntmps33
        go_wp2_with fail
        refine (HN3.out _).mono ?_
        rintro e w1 ⟨rfl, rfl⟩
        clear HN3
        go_wp2_with fail
        refine (HN15.out _).mono ?_
        rintro e w1 ⟨rfl, rfl⟩
        clear HN15
        go_wp2
        refine bodyPost_ret (v := .agg #[.slice none 0 0, .int .i64 ((0 : Nat) : Int), .int .i64 ((0 : Nat) : Int), .int .i64 ((18 : Nat) : Int), .int .i64 25]) (by simp [results, Try.results33, go_sem, c0, c1, c2, c3, c4, f0, f1, f2, f3, f4]) rfl ?_
        exact HQ.out _
end Go.Proofs.Ytoebnibhkdidhaa

/- Package delta: the reference Read; three. -/
import Derived.Test.YtjpjdecbkekcfaaDelF
namespace Go.Proofs.Ytjpjdecbkekcfaa
open Go.RowKit

theorem gotzero : ∀ w : World, (zeroValue 55).run Try.prog w = .ok (.agg #[.slice none 0 0, .int .i64 0, .int .i64 0]) w := fun _ => by kernel_rfl

theorem stx_idx {s : ByteArray} {all : List Bool} (hs : s = stx all) {c : Nat} {x : Bool} {r : List Bool} (hd : all.drop c = x :: r) : ∃ h : c < s.size, s[c] = chB x := by
  have h1 := (drop_one hd).2
  have hsz : s.size = all.length := by rw [hs, stx_size]
  have hx : all[c]? = some x := by
    have := congrArg (fun l => l[0]?) hd
    simpa using this
  exact ⟨by omega, stx_at hs hx (by omega)⟩

/-- what the document's Read tells -/
def RefQ (n : Nat) (all : List Bool) (w : World) (e : Ending) (w' : World) : Prop :=
  ∃ v, e = .returned (.agg #[v, .int .i64 ((refD n all).2.1 : Int), .int .i64 (refD n all).2.2]) ∧ RInts w' v (refD n all).1 ∧ FreshV w.heap.size v ∧ Below w.heap.size w w'
/-- the end of it: the three cells are told -/
theorem refq_end {n : Nat} {all : List Bool} {w wr : World} {v : Value} {rl : List Int} {ru : Nat} {re : Int} (hr : refD n all = (rl, ru, re)) (hb : Below w.heap.size w wr) (hv : RInts wr v rl) (hf : FreshV w.heap.size v) (hne : v.ownBlock ≠ some w.heap.size) (a0 a1 a2 : Value) :
    RefQ n all w (.returned (.agg #[v, .int .i64 (ru : Int), .int .i64 re])) (((wr.setCell ⟨w.heap.size, 0, none⟩ a0).setCell ⟨w.heap.size, 1, none⟩ a1).setCell ⟨w.heap.size, 2, none⟩ a2) := by
  have hk : Keep (fun j => j = w.heap.size) wr (((wr.setCell ⟨w.heap.size, 0, none⟩ a0).setCell ⟨w.heap.size, 1, none⟩ a1).setCell ⟨w.heap.size, 2, none⟩ a2) :=
    keep_setCell (S := fun j => j = w.heap.size) (keep_setCell (S := fun j => j = w.heap.size) (keep_setCell (S := fun j => j = w.heap.size) (Keep.refl _ _) rfl _) rfl _) rfl _
  refine ⟨v, by rw [hr], ?_, hf, hb.trans (hk.below hb.size (fun j hj e => by have : j = w.heap.size := e; omega))⟩
  rw [hr]
  exact hv.keep hk (fun g hg e => hne (by have e' : g = w.heap.size := e; rw [hg, e']))

theorem refq_new {n : Nat} {all : List Bool} {w : World} {re : Int} (hr : refD n all = ([], 0, re)) (o : Obj) : RefQ n all w (.returned (.agg #[.slice none 0 0, .int .i64 ((0 : Nat) : Int), .int .i64 re])) (w.alloc o) :=
  ⟨_, by rw [hr], by rw [hr]; exact RInts.nil _, FreshV.nil _, below_alloc _ _⟩

set_option maxHeartbeats 4000000 in
set_option maxRecDepth 100000 in
theorem refread_any (s : ByteArray) (all : List Bool) (n : Nat) (w : World) (hs : s = stx all) (hl : all.length ≤ 10000) (hn : n ≤ 1000) :
    Calls Try.prog 40 #[.string s, .int .i64 (n : Int)] w (RefQ n all w) := by
  have HS := Lib.hid hs
  have HZ := Lib.hid (show s.size = all.length by rw [hs, stx_size])
  have hsz : s.size ≤ 10000 := by rw [hs, stx_size]; exact hl
  have hzg := gotzero
  have HB0 := Lib.hid (Blk.new w [.slice none 0 0, .int .i64 0, .int .i64 0] 55)
  have HAL := Lib.hid (below_alloc w (.cells #[.slice none 0 0, .int .i64 0, .int .i64 0] 55 (0, 0)))
  by_cases h5 : all.length < 5
  · have HE := Lib.hid (show refD n all = ([], 0, 3) by unfold refD goD; rw [if_pos rfl, if_pos h5])
    have ht : decide ((s.size : Int) < 5) = true := decide_eq_true (by have := HZ.out; omega)
    have c0 := HB0.out.cell (i := 0) rfl
    have c1 := HB0.out.cell (i := 1) rfl
    have c2 := HB0.out.cell (i := 2) rfl
    have f0 := HB0.out.free 0
    have f1 := HB0.out.free 1
    have f2 := HB0.out.free 2
    have HQ := Lib.hid (fun o => refq_new (w := w) HE.out o)
    clear hs h5
    go_enter Try.func40, Try.ntmps40
    go_wp2
    refine bodyPost_ret (v := .agg #[.slice none 0 0, .int .i64 ((0 : Nat) : Int), .int .i64 3]) (by simp [results, Try.results40, go_sem, c0, c1, c2, f0, f1, f2]) rfl ?_
    exact HQ.out _
  · have ht : decide ((s.size : Int) < 5) = false := decide_eq_false (by have := HZ.out; omega)
    have ht5 : (5 : Int) ≤ (s.size : Int) := by have := HZ.out; omega
    have hX : s.extract 0 5 = stx (all.take 5) := by rw [hs, stx_extract, List.drop_zero]
    have HNUM := Lib.hid (fun w => refnum_any _ (all.take 5) w hX (by rw [List.length_take]; omega))
    have hlt := numL_lt (all.take 5)
    rw [List.length_take, Nat.min_eq_left (by omega)] at hlt
    have hv32 : numL (all.take 5) < 32 := hlt
    have HR := Lib.hid (show refD n all = if okD ((numL (all.take 5) : Nat) : Int) then loopD n ((numL (all.take 5) : Nat) : Int) [] 5 (all.drop 5) else ([], 0, 22) by unfold refD goD; rw [if_pos rfl, if_neg h5])
    have HL5 := Lib.hid (show 5 ≤ all.length by omega)
    obtain ⟨v, hv⟩ : ∃ z, numL (all.take 5) = z := ⟨_, rfl⟩
    rw [hv] at HNUM hv32 HR
    have hcv : IntKind.i64.wrap (v : Int) = (v : Int) := IntWalk.i64_in _ (by omega)
    clear hs h5 hX hlt hv
    by_cases hok : okD (v : Int) = true
    · have hv1 : 1 ≤ (v : Int) ∧ (v : Int) ≤ 20 := okD_iff.1 hok
      have t1 : decide ((v : Int) < 1) = false := decide_eq_false (by omega)
      have t2 : decide (20 < (v : Int)) = false := decide_eq_false (by omega)
      rw [if_pos hok] at HR
      have HV1 := Lib.hid hv1
      clear hok hv1
      go_enter Try.func40, Try.ntmps40
      go_wp2_with fail
      refine (HNUM.out _).mono ?_
      rintro e w1 ⟨rfl, rfl⟩
      clear HNUM
      go_wp2
      go_loopw [5, 6, 7] (fun now o at_ wr => ∃ (m : Int) (l : List Int) (c : Nat), c ≤ all.length ∧ now = .int .i64 m ∧ at_ = .int .i64 (c : Int) ∧ Hid (1 ≤ m ∧ m ≤ 20) ∧ Hid (refD n all = loopD n m l c (all.drop c)) ∧ Hid (OwnI wr 3 o l) ∧ Hid (∀ x ∈ l, 1 ≤ x ∧ x ≤ 20) ∧ Hid (FreshV (w.heap.size + 1) o) ∧ l.length ≤ n ∧ Hid (Below w.heap.size w wr) ∧ Hid (Blk wr w.heap.size [.slice none 0 0, .int .i64 0, .int .i64 0] 55)) (fun _ _ at_ _ => all.length - (intOf at_).toNat)
      case atStart => exact ⟨(v : Int), [], 5, HL5.out, rfl, rfl, HV1.out, HR.out, OwnI.nil _ _, fun x hx => (by cases hx), FreshV.nil _, Nat.zero_le _, HAL.out, HB0.out⟩
      case round =>
        clear HB0 HAL
        obtain ⟨m, l, c, hc, rfl, rfl, HM, HG, HO, HOK, HF, hln, HB, HBX⟩ := hrel
        obtain ⟨ao, co, hvo, -, -, -⟩ := Own.reads HO.out
        subst hvo
        have c0 := HBX.out.cell (i := 0) rfl
        have c1 := HBX.out.cell (i := 1) rfl
        have c2 := HBX.out.cell (i := 2) rfl
        have f0 := HBX.out.free 0
        have f1 := HBX.out.free 1
        have f2 := HBX.out.free 2
        by_cases hlt : l.length < n
        · have hlt2 : (l.length : Int) < (n : Int) := by omega
          cases hd : all.drop c with
          | nil =>
            have HE := Lib.hid (show refD n all = ([], 0, 3) by rw [HG.out, hd, loopD, if_pos hlt])
            have hcs : ((c : Int) == (s.size : Int)) = true := beq_iff_eq.2 (by have := congrArg List.length hd; rw [List.length_drop, List.length_nil] at this; have := HZ.out; omega)
            have HQ := Lib.hid (refq_end HE.out HB.out (RInts.nil _) (FreshV.nil _) (by simp [Value.ownBlock]) (.slice none 0 0) (.int .i64 0) (.int .i64 3))
            clear hd HG
            go_wp2
            refine bodyPost_ret (v := .agg #[.slice none 0 0, .int .i64 ((0 : Nat) : Int), .int .i64 3]) (by simp [results, Try.results40, go_sem, c0, c1, c2, f0, f1, f2]) rfl ?_
            exact HQ.out
          | cons x r =>
            obtain ⟨hcs0, hat⟩ := stx_idx HS.out hd
            have hcs : ((c : Int) == (s.size : Int)) = false := beq_eq_false_iff_ne.2 (by omega)
            have HD1 := Lib.hid (drop_one hd).1
            have hc1 : c + 1 ≤ all.length := by have := HZ.out; omega
            cases x with
            | false =>
              have hat2 : s[c] = 48 := hat
              have HG2 := Lib.hid (show refD n all = loopD n m (l ++ [m]) (c + 1) (all.drop (c + 1)) by rw [HG.out, hd, loopD, if_pos hlt, HD1.out])
              have hown := HO.out
              have HLN := Lib.hid (show l.length < 1000000000 by omega)
              have HOK2 := Lib.hid (show ∀ x ∈ l ++ [m], 1 ≤ x ∧ x ≤ 20 from fun x hx => (List.mem_append.1 hx).elim (HOK.out x) (fun h => by rw [List.mem_singleton.1 h]; exact HM.out))
              clear hd hat HG c0 c1 c2 f0 f1 f2 HD1
              go_wp2_with (at_builtin; refine wpList_append_int _ _ rfl _ _ 22 rfl 3 Try.underlying22 intinfo _ l _ _ rfl rfl rfl hown HLN.out ?_)
              intro v3 w3 hown3 hkeep hfresh
              have hbl := HBX.out.lt
              have HB3 := Lib.hid (HB.out.trans (hkeep.below HB.out.size (fun j hj e => by have := HF.out _ e; omega)))
              have HF3 := Lib.hid (show FreshV (w.heap.size + 1) v3 from fun g hg => (hfresh g hg).elim (HF.out g) (fun h => by omega))
              have HO3 := Lib.hid hown3
              have HBX3 := Lib.hid (HBX.out.keep hkeep (fun e => by have := HF.out _ e; omega))
              have hln3 : (l ++ [m]).length ≤ n := by rw [List.length_append]; exact hlt
              clear hown hown3 hkeep hfresh hbl
              go_wp2
              go_roundw
              case rel => exact ⟨m, _, c + 1, hc1, rfl, by go_num, HM.out, HG2.out, HO3.out, HOK2.out, HF3.out, hln3, HB3.out, HBX3.out⟩
              case measure => simp [intOf]; omega
            | true =>
              have hat2 : s[c] = 49 := hat
              have HD2 : Hid (all.drop (c + 1) = r) := HD1
              cases r with
              | nil =>
                have HE := Lib.hid (show refD n all = ([], 0, 3) by rw [HG.out, hd, loopD, if_pos hlt])
                have hcs1 : ((c : Int) + 1 == (s.size : Int)) = true := beq_iff_eq.2 (by have := congrArg List.length hd; rw [List.length_drop, List.length_singleton] at this; have := HZ.out; omega)
                have HQ := Lib.hid (refq_end HE.out HB.out (RInts.nil _) (FreshV.nil _) (by simp [Value.ownBlock]) (.slice none 0 0) (.int .i64 0) (.int .i64 3))
                clear hd hat HG HD1 HD2
                go_wp2
                refine bodyPost_ret (v := .agg #[.slice none 0 0, .int .i64 ((0 : Nat) : Int), .int .i64 3]) (by simp [results, Try.results40, go_sem, c0, c1, c2, f0, f1, f2]) rfl ?_
                exact HQ.out
              | cons y r =>
                have HDY := Lib.hid (drop_one HD2.out)
                obtain ⟨hcs1, haty⟩ := stx_idx HS.out HD2.out
                have hcs1e : ((c : Int) + 1 == (s.size : Int)) = false := beq_eq_false_iff_ne.2 (by omega)
                have hc1i : (c : Int) + 1 < (s.size : Int) := by omega
                have hc2 : c + 2 ≤ all.length := by have := HZ.out; omega
                have HG2 := Lib.hid (show refD n all = if okD (m + 1 - 2 * (y.toNat : Int)) then loopD n (m + 1 - 2 * (y.toNat : Int)) l (c + 2) (all.drop (c + 2)) else ([], 0, 22) by
                  rw [HG.out, hd, loopD, if_pos hlt, show c + 2 = c + 1 + 1 from rfl, HDY.out.1])
                obtain ⟨q, hq⟩ : ∃ q : Nat, c + 1 = q := ⟨_, rfl⟩
                have hqi : (c : Int) + 1 = (q : Int) := by omega
                have hqs : q < s.size := by omega
                have hat3 : s[q] = chB y := by simp only [← hq]; exact haty
                have hqne : ((q : Int) == (s.size : Int)) = false := beq_eq_false_iff_ne.2 (by omega)
                have HQI := Lib.hid hq
                clear hd hat HG HD1 HD2 HDY haty hcs1 hcs1e hc1i hq
                cases y with
                | false =>
                  have hat4 : s[q] = 48 := hat3
                  have hwq : IntKind.i64.wrap (m + 1) = m + 1 := IntWalk.i64_in _ (by have := HM.out; omega)
                  have hm2 : m + 1 - 2 * (((false).toNat : Nat) : Int) = m + 1 := by simp
                  rw [hm2] at HG2
                  clear hat3 hm2
                  by_cases hok : okD (m + 1) = true
                  · have HOKM := Lib.hid (okD_iff.1 hok)
                    have t3 : decide (m + 1 < 1) = false := decide_eq_false (by have := HOKM.out; omega)
                    have t4 : decide (20 < m + 1) = false := decide_eq_false (by have := HOKM.out; omega)
                    rw [if_pos hok] at HG2
                    clear hok c0 c1 c2 f0 f1 f2
                    go_wp2
                    go_roundw
                    case rel => exact ⟨m + 1, l, c + 2, hc2, rfl, by go_num, HOKM.out, HG2.out, HO.out, HOK.out, HF.out, hln, HB.out, HBX.out⟩
                    case measure => simp [intOf]; omega
                  · have hnok : ¬ (1 ≤ m + 1 ∧ m + 1 ≤ 20) := fun h => hok (okD_iff.2 h)
                    have t3 : decide (m + 1 < 1) = false := decide_eq_false (by have := HM.out; omega)
                    have t4 : decide (20 < m + 1) = true := decide_eq_true (by have := HM.out; omega)
                    rw [if_neg hok] at HG2
                    have HQ := Lib.hid (refq_end HG2.out HB.out (RInts.nil _) (FreshV.nil _) (by simp [Value.ownBlock]) (.slice none 0 0) (.int .i64 0) (.int .i64 22))
                    clear hok hnok
                    go_wp2
                    refine bodyPost_ret (v := .agg #[.slice none 0 0, .int .i64 ((0 : Nat) : Int), .int .i64 22]) (by simp [results, Try.results40, go_sem, c0, c1, c2, f0, f1, f2]) rfl ?_
                    exact HQ.out
                | true =>
                  have hat4 : s[q] = 49 := hat3
                  have hwq : IntKind.i64.wrap (m - 1) = m - 1 := IntWalk.i64_in _ (by have := HM.out; omega)
                  have hm2 : m + 1 - 2 * (((true).toNat : Nat) : Int) = m - 1 := by simp; omega
                  rw [hm2] at HG2
                  clear hat3 hm2
                  by_cases hok : okD (m - 1) = true
                  · have HOKM := Lib.hid (okD_iff.1 hok)
                    have t3 : decide (m - 1 < 1) = false := decide_eq_false (by have := HOKM.out; omega)
                    have t4 : decide (20 < m - 1) = false := decide_eq_false (by have := HOKM.out; omega)
                    rw [if_pos hok] at HG2
                    clear hok c0 c1 c2 f0 f1 f2
                    go_wp2
                    go_roundw
                    case rel => exact ⟨m - 1, l, c + 2, hc2, rfl, by go_num, HOKM.out, HG2.out, HO.out, HOK.out, HF.out, hln, HB.out, HBX.out⟩
                    case measure => simp [intOf]; omega
                  · have hnok : ¬ (1 ≤ m - 1 ∧ m - 1 ≤ 20) := fun h => hok (okD_iff.2 h)
                    have t3 : decide (m - 1 < 1) = true := decide_eq_true (by have := HM.out; omega)
                    rw [if_neg hok] at HG2
                    have HQ := Lib.hid (refq_end HG2.out HB.out (RInts.nil _) (FreshV.nil _) (by simp [Value.ownBlock]) (.slice none 0 0) (.int .i64 0) (.int .i64 22))
                    clear hok hnok
                    go_wp2
                    refine bodyPost_ret (v := .agg #[.slice none 0 0, .int .i64 ((0 : Nat) : Int), .int .i64 22]) (by simp [results, Try.results40, go_sem, c0, c1, c2, f0, f1, f2]) rfl ?_
                    exact HQ.out
        · have hlt2 : ¬ (l.length : Int) < (n : Int) := by omega
          have HE := Lib.hid (show refD n all = (l, c, 0) by rw [HG.out, loopD_done _ hlt])
          have HQ := Lib.hid (refq_end HE.out HB.out (HO.out.reads (fun x hx => by have := HOK.out x hx; omega)) (fun g hg => by have := HF.out g hg; omega) (fun e => by have := HF.out _ e; omega) (.slice ao l.length co) (.int .i64 (c : Int)) (.int .i64 0))
          clear HG hlt
          go_wp2
          refine bodyPost_ret (v := .agg #[.slice ao l.length co, .int .i64 (c : Int), .int .i64 0]) (by simp [results, Try.results40, go_sem, c0, c1, c2, f0, f1, f2]) rfl ?_
          exact HQ.out
    · have hnok : ¬ (1 ≤ (v : Int) ∧ (v : Int) ≤ 20) := fun h => hok (okD_iff.2 h)
      rw [if_neg hok] at HR
      have c0 := HB0.out.cell (i := 0) rfl
      have c1 := HB0.out.cell (i := 1) rfl
      have c2 := HB0.out.cell (i := 2) rfl
      have f0 := HB0.out.free 0
      have f1 := HB0.out.free 1
      have f2 := HB0.out.free 2
      have HQ := Lib.hid (fun o => refq_new (w := w) HR.out o)
      by_cases h1 : (v : Int) < 1
      · have t1 : decide ((v : Int) < 1) = true := decide_eq_true h1
        clear hok hnok h1
        go_enter Try.func40, Try.ntmps40
        go_wp2_with fail
        refine (HNUM.out _).mono ?_
        rintro e w1 ⟨rfl, rfl⟩
        clear HNUM
        go_wp2
        refine bodyPost_ret (v := .agg #[.slice none 0 0, .int .i64 ((0 : Nat) : Int), .int .i64 22]) (by simp [results, Try.results40, go_sem, c0, c1, c2, f0, f1, f2]) rfl ?_
        exact HQ.out _
      · have t1 : decide ((v : Int) < 1) = false := decide_eq_false h1
        have t2 : decide (20 < (v : Int)) = true := decide_eq_true (by omega)
        clear hok hnok h1
        go_enter Try.func40, Try.ntmps40
        go_wp2_with fail
        refine (HNUM.out _).mono ?_
        rintro e w1 ⟨rfl, rfl⟩
        clear HNUM
        go_wp2
        refine bodyPost_ret (v := .agg #[.slice none 0 0, .int .i64 ((0 : Nat) : Int), .int .i64 22]) (by simp [results, Try.results40, go_sem, c0, c1, c2, f0, f1, f2]) rfl ?_
        exact HQ.out _
end Go.Proofs.Ytjpjdecbkekcfaa

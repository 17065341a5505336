/- Package canon: the law CanonApart. -/
import Derived.Test.YtjpjdecbkekcfaaCanU
namespace Go.Proofs.Ytjpjdecbkekcfaa
open Go.RowKit

theorem wfu32 {n : Int} (h : (Lit.int .u32 n).wf = true) : 0 ≤ n ∧ n ≤ 4294967295 := by
  have h1 : IntKind.u32.min = 0 := rfl
  have h2 : IntKind.u32.max = 4294967295 := rfl
  simp only [Lit.wf, Bool.and_eq_true, decide_eq_true_eq] at h
  omega
/-- a symbol's numbers -/
theorem apart_facts {l : List Int} (hw : wholeC l = true) {s : Nat} (hs : s < l.length) : ∃ n d p q b e : Nat, l[s]? = some (n : Int) ∧ 1 ≤ n ∧ n ≤ 20 ∧ n + d = 20 ∧ codeC l s = q ∧ begC l s = b ∧ sizC2 l s = p ∧ p = 2 ^ d ∧ q * p = b ∧ b + p = e ∧ e ≤ 1048576 ∧ q < 1048576 ∧ 1 ≤ p := by
  have hx : l[s]? = some l[s] := List.getElem?_eq_getElem hs
  obtain ⟨m, h1, h2⟩ := whole_at hw hx
  rw [h1] at hx
  have hlt := nowC_lt hw h2 hx
  have hle : (2 : Nat) ^ (m + 1) ≤ 2 ^ 20 := Nat.pow_le_pow_right (by decide) h2
  have e20 : (2 : Nat) ^ 20 = 1048576 := rfl
  refine ⟨m + 1, 20 - (m + 1), 2 ^ (20 - (m + 1)), nowC l (m + 1) s, _, _, hx, by omega, h2, by omega, codeC_of hx, begC_of hx, sizC2_of hx, rfl, rfl, rfl, ?_, by omega, Nat.two_pow_pos _⟩
  have h3 : (nowC l (m + 1) s + 1) * 2 ^ (20 - (m + 1)) ≤ 2 ^ (m + 1) * 2 ^ (20 - (m + 1)) := Nat.mul_le_mul_right _ hlt
  rw [← Nat.pow_add, show m + 1 + (20 - (m + 1)) = 20 by omega, Nat.add_mul, Nat.one_mul] at h3
  omega
/-- how many of the first symbols' codes a row begins with -/
def cntB (l : List Int) (v k : Nat) : Nat := ((List.range k).filter fun s => decide (begC l s ≤ v) && decide (v < begC l s + sizC2 l s)).length
theorem cntB_yes {l : List Int} {v k : Nat} (h1 : begC l k ≤ v) (h2 : v < begC l k + sizC2 l k) : cntB l v (k + 1) = cntB l v k + 1 := by
  unfold cntB
  rw [List.range_succ, List.filter_append, List.length_append, List.filter_cons_of_pos (by simp [h1, h2])]
  rfl
theorem cntB_no {l : List Int} {v k : Nat} (h : ¬ (begC l k ≤ v ∧ v < begC l k + sizC2 l k)) : cntB l v (k + 1) = cntB l v k := by
  unfold cntB
  rw [List.range_succ, List.filter_append, List.length_append, List.filter_cons_of_neg (by simpa using h)]
  rfl
theorem cntB_le (l : List Int) (v k : Nat) : cntB l v k ≤ k := by
  unfold cntB
  exact Nat.le_trans (List.length_filter_le _ _) (by rw [List.length_range]; exact Nat.le_refl _)
theorem cntB_before {l : List Int} (hw : wholeC l = true) {v s : Nat} (hs : s < l.length) (h1 : begC l s ≤ v) (h2 : v < begC l s + sizC2 l s) : ∀ k, k ≤ s → cntB l v k = 0 := by
  intro k
  induction k with
  | zero => intro _; rfl
  | succ k ih =>
    intro hk
    rw [cntB_no, ih (by omega)]
    rintro ⟨q1, q2⟩
    have := apartC hw (s := k) (t := s) (by omega) hs (by omega)
    omega
theorem cntB_behind {l : List Int} (hw : wholeC l = true) {v s : Nat} (hs : s < l.length) (h1 : begC l s ≤ v) (h2 : v < begC l s + sizC2 l s) : ∀ k, s < k → k ≤ l.length → cntB l v k = 1 := by
  intro k
  induction k with
  | zero => intro h; omega
  | succ k ih =>
    intro hk hl
    by_cases e : k = s
    · subst e
      rw [cntB_yes h1 h2, cntB_before hw hs h1 h2 k (Nat.le_refl _)]
    · rw [cntB_no, ih (by omega) (by omega)]
      rintro ⟨q1, q2⟩
      have := apartC hw (s := k) (t := s) (by omega) hs e
      omega
theorem cntB_one {l : List Int} (hw : wholeC l = true) {v : Nat} (hv : v < 1048576) : cntB l v l.length = 1 := by
  obtain ⟨s, hs, h1, h2⟩ := some_begins hw hv
  exact cntB_behind hw hs h1 h2 _ hs (Nat.le_refl _)

set_option maxHeartbeats 4000000 in
set_option maxRecDepth 100000 in
theorem lawCanonApart {v : Value} {l : List Int} {row : Int} {w : World} (hv : RInts w v l) (h1 : 0 ≤ row) (h2 : row ≤ 4294967295) :
    Calls Try.prog 5 #[v, .int .u32 row] w fun e w' => e = .returned (.bool true) ∧ Below w.heap.size w w' := by
  have HLT := Lib.hid three_any
  have HSZ := Lib.hid (size10_any v l w hv)
  have HV := Lib.hid hv
  obtain ⟨a, cap, rfl, hc1, hc2⟩ := hv.shape
  by_cases h60 : 100 < l.length
  · have t2 : decide ((100 : Int) < (l.length : Int)) = true := decide_eq_true (by omega)
    have t2' : decide (100 < l.length) = true := decide_eq_true h60
    clear h60 hv h1 h2
    go_enter Try.func5, Try.ntmps5
    go_wp2_with fail
    refine (HLT.out _).mono ?_
    rintro e w1 ⟨rfl, hb⟩
    go_wp2
    go_ret
    exact ⟨rfl, hb⟩
  have t2 : decide ((100 : Int) < (l.length : Int)) = false := decide_eq_false (by omega)
  have t2' : decide (100 < l.length) = false := decide_eq_false h60
  cases hs : sizC l with
  | false =>
    rw [hs] at HSZ
    clear h60 hv hs h1 h2
    go_enter Try.func5, Try.ntmps5
    go_wp2_with fail
    refine HSZ.out.mono ?_
    rintro e w1 ⟨rfl, rfl⟩
    go_wp2_with fail
    refine (HLT.out _).mono ?_
    rintro e w1 ⟨rfl, hb⟩
    go_wp2
    go_ret
    exact ⟨rfl, hb⟩
  | true =>
    rw [hs] at HSZ
    have HWH := Lib.hid (refwhole_any (.slice a l.length cap) l w hv (by omega))
    cases hwh : wholeC l with
    | false =>
      rw [hwh] at HWH
      clear h60 hv hs hwh h1 h2
      go_enter Try.func5, Try.ntmps5
      go_wp2_with fail
      refine HSZ.out.mono ?_
      rintro e w1 ⟨rfl, rfl⟩
      go_wp2_with fail
      refine HWH.out.mono ?_
      rintro e w1 ⟨rfl, rfl⟩
      go_wp2_with fail
      refine (HLT.out _).mono ?_
      rintro e w1 ⟨rfl, hb⟩
      go_wp2
      go_ret
      exact ⟨rfl, hb⟩
    | true =>
      rw [hwh] at HWH
      have HW := Lib.hid hwh
      have HN := Lib.hid (cnew_any _ l w hv hs hwh)
      have hl100 : l.length ≤ 100 := by omega
      obtain ⟨rw, rfl⟩ : ∃ x : Nat, row = x := ⟨row.toNat, by omega⟩
      have hv20 : rw % 1048576 < 1048576 := Nat.mod_lt _ (by decide)
      obtain ⟨z, hz⟩ : ∃ z, rw % 1048576 = z := ⟨_, rfl⟩
      rw [hz] at hv20
      have hzi : (rw : Int) % 1048576 = (z : Int) := by omega
      have hzt : Int.tmod (rw : Int) 1048576 = (z : Int) := by rw [Int.tmod_eq_emod_of_nonneg (by omega)]; exact hzi
      have hzw : IntKind.i64.wrap (z : Int) = (z : Int) := IntWalk.i64_in _ (by omega)
      have hzw2 : IntKind.u32.wrap (z : Int) = (z : Int) := IntWalk.u32_in _ (by omega)
      have HZ := Lib.hid hv20
      clear h60 hv hs hwh hz h1 h2
      go_enter Try.func5, Try.ntmps5
      go_wp2_with fail
      refine HSZ.out.mono ?_
      rintro e w1 ⟨rfl, rfl⟩
      go_wp2_with fail
      refine HWH.out.mono ?_
      rintro e w1 ⟨rfl, rfl⟩
      go_wp2_with fail
      refine HN.out.mono ?_
      rintro e w1 ⟨p, rfl, -, hc, hb⟩
      have HB1 := Lib.hid hb
      have HC1 := Lib.hid hc
      clear hb hc HN HWH HSZ
      go_wp2
      go_loopw [8, 45] (fun bv iv w4 => ∃ (i : Nat), i ≤ l.length ∧ iv = .int .i64 (i : Int) ∧ bv = .int .i64 (cntB l z i : Int) ∧ Hid (Below w1.heap.size w1 w4)) (fun _ iv _ => l.length - (intOf iv).toNat)
      case atStart => exact ⟨0, Nat.zero_le _, rfl, rfl, Below.refl _ _⟩
      case round =>
        obtain ⟨i, hi, rfl, rfl, HB4⟩ := hrel
        have hcb := cntB_le l z i
        obtain ⟨t, ht⟩ : ∃ t, cntB l z i = t := ⟨_, rfl⟩
        have HT := Lib.hid ht
        rw [ht] at hcb ⊢
        clear ht
        rcases Nat.lt_or_ge i l.length with hlt | hge
        · have hii : (i : Int) < (l.length : Int) := by omega
          have hi0 : (0 : Int) ≤ (i : Int) := by omega
          obtain ⟨n, d, p1, q, b, e, hx, hn1, hn20, hnd, hq, hb, hp, hpd, hqp, hbe, heb, hqb, hp1⟩ := apart_facts HW.out hlt
          have HO := Lib.hid (cof_any p l i _ wr (HC1.out.below HB4.out) hx)
          rw [hq] at HO
          have HBP := Lib.hid (And.intro hb hp)
          have g1 : decide ((n : Int) < 1) = false := decide_eq_false (by omega)
          have g2 : decide ((20 : Int) < (n : Int)) = false := decide_eq_false (by omega)
          have g2' : decide (20 < n) = false := decide_eq_false (by omega)
          have g1' : decide (n < 1) = false := decide_eq_false (by omega)
          have a1 : IntKind.i64.wrap (q : Int) = (q : Int) := IntWalk.i64_in _ (by omega)
          have a2 : (20 : Int) - (n : Int) = (d : Int) := by omega
          have a3 : IntKind.i64.wrap (d : Int) = (d : Int) := IntWalk.i64_in _ (by omega)
          have a4 : (0 : Int) ≤ (d : Int) := by omega
          have a5 : (d : Int) ≤ 64 := by omega
          have a6 : (2 : Int) ^ d = (p1 : Int) := by rw [hpd]; simp
          have a7 : (q : Int) * (p1 : Int) = (b : Int) := by rw [← hqp]; simp
          have a8 : IntKind.i64.wrap (b : Int) = (b : Int) := IntWalk.i64_in _ (by omega)
          have a9 : IntKind.i64.wrap (p1 : Int) = (p1 : Int) := IntWalk.i64_in _ (by omega)
          have a10 : (b : Int) + (p1 : Int) = (e : Int) := by omega
          have a11 : IntKind.i64.wrap (e : Int) = (e : Int) := IntWalk.i64_in _ (by omega)
          have HBE := Lib.hid hbe
          clear hx hn1 hn20 hnd hq hb hp hpd hqp hbe hqb hp1
          have hfin : ∃ t2 : Nat, cntB l z (i + 1) = t2 ∧ t2 ≤ i + 1 ∧ ((decide ((b : Int) ≤ (z : Int)) = true ∧ decide (b ≤ z) = true ∧ decide ((z : Int) < (e : Int)) = true ∧ decide (z < e) = true ∧ t2 = t + 1) ∨ (decide ((b : Int) ≤ (z : Int)) = true ∧ decide (b ≤ z) = true ∧ decide ((z : Int) < (e : Int)) = false ∧ decide (z < e) = false ∧ t2 = t) ∨ (decide ((b : Int) ≤ (z : Int)) = false ∧ decide (b ≤ z) = false ∧ t2 = t)) := by
            refine ⟨_, rfl, cntB_le _ _ _, ?_⟩
            obtain ⟨hb, hp⟩ := HBP.out
            have hbe := HBE.out
            by_cases c1 : b ≤ z
            · by_cases c2 : z < e
              · refine .inl ⟨decide_eq_true (by omega), decide_eq_true c1, decide_eq_true (by omega), decide_eq_true c2, ?_⟩
                rw [cntB_yes (by omega) (by omega), HT.out]
              · refine .inr (.inl ⟨decide_eq_true (by omega), decide_eq_true c1, decide_eq_false (by omega), decide_eq_false c2, ?_⟩)
                rw [cntB_no (by omega), HT.out]
            · refine .inr (.inr ⟨decide_eq_false (by omega), decide_eq_false c1, ?_⟩)
              rw [cntB_no (by omega), HT.out]
          obtain ⟨t2, ht2, ht2b, hcase⟩ := hfin
          have HT2 := Lib.hid ht2
          clear ht2
          rcases hcase with ⟨d1, d2, d3, d4, rfl⟩ | ⟨d1, d2, d3, d4, rfl⟩ | ⟨d1, d2, rfl⟩
          all_goals
            go_wp2_with fail
            refine HO.out.mono ?_
            rintro e' w5 ⟨rfl, hb⟩
            have HB5 := Lib.hid (HB4.out.trans (below_of hb HB4.out.size))
            clear hb
            go_wp2
            go_loopw [85] (fun kv w6 => ∃ (k : Nat), k ≤ i ∧ kv = .int .i64 (k : Int) ∧ Hid (Below w1.heap.size w1 w6)) (fun kv _ => i - (intOf kv).toNat)
            case atStart => exact ⟨0, Nat.zero_le _, rfl, HB5.out⟩
            case round =>
              obtain ⟨k, hk, rfl, HB6⟩ := hrel
              clear HB5 HO
              rcases Nat.lt_or_ge k i with hki | hki
              · have hkl : k < l.length := by omega
                have hkii : (k : Int) < (i : Int) := by omega
                have hk0 : (0 : Int) ≤ (k : Int) := by omega
                obtain ⟨m, f, p2, y, o, e2, hx, hn1, hn20, hnd, hq, hb, hp, hpd, hqp, hbe, heb2, hqb, hp1⟩ := apart_facts HW.out hkl
                have HO2 := Lib.hid (cof_any p l k _ wr (HC1.out.below HB6.out) hx)
                rw [hq] at HO2
                have hcase2 : (decide ((b : Int) < (e2 : Int)) = false ∧ decide (b < e2) = false) ∨ (decide ((b : Int) < (e2 : Int)) = true ∧ decide (b < e2) = true ∧ decide ((o : Int) < (e : Int)) = false ∧ decide (o < e) = false) := by
                  have hap := apartC HW.out hlt hkl (by omega)
                  rw [HBP.out.1, HBP.out.2, hb, hp] at hap
                  have hbe1 := HBE.out
                  by_cases c : b < e2
                  · exact .inr ⟨decide_eq_true (by omega), decide_eq_true c, decide_eq_false (by omega), decide_eq_false (by omega)⟩
                  · exact .inl ⟨decide_eq_false (by omega), decide_eq_false c⟩
                have g3 : decide ((m : Int) < 1) = false := decide_eq_false (by omega)
                have g4 : decide ((20 : Int) < (m : Int)) = false := decide_eq_false (by omega)
                have g4' : decide (20 < m) = false := decide_eq_false (by omega)
                have g3' : decide (m < 1) = false := decide_eq_false (by omega)
                have b1 : IntKind.i64.wrap (y : Int) = (y : Int) := IntWalk.i64_in _ (by omega)
                have b2 : (20 : Int) - (m : Int) = (f : Int) := by omega
                have b3 : IntKind.i64.wrap (f : Int) = (f : Int) := IntWalk.i64_in _ (by omega)
                have b4 : (0 : Int) ≤ (f : Int) := by omega
                have b5 : (f : Int) ≤ 64 := by omega
                have b6 : (2 : Int) ^ f = (p2 : Int) := by rw [hpd]; simp
                have b7 : (y : Int) * (p2 : Int) = (o : Int) := by rw [← hqp]; simp
                have b8 : IntKind.i64.wrap (o : Int) = (o : Int) := IntWalk.i64_in _ (by omega)
                have b9 : IntKind.i64.wrap (p2 : Int) = (p2 : Int) := IntWalk.i64_in _ (by omega)
                have b10 : (o : Int) + (p2 : Int) = (e2 : Int) := by omega
                have b11 : IntKind.i64.wrap (e2 : Int) = (e2 : Int) := IntWalk.i64_in _ (by omega)
                clear hx hn1 hn20 hnd hq hb hp hpd hqp hbe heb2 hqb hp1
                rcases hcase2 with ⟨f1, f2⟩ | ⟨f1, f2, f3, f4⟩
                all_goals
                  go_wp2_with fail
                  refine HO2.out.mono ?_
                  rintro e' w7 ⟨rfl, hb⟩
                  have HB7 := Lib.hid (HB6.out.trans (below_of hb HB6.out.size))
                  clear hb
                  go_wp2
                  go_roundw
                  case rel => exact ⟨k + 1, hki, by go_num, HB7.out⟩
                  case measure => simp [intOf]; omega
              · obtain rfl : k = i := by omega
                go_wp2
                go_roundw
                case rel => exact ⟨k + 1, hlt, by go_num, by rw [HT2.out]; first | done | go_num, HB6.out⟩
                case measure => simp [intOf]; omega
        · obtain rfl : i = l.length := by omega
          have h1 := HT.out
          rw [cntB_one HW.out HZ.out] at h1
          subst h1
          go_wp2_with fail
          refine (HLT.out _).mono ?_
          rintro e w5 ⟨rfl, hb⟩
          have HB5 := Lib.hid (below_two HB1.out (HB4.out.trans (below_of hb HB4.out.size)))
          clear hb HB4
          go_wp2
          go_ret
          exact ⟨rfl, HB5.out⟩
end Go.Proofs.Ytjpjdecbkekcfaa

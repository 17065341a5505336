/- Package ledger: a ledger, and what was done, agree; a ledger that may not be. -/
import Derived.Test.YtfphdcfbkknpbaaLedE
namespace Go.Proofs.Ytfphdcfbkknpbaa
open Go.RowKit

/-- the accounts are what the deeds say -/
def linkD (A : List Acc) (D : List Deed) : Prop := ∀ (i : Nat) (x : Acc), A[i]? = some x → x.2.1 = usedD D i ∧ x.2.2 = peakD D i

theorem linkD_new (L : List Int) : linkD (newA L) [] := by
  intro i x h
  unfold newA at h
  rw [List.getElem?_map] at h
  cases hl : L[i]? with
  | none => rw [hl] at h; simp at h
  | some n => rw [hl] at h; simp at h; rw [← h]; exact ⟨rfl, rfl⟩
theorem in_same {L : List Int} {A : List Acc} (h : lims L A) (t : Int) : inA t A = isIn t L := by unfold inA isIn; rw [h.1]
theorem lims_get {L : List Int} {A : List Acc} (h : lims L A) {k : Nat} {x : Acc} (hx : A[k]? = some x) : L.getD ((k : Int).toNat) 0 = x.1 := by
  rw [Int.toNat_natCast]; exact getD_of (h.2 k x hx)
theorem resE_ref {L : List Int} {A : List Acc} {D : List Deed} (h : lims L A) (hl : linkD A D) (t n : Int) : resW L D (t, n) = resE A t n := by
  cases hin : inA t A with
  | false =>
    rw [resE_in hin]
    rw [in_same h] at hin
    unfold resW
    rw [if_pos hin]
  | true =>
    obtain ⟨k, x, rfl, hx⟩ := inA_yes hin
    have hin2 := hin
    rw [in_same h] at hin2
    have hg := lims_get h hx
    obtain ⟨hu, _⟩ := hl k x hx
    unfold resW
    rw [if_neg (by show ¬ isIn (k : Int) L = false; rw [hin2]; decide)]
    show (if n < 0 ∨ 1099511627776 < n then 1 else if L.getD (k : Int).toNat 0 < n then 33 else if L.getD (k : Int).toNat 0 < usedD D k + n then 34 else 0) = _
    rw [hg, ← hu]
    by_cases h2 : 0 ≤ n ∧ n ≤ 1099511627776
    · rw [resE_x hx hin h2, if_neg (by omega)]
      by_cases h3 : x.1 < n
      · rw [if_pos h3, if_pos h3]
      · rw [if_neg h3, if_neg h3]
        by_cases h4 : x.1 < x.2.1 + n
        · rw [if_pos h4, if_pos (by omega)]
        · rw [if_neg h4, if_neg (by omega)]
    · rw [resE_arg hin h2, if_pos (by omega)]
theorem relE_ref {L : List Int} {A : List Acc} {D : List Deed} (h : lims L A) (hl : linkD A D) (t n : Int) : relW L D (t, n) = relE A t n := by
  cases hin : inA t A with
  | false =>
    rw [relE_in hin]
    rw [in_same h] at hin
    unfold relW
    rw [if_pos hin]
  | true =>
    obtain ⟨k, x, rfl, hx⟩ := inA_yes hin
    have hin2 := hin
    rw [in_same h] at hin2
    obtain ⟨hu, _⟩ := hl k x hx
    unfold relW
    rw [if_neg (by show ¬ isIn (k : Int) L = false; rw [hin2]; decide)]
    show (if n < 0 ∨ usedD D k < n then 1 else 0) = _
    rw [relE_x hx hin, ← hu]
    by_cases h2 : 0 ≤ n ∧ n ≤ x.2.1
    · rw [if_neg (by omega), if_neg (by simpa using h2)]
    · rw [if_pos (by omega), if_pos h2]
theorem usedD_same {D : List Deed} {t u n : Int} : usedD (D ++ [(t, n)]) u = if t = u then usedD D u + n else usedD D u := by
  rw [usedD_snoc]
  by_cases h : t = u
  · rw [if_pos h, if_pos (by simpa using h)]
  · rw [if_neg h, if_neg (by simpa using h)]
theorem link_set {A : List Acc} {D : List Deed} {k : Nat} {x x' : Acc} {n : Int} (hl : linkD A D) (hx : A[k]? = some x) (h1 : x'.2.1 = x.2.1 + n) (h2 : x'.2.2 = max x.2.2 (x.2.1 + n)) (hok : okL A) : linkD (A.set k x') (D ++ [((k : Int), n)]) := by
  intro i y hy
  rw [List.getElem?_set] at hy
  split at hy
  · rename_i e
    subst e
    split at hy
    · simp at hy
      subst hy
      obtain ⟨g1, g2⟩ := hl k x hx
      rw [peakD_snoc, usedD_same, if_pos rfl, ← g1, ← g2]
      exact ⟨h1, h2⟩
    · simp at hy
  · rename_i e
    obtain ⟨g1, g2⟩ := hl i y hy
    obtain ⟨o1, o2, _, _⟩ := okA_at hok hy
    rw [peakD_snoc, usedD_same, if_neg (by omega), ← g1, ← g2]
    exact ⟨rfl, by omega⟩
theorem link_res {A : List Acc} {D : List Deed} {t n : Int} (hl : linkD A D) (hok : okL A) (h0 : resE A t n = 0) : linkD (resA A t n) (D ++ [(t, n)]) ∧ goodD (t, n) := by
  have hin : inA t A = true := by
    cases hi : inA t A with
    | true => rfl
    | false => rw [resE_in hi] at h0; exact absurd h0 (by decide)
  obtain ⟨k, x, rfl, hx⟩ := inA_yes hin
  have hn : 0 ≤ n ∧ n ≤ 1099511627776 := by
    by_cases h2 : 0 ≤ n ∧ n ≤ 1099511627776
    · exact h2
    · rw [resE_arg hin h2] at h0; exact absurd h0 (by decide)
  rw [resA_x hx h0]
  exact ⟨link_set hl hx rfl rfl hok, by show -1099511627776 ≤ n; omega, hn.2⟩
theorem link_rel {A : List Acc} {D : List Deed} {t n : Int} (hl : linkD A D) (hok : okL A) (h0 : relE A t n = 0) : linkD (relA A t n) (D ++ [(t, 0 - n)]) ∧ goodD (t, 0 - n) ∧ 0 ≤ n ∧ n ≤ 1099511627776 := by
  have hin : inA t A = true := by
    cases hi : inA t A with
    | true => rfl
    | false => rw [relE_in hi] at h0; exact absurd h0 (by decide)
  obtain ⟨k, x, rfl, hx⟩ := inA_yes hin
  obtain ⟨o1, o2, o3, o4⟩ := okA_at hok hx
  rw [relA_x hx h0]
  rw [relE_x hx hin] at h0
  have hn : 0 ≤ n ∧ n ≤ x.2.1 := by
    by_cases h2 : 0 ≤ n ∧ n ≤ x.2.1
    · exact h2
    · rw [if_pos h2] at h0; exact absurd h0 (by decide)
  refine ⟨link_set hl hx (by show x.2.1 - n = _; omega) (by show x.2.2 = _; omega) hok, ⟨?_, ?_⟩, hn.1, by omega⟩
  · show -1099511627776 ≤ 0 - n; omega
  · show 0 - n ≤ 1099511627776; omega

set_option maxRecDepth 100000 in
theorem lnew_no (v : Value) (l : List Int) (w : World) (hv : RInts w v l) (hm : limitsB l = false) :
    Calls Try.prog 24 #[v] w fun e w' => e = .returned (.tuple #[.pointer none, .int .i64 1]) ∧ w = w' := by
  have HC := Lib.hid (containsfunc_any v l _ wrong w hv lnew1_enters lnew1_any)
  rw [any_wrong] at HC
  obtain ⟨a, cap, rfl, hc1, hc2⟩ := hv.shape
  clear hv
  by_cases h0 : l.length = 0
  · have he : ((l.length : Int) == 0) = true := by rw [h0]; rfl
    clear HC hm h0
    go_enter Try.func24, Try.ntmps24
    go_wp2
    go_ret2
    exact ⟨rfl, rfl⟩
  · have he : ((l.length : Int) == 0) = false := beq_eq_false_iff_ne.2 (by omega)
    by_cases h1 : 16 < l.length
    · have ht : decide (16 < l.length) = true := decide_eq_true h1
      have ht' : decide ((16 : Int) < (l.length : Int)) = true := decide_eq_true (by omega)
      clear HC hm h0 h1
      go_enter Try.func24, Try.ntmps24
      go_wp2
      go_ret2
      exact ⟨rfl, rfl⟩
    · have ht : decide (16 < l.length) = false := decide_eq_false h1
      have ht' : decide ((16 : Int) < (l.length : Int)) = false := decide_eq_false (by omega)
      have hmay : mayL l = false := by
        unfold limitsB at hm
        cases hx : mayL l with
        | false => rfl
        | true =>
          rw [hx] at hm
          simp at hm
          exact absurd (hm (by omega)) (by omega)
      rw [hmay] at HC
      clear hm h0 h1 hmay
      go_enter Try.func24, Try.ntmps24
      go_wp2_with fail
      refine HC.out.mono ?_
      rintro e w' ⟨rfl, rfl⟩
      go_wp2
      go_ret2
      exact ⟨rfl, rfl⟩
end Go.Proofs.Ytfphdcfbkknpbaa

/- Package window: a meter, and what was charged, agree. -/
import Derived.Test.YtfphdcfbkknpbaaWinI
namespace Go.Proofs.Ytfphdcfbkknpbaa
open Go.RowKit

/-- the meter is what the charges say -/
def linkC (Q C T : List Int) (ch : List Chg) (at_ span : Int) : Prop :=
  C.length = Q.length ∧ T.length = Q.length ∧ (∀ (i : Nat) (x : Int), C[i]? = some x → x = chL ch i at_ span) ∧ ∀ (i : Nat) (x : Int), T[i]? = some x → x = totC ch i
def agesC (ch : List Chg) (at_ : Int) : Prop := ∀ c ∈ ch, goodC c ∧ c.2.2 ≤ at_

theorem linkC_new (Q : List Int) (span : Int) : linkC Q (List.replicate Q.length 0) (List.replicate Q.length 0) [] 0 span := by
  refine ⟨by simp, by simp, fun i x h => ?_, fun i x h => ?_⟩
  · rw [List.getElem?_replicate] at h
    split at h
    · simp at h; rw [← h]; rfl
    · cases h
  · rw [List.getElem?_replicate] at h
    split at h
    · simp at h; rw [← h]; rfl
    · cases h
theorem linkC_left {Q C T : List Int} {ch : List Chg} {at_ span : Int} (h : linkC Q C T ch at_ span) {k : Nat} {q : Int} (hq : Q[k]? = some q) :
    leftL Q C k = q - chL ch k at_ span := by
  have hk := (List.getElem?_eq_some_iff.1 hq).1
  have hin : isIn (k : Int) Q = true := by unfold isIn; simp; omega
  obtain ⟨hcx, hc⟩ : ∃ z, C[k]? = some z := ⟨_, List.getElem?_eq_getElem (by rw [h.1]; exact hk)⟩
  rw [leftL_in hin, Int.toNat_natCast, getD_of hq, getD_of hc, h.2.2.1 k _ hc]
theorem linkC_total {Q C T : List Int} {ch : List Chg} {at_ span : Int} (h : linkC Q C T ch at_ span) {k : Nat} {q : Int} (hq : Q[k]? = some q) :
    totalL Q T k = totC ch k := by
  have hk := (List.getElem?_eq_some_iff.1 hq).1
  have hin : isIn (k : Int) Q = true := by unfold isIn; simp; omega
  obtain ⟨hcx, hc⟩ : ∃ z, T[k]? = some z := ⟨_, List.getElem?_eq_getElem (by rw [h.2.1]; exact hk)⟩
  rw [totalL_in hin, Int.toNat_natCast, getD_of hc, h.2.2.2 k _ hc]
theorem refW_same {Q C T : List Int} {ch : List Chg} {at_ span : Int} (h : linkC Q C T ch at_ span) (t n : Int) : refW Q ch t n at_ span = chargeE Q C t n := by
  cases hin : isIn t Q with
  | false => rw [chargeE_in hin]; unfold refW; rw [if_pos hin]
  | true =>
    obtain ⟨k, rfl, hk⟩ := isIn_yes hin
    have hq : Q[k]? = some Q[k] := List.getElem?_eq_getElem hk
    have hl := linkC_left h hq
    unfold refW
    rw [if_neg (by rw [hin]; decide), Int.toNat_natCast, getD_of hq, ← hl]
    by_cases h2 : 0 ≤ n ∧ n ≤ 1099511627776
    · rw [if_neg (by omega)]
      by_cases h3 : leftL Q C k < n
      · rw [if_pos h3, chargeE_quota hin h2 h3]
      · rw [if_neg h3, chargeE_ok hin h2 h3]
    · rw [if_pos (by omega), chargeE_arg hin h2]
theorem hits_same (t u n at_ span : Int) : hits u at_ span (t, n, at_) = decide (t = u) := by
  unfold hits
  rw [Bool.eq_iff_iff]
  simp
theorem linkC_charge {Q C T : List Int} {ch : List Chg} {at_ span t n : Int} (h : linkC Q C T ch at_ span) (h0 : chargeE Q C t n = 0) :
    linkC Q (chargeC Q C t n) (chargeT Q C T t n) (ch ++ [(t, n, at_)]) at_ span := by
  obtain ⟨hin, hn1, hn2, hn3⟩ := chargeE_zero h0
  obtain ⟨k, rfl, hk⟩ := isIn_yes hin
  obtain ⟨hcx, hc⟩ : ∃ z, C[k]? = some z := ⟨_, List.getElem?_eq_getElem (by rw [h.1]; exact hk)⟩
  obtain ⟨htx, ht⟩ : ∃ z, T[k]? = some z := ⟨_, List.getElem?_eq_getElem (by rw [h.2.1]; exact hk)⟩
  refine ⟨by rw [chargeC_len]; exact h.1, by rw [chargeT_len]; exact h.2.1, fun i x hx => ?_, fun i x hx => ?_⟩
  · unfold chargeC at hx
    rw [if_pos h0, Int.toNat_natCast, getD_of hc, List.getElem?_set] at hx
    rw [chL_snoc, hits_same]
    split at hx
    · rename_i e
      subst e
      split at hx
      · simp only [Option.some.injEq] at hx
        rw [if_pos (by simp), ← hx, ← h.2.2.1 k _ hc]
      · cases hx
    · rename_i e
      rw [if_neg (by simp; omega)]
      exact h.2.2.1 i x hx
  · unfold chargeT at hx
    rw [if_pos h0, Int.toNat_natCast, getD_of ht, List.getElem?_set] at hx
    rw [totC_snoc]
    split at hx
    · rename_i e
      subst e
      split at hx
      · simp only [Option.some.injEq] at hx
        rw [if_pos (by simp), ← hx, ← h.2.2.2 k _ ht]
      · cases hx
    · rename_i e
      rw [if_neg (by simp; omega)]
      exact h.2.2.2 i x hx
theorem ages_charge {Q C : List Int} {ch : List Chg} {at_ t n : Int} (h : agesC ch at_) (h0 : chargeE Q C t n = 0) (ha : 0 ≤ at_) (ha2 : at_ ≤ 1099511627776) : agesC (ch ++ [(t, n, at_)]) at_ := by
  obtain ⟨hin, hn1, hn2, hn3⟩ := chargeE_zero h0
  intro c hc
  rcases List.mem_append.1 hc with h1 | h1
  · exact h c h1
  · rw [List.mem_singleton.1 h1]
    exact ⟨⟨hn1, hn2, ha, ha2⟩, Int.le_refl _⟩
theorem ages_tick {ch : List Chg} {at_ : Int} (h : agesC ch at_) : agesC ch (at_ + 1) := fun c hc => ⟨(h c hc).1, by have := (h c hc).2; omega⟩
theorem chL_zero {ch : List Chg} {t at_ span : Int} (h : ∀ c ∈ ch, ¬ c.2.2 / span = at_ / span) : chL ch t at_ span = 0 := by
  have key : ∀ k, k ≤ ch.length → chL (ch.take k) t at_ span = 0 := by
    intro k
    induction k with
    | zero => intro _; rfl
    | succ k ih =>
      intro hk
      have hx : ch[k]? = some ch[k] := List.getElem?_eq_getElem (by omega)
      rw [take_snoc hx, chL_snoc, if_neg, ih (by omega)]
      unfold hits
      have := h _ (List.mem_of_getElem? hx)
      simp [this]
  have := key ch.length (Nat.le_refl _)
  rw [List.take_length] at this
  exact this
theorem chL_same {ch : List Chg} {t a b span : Int} (h : a / span = b / span) : chL ch t a span = chL ch t b span := by
  unfold chL hits
  rw [h]
theorem linkC_tick {Q C T : List Int} {ch : List Chg} {at_ span : Int} (h : linkC Q C T ch at_ span) (hg : agesC ch at_) (hs : 1 ≤ span) (ha : 0 ≤ at_) :
    linkC Q (tickC span at_ C) T ch (at_ + 1) span := by
  refine ⟨by rw [tickC_len]; exact h.1, h.2.1, fun i x hx => ?_, h.2.2.2⟩
  have hdm := Int.emod_add_mul_ediv (at_ + 1) span
  have hdm2 := Int.emod_add_mul_ediv at_ span
  have hl := Int.emod_lt_of_pos at_ (show 0 < span by omega)
  have hl2 := Int.emod_lt_of_pos (at_ + 1) (show 0 < span by omega)
  have hn := Int.emod_nonneg at_ (show span ≠ 0 by omega)
  have hn2 := Int.emod_nonneg (at_ + 1) (show span ≠ 0 by omega)
  unfold tickC at hx
  by_cases hz : (at_ + 1) % span = 0
  · rw [if_pos (by simpa using hz), List.getElem?_replicate] at hx
    have hx0 : x = 0 := by
      split at hx
      · simp at hx; omega
      · cases hx
    rw [hx0, chL_zero]
    intro c hc he
    obtain ⟨⟨_, _, g1, _⟩, g2⟩ := hg c hc
    have h1 := Int.emod_add_mul_ediv c.2.2 span
    have h2 := Int.emod_nonneg c.2.2 (show span ≠ 0 by omega)
    rw [he] at h1
    rw [hz] at hdm
    omega
  · rw [if_neg (by simpa using hz)] at hx
    rw [h.2.2.1 i x hx]
    refine chL_same ?_
    -- the same window
    have hq : (at_ + 1) / span = at_ / span := by
      have e1 : at_ + 1 = (at_ % span + 1) + span * (at_ / span) := by omega
      by_cases hc : at_ % span + 1 = span
      · exfalso
        apply hz
        rw [e1, hc, Int.add_mul_emod_self_left, Int.emod_self]
      · rw [e1, Int.add_mul_ediv_left _ _ (show span ≠ 0 by omega), Int.ediv_eq_zero_of_lt (by omega) (by omega)]
        have e2 : (at_ % span + 1 + span * (at_ / span)) = at_ + 1 := by omega
        omega
    exact hq.symm
end Go.Proofs.Ytfphdcfbkknpbaa

/- Package canon: plain; what a row of bits begins with; no program is named here. -/
import Derived.Test.YtjpjdecbkekcfaaCanM
import Derived.Test.YtjpjdecbkekcfaaCanR
namespace Go.Proofs.Ytjpjdecbkekcfaa
open Go.RowKit

/-- the code of a symbol, bit by bit -/
def cwC (l : List Int) (s : Nat) : List Bool := fieldL (codeC l s) (l.getD s 0).toNat
theorem cwC_len (l : List Int) (s : Nat) : (cwC l s).length = (l.getD s 0).toNat := fieldL_len _ _
theorem cwC_of {l : List Int} {s n : Nat} (h : l[s]? = some (n : Int)) : cwC l s = fieldL (nowC l n s) n := by
  unfold cwC codeC
  rw [getD_of h, Int.toNat_natCast]
theorem codeC_of {l : List Int} {s n : Nat} (h : l[s]? = some (n : Int)) : codeC l s = nowC l n s := by
  unfold codeC
  rw [getD_of h, Int.toNat_natCast]
theorem idxT_length {l : List Int} (n : Nat) : ∀ s, s ≤ l.length → (idxT l n s).length = cntC (l.take s) n := by
  intro s
  induction s with
  | zero => intro _; simp [idxT, cntC]
  | succ s ih =>
    intro h
    have hx : l[s]? = some l[s] := List.getElem?_eq_getElem (by omega)
    rw [idxT_step hx, cntC_take hx, List.length_append, ih (by omega)]
    split <;> rfl
theorem idxT_get {l : List Int} {n k i : Nat} : ∀ s, s ≤ l.length → (idxT l n s)[k]? = some i → l[i]? = some (n : Int) ∧ cntC (l.take i) n = k := by
  intro s
  induction s with
  | zero => intro _ h; simp [idxT] at h
  | succ s ih =>
    intro hs h
    have hx : l[s]? = some l[s] := List.getElem?_eq_getElem (by omega)
    rw [idxT_step hx] at h
    by_cases e : l[s] = (n : Int)
    · rw [if_pos e] at h
      by_cases hk : k < (idxT l n s).length
      · rw [List.getElem?_append_left hk] at h
        exact ih (by omega) h
      · rw [List.getElem?_append_right (by omega)] at h
        have h1 := (List.getElem?_eq_some_iff.1 h).1
        rw [List.length_singleton] at h1
        have h2 : k - (idxT l n s).length = 0 := by omega
        rw [h2] at h
        have h3 : s = i := by simpa using h
        subst h3
        refine ⟨by rw [hx, e], ?_⟩
        rw [← idxT_length n s (by omega)]
        omega
    · rw [if_neg e, List.append_nil] at h
      exact ih (by omega) h
theorem ordC_length (l : List Int) (n : Nat) : (ordC l (n + 1)).length = (ordC l n).length + cntC l (n + 1) := by
  rw [ordC, List.length_append, idxT_length _ _ (Nat.le_refl _), List.take_length]
theorem ordC_pre (l : List Int) (n : Nat) : ∀ k, ∃ t, ordC l (n + k) = ordC l n ++ t := by
  intro k
  induction k with
  | zero => exact ⟨[], by simp⟩
  | succ k ih =>
    obtain ⟨t, ht⟩ := ih
    exact ⟨t ++ idxT l (n + k + 1) l.length, by rw [← Nat.add_assoc, ordC, ht, List.append_assoc]⟩
theorem endC_succ (l : List Int) (n : Nat) : endC l (n + 1) = 2 * endC l n + cntC l (n + 1) := rfl
/-- a level's hit -/
theorem hit_of {l : List Int} {n c : Nat} (hn : n + 1 ≤ 20) (h1 : 2 * endC l n ≤ c) (h2 : c < endC l (n + 1)) :
    ∃ s, l[s]? = some ((n + 1 : Nat) : Int) ∧ nowC l (n + 1) s = c ∧ (ordC l 20)[(ordC l n).length + (c - 2 * endC l n)]? = some s := by
  rw [endC_succ] at h2
  have hk : c - 2 * endC l n < (idxT l (n + 1) l.length).length := by rw [idxT_length _ _ (Nat.le_refl _), List.take_length]; omega
  obtain ⟨s, hs⟩ : ∃ s, (idxT l (n + 1) l.length)[c - 2 * endC l n]? = some s := ⟨_, List.getElem?_eq_getElem hk⟩
  obtain ⟨q1, q2⟩ := idxT_get _ (Nat.le_refl _) hs
  refine ⟨s, q1, ?_, ?_⟩
  · unfold nowC
    rw [Nat.add_sub_cancel, q2]
    omega
  · obtain ⟨t, ht⟩ := ordC_pre l (n + 1) (20 - (n + 1))
    rw [show n + 1 + (20 - (n + 1)) = 20 by omega] at ht
    rw [ht, List.getElem?_append_left (by rw [ordC, List.length_append]; omega), ordC, List.getElem?_append_right (by omega), Nat.add_sub_cancel_left]
    exact hs
theorem endC_mono (l : List Int) (a k : Nat) : endC l a * 2 ^ k ≤ endC l (a + k) := by
  induction k with
  | zero => simp
  | succ k ih =>
    rw [← Nat.add_assoc, endC_succ, Nat.pow_succ, ← Nat.mul_assoc]
    omega
/-- a code is below its level's end -/
theorem nowC_end_lt {l : List Int} {n s : Nat} (hs : l[s]? = some ((n + 1 : Nat) : Int)) : nowC l (n + 1) s + 1 ≤ endC l (n + 1) := by
  have h1 := nowC_step hs (n + 1)
  rw [if_pos rfl] at h1
  have h2 := nowC_le (l := l) (n := n) (s := s + 1)
  omega
theorem whole_at {l : List Int} (hw : wholeC l = true) {s : Nat} {x : Int} (hs : l[s]? = some x) : ∃ n : Nat, x = ((n + 1 : Nat) : Int) ∧ n + 1 ≤ 20 := by
  have h1 := (wholeC_iff.1 hw).1 x (List.mem_of_getElem? hs)
  exact ⟨x.toNat - 1, by omega, by omega⟩
theorem begins_num {l : List Int} {n s : Nat} {bs : List Bool} (hw : wholeC l = true) (hn : n + 1 ≤ 20) (hs : l[s]? = some ((n + 1 : Nat) : Int)) (hb : begB bs (cwC l s) = true) : n + 1 ≤ bs.length ∧ numL (bs.take (n + 1)) = nowC l (n + 1) s := by
  obtain ⟨t, rfl⟩ := begB_iff.1 hb
  rw [cwC_of hs]
  refine ⟨by rw [List.length_append, fieldL_len]; omega, ?_⟩
  rw [List.take_append_of_le_length (by rw [fieldL_len]; exact Nat.le_refl _), List.take_of_length_le (by rw [fieldL_len]; exact Nat.le_refl _)]
  exact numL_field_of (nowC_lt hw hn hs)
theorem numL_take {bs : List Bool} {a k : Nat} (h : a + k ≤ bs.length) : numL (bs.take (a + k)) < (numL (bs.take a) + 1) * 2 ^ k := by
  have e : bs.take (a + k) = bs.take a ++ (bs.drop a).take k := by rw [List.take_add]
  rw [e, numL_append]
  have h2 := numL_lt ((bs.drop a).take k)
  have h3 : ((bs.drop a).take k).length = k := by rw [List.length_take, List.length_drop]; omega
  rw [h3] at h2 ⊢
  rw [Nat.add_mul, Nat.one_mul]
  omega
/-- where no level was hit, no code has been there -/
theorem no_hit {l : List Int} {n s : Nat} {bs : List Bool} (hw : wholeC l = true) (hn : n ≤ bs.length) (hs : s < l.length) (he : endC l n ≤ numL (bs.take n)) (hl : (l.getD s 0).toNat ≤ n) : begB bs (cwC l s) = false := by
  cases hb : begB bs (cwC l s) with
  | false => rfl
  | true =>
    exfalso
    have hx : l[s]? = some l[s] := List.getElem?_eq_getElem hs
    obtain ⟨m, hm, hm2⟩ := whole_at hw hx
    rw [hm] at hx
    obtain ⟨h1, h2⟩ := begins_num hw hm2 hx hb
    rw [getD_of hx, Int.toNat_natCast] at hl
    have h3 := nowC_end_lt hx
    have h4 := numL_take (bs := bs) (a := m + 1) (k := n - (m + 1)) (by omega)
    have h5 := endC_mono l (m + 1) (n - (m + 1))
    rw [show m + 1 + (n - (m + 1)) = n by omega] at h4 h5
    rw [h2] at h4
    have h6 := Nat.mul_le_mul_right (2 ^ (n - (m + 1))) h3
    omega
/-- a level's miss -/
theorem miss_next {n : Nat} {bs : List Bool} {x : Bool} {t : List Bool} (hx : bs.drop n = x :: t) : numL (bs.take (n + 1)) = 2 * numL (bs.take n) + x.toNat := by
  have h1 : bs[n]? = some x := by
    have := congrArg (fun z => z[0]?) hx
    simpa using this
  rw [take_snoc h1, numL_snoc]
theorem hit_begins {l : List Int} {n s : Nat} {bs : List Bool} (hn : n + 1 ≤ bs.length) (hs : l[s]? = some ((n + 1 : Nat) : Int)) (hc : nowC l (n + 1) s = numL (bs.take (n + 1))) : bs = cwC l s ++ bs.drop (n + 1) := by
  rw [cwC_of hs, hc]
  have h1 := field_numL (bs.take (n + 1))
  rw [List.length_take, Nat.min_eq_left hn] at h1
  rw [h1, List.take_append_drop]
/-- where a code begins among the rows of 20 bits -/
def begC (l : List Int) (s : Nat) : Nat := codeC l s * 2 ^ (20 - (l.getD s 0).toNat)
def sizC2 (l : List Int) (s : Nat) : Nat := 2 ^ (20 - (l.getD s 0).toNat)
theorem begC_of {l : List Int} {s n : Nat} (h : l[s]? = some (n : Int)) : begC l s = nowC l n s * 2 ^ (20 - n) := by
  unfold begC
  rw [codeC_of h, getD_of h, Int.toNat_natCast]
theorem sizC2_of {l : List Int} {s n : Nat} (h : l[s]? = some (n : Int)) : sizC2 l s = 2 ^ (20 - n) := by
  unfold sizC2
  rw [getD_of h, Int.toNat_natCast]
theorem cntC_take_lt {l : List Int} {n s t : Nat} (hs : l[s]? = some (n : Int)) (h : s < t) : cntC (l.take s) n < cntC (l.take t) n := by
  have h1 := cntC_take hs n
  rw [if_pos rfl] at h1
  have h2 := cntC_le (l.take t) n (s + 1)
  rw [List.take_take, Nat.min_eq_left (by omega)] at h2
  omega
theorem apart_lt {l : List Int} {n m s t : Nat} (hs : l[s]? = some ((n + 1 : Nat) : Int)) (ht : l[t]? = some ((m + 1 : Nat) : Int)) (hm : m + 1 ≤ 20) (h : n < m ∨ (n = m ∧ s < t)) : begC l s + sizC2 l s ≤ begC l t := by
  rw [begC_of hs, begC_of ht, sizC2_of hs]
  rcases h with h | ⟨rfl, h⟩
  · have h1 := nowC_end_lt hs
    have h2 := endC_mono l (n + 1) (m - (n + 1))
    rw [show n + 1 + (m - (n + 1)) = m by omega] at h2
    have h3 : 2 * endC l m ≤ nowC l (m + 1) t := by unfold nowC; rw [Nat.add_sub_cancel]; omega
    have e1 : (2 : Nat) ^ (20 - (n + 1)) = 2 ^ (m - (n + 1)) * (2 * 2 ^ (20 - (m + 1))) := by
      rw [← Nat.pow_succ', ← Nat.pow_add]
      congr 1
      omega
    have h4 : (nowC l (n + 1) s + 1) * 2 ^ (m - (n + 1)) ≤ endC l m := Nat.le_trans (Nat.mul_le_mul_right _ h1) h2
    have h5 := Nat.mul_le_mul_right (2 * 2 ^ (20 - (m + 1))) h4
    have h6 := Nat.mul_le_mul_right (2 ^ (20 - (m + 1))) h3
    rw [e1]
    have h7 : nowC l (n + 1) s * (2 ^ (m - (n + 1)) * (2 * 2 ^ (20 - (m + 1)))) + 2 ^ (m - (n + 1)) * (2 * 2 ^ (20 - (m + 1))) = (nowC l (n + 1) s + 1) * 2 ^ (m - (n + 1)) * (2 * 2 ^ (20 - (m + 1))) := by
      rw [Nat.mul_assoc, Nat.add_mul, Nat.one_mul]
    have h8 : endC l m * (2 * 2 ^ (20 - (m + 1))) = 2 * endC l m * 2 ^ (20 - (m + 1)) := by
      rw [Nat.mul_comm 2 (endC l m), Nat.mul_assoc]
    omega
  · have h1 := cntC_take_lt hs h
    have h2 : nowC l (n + 1) s + 1 ≤ nowC l (n + 1) t := by unfold nowC; omega
    have h3 := Nat.mul_le_mul_right (2 ^ (20 - (n + 1))) h2
    rw [Nat.add_mul, Nat.one_mul] at h3
    exact h3
/-- the rows that begin with two codes are apart -/
theorem apartC {l : List Int} (hw : wholeC l = true) {s t : Nat} (hs : s < l.length) (ht : t < l.length) (hne : s ≠ t) : begC l s + sizC2 l s ≤ begC l t ∨ begC l t + sizC2 l t ≤ begC l s := by
  have hx : l[s]? = some l[s] := List.getElem?_eq_getElem hs
  have hy : l[t]? = some l[t] := List.getElem?_eq_getElem ht
  obtain ⟨n, h1, h2⟩ := whole_at hw hx
  obtain ⟨m, h3, h4⟩ := whole_at hw hy
  rw [h1] at hx
  rw [h3] at hy
  by_cases h : n < m ∨ (n = m ∧ s < t)
  · exact .inl (apart_lt hx hy h4 h)
  · exact .inr (apart_lt hy hx h2 (by omega))
/-- a row of 20 bits begins with a code -/
theorem some_begins {l : List Int} (hw : wholeC l = true) {v : Nat} (hv : v < 1048576) : ∃ s, s < l.length ∧ begC l s ≤ v ∧ v < begC l s + sizC2 l s := by
  have key : ∀ k, k ≤ 20 → (∃ s, s < l.length ∧ begC l s ≤ v ∧ v < begC l s + sizC2 l s) ∨ endC l k * 2 ^ (20 - k) ≤ v := by
    intro k
    induction k with
    | zero => intro _; right; simp [endC]
    | succ k ih =>
      intro hk
      rcases ih (by omega) with h | h
      · exact .inl h
      by_cases hh : endC l (k + 1) * 2 ^ (20 - (k + 1)) ≤ v
      · exact .inr hh
      left
      have hp : 0 < 2 ^ (20 - (k + 1)) := Nat.two_pow_pos _
      have e1 : (2 : Nat) ^ (20 - k) = 2 * 2 ^ (20 - (k + 1)) := by rw [← Nat.pow_succ']; congr 1; omega
      obtain ⟨c, hc⟩ : ∃ c, v / 2 ^ (20 - (k + 1)) = c := ⟨_, rfl⟩
      have hlo : 2 * endC l k ≤ c := by
        rw [← hc, Nat.le_div_iff_mul_le hp]
        rw [e1] at h
        rw [Nat.mul_comm 2 (endC l k), Nat.mul_assoc]
        exact h
      have hhi : c < endC l (k + 1) := by
        rw [← hc, Nat.div_lt_iff_lt_mul hp]
        omega
      obtain ⟨s, q1, q2, -⟩ := hit_of hk hlo hhi
      refine ⟨s, (List.getElem?_eq_some_iff.1 q1).1, ?_, ?_⟩
      · rw [begC_of q1, q2, ← hc]
        exact Nat.div_mul_le_self _ _
      · rw [begC_of q1, sizC2_of q1, q2, ← hc]
        have := Nat.lt_div_mul_add hp (a := v)
        exact this
  rcases key 20 (Nat.le_refl _) with h | h
  · exact h
  · exfalso
    have h1 := endC_share (fun x hx => ((wholeC_iff.1 hw).1 x hx).1) 20 (Nat.le_refl _)
    have h2 : shareTo l 20 = shareC l := by
      have hh := (wholeC_iff.1 hw).1
      unfold shareTo shareC
      congr 1
      apply List.map_congr_left
      intro x hx
      exact if_pos (hh x hx).2
    rw [h2, (wholeC_iff.1 hw).2] at h1
    omega
theorem endC_20 {l : List Int} (hw : wholeC l = true) : endC l 20 = 1048576 := by
  have h1 := endC_share (fun x hx => ((wholeC_iff.1 hw).1 x hx).1) 20 (Nat.le_refl _)
  have h2 : shareTo l 20 = shareC l := by
    have hh := (wholeC_iff.1 hw).1
    unfold shareTo shareC
    congr 1
    apply List.map_congr_left
    intro x hx
    exact if_pos (hh x hx).2
  rw [h2, (wholeC_iff.1 hw).2] at h1
  simpa using h1
/-- two codes with which a row begins are one -/
theorem begins_one {l : List Int} (hw : wholeC l = true) {s t : Nat} (hs : s < l.length) (ht : t < l.length) {bs : List Bool} (h1 : begB bs (cwC l s) = true) (h2 : begB bs (cwC l t) = true) : s = t := by
  apply Classical.byContradiction
  intro hne
  have hx : l[s]? = some l[s] := List.getElem?_eq_getElem hs
  have hy : l[t]? = some l[t] := List.getElem?_eq_getElem ht
  obtain ⟨n, q1, q2⟩ := whole_at hw hx
  obtain ⟨m, q3, q4⟩ := whole_at hw hy
  rw [q1] at hx
  rw [q3] at hy
  have hap := apartC hw hs ht hne
  rw [begC_of hx, begC_of hy, sizC2_of hx, sizC2_of hy] at hap
  obtain ⟨a1, a2⟩ := begins_num hw q2 hx h1
  obtain ⟨b1, b2⟩ := begins_num hw q4 hy h2
  rw [← a2, ← b2] at hap
  have key : ∀ i j : Nat, i ≤ j → j ≤ 20 → j ≤ bs.length → numL (bs.take i) * 2 ^ (20 - i) ≤ numL (bs.take j) * 2 ^ (20 - j) ∧ numL (bs.take j) * 2 ^ (20 - j) < numL (bs.take i) * 2 ^ (20 - i) + 2 ^ (20 - i) := by
    intro i j hij hj hb
    obtain ⟨k, rfl⟩ : ∃ k, j = i + k := ⟨j - i, by omega⟩
    have e : bs.take (i + k) = bs.take i ++ (bs.drop i).take k := by rw [List.take_add]
    have h3 : ((bs.drop i).take k).length = k := by rw [List.length_take, List.length_drop]; omega
    have h4 := numL_lt ((bs.drop i).take k)
    rw [h3] at h4
    rw [e, numL_append, h3]
    have e1 : (2 : Nat) ^ (20 - i) = 2 ^ k * 2 ^ (20 - (i + k)) := by rw [← Nat.pow_add]; congr 1; omega
    rw [e1, ← Nat.mul_assoc, Nat.add_mul]
    have h5 := Nat.mul_lt_mul_of_pos_right h4 (Nat.two_pow_pos (20 - (i + k)))
    omega
  rcases Nat.le_total n m with h | h
  · have := key (n + 1) (m + 1) (by omega) q4 b1
    have hp := Nat.two_pow_pos (20 - (m + 1))
    omega
  · have := key (m + 1) (n + 1) (by omega) q2 a1
    have hp := Nat.two_pow_pos (20 - (n + 1))
    omega
end Go.Proofs.Ytjpjdecbkekcfaa

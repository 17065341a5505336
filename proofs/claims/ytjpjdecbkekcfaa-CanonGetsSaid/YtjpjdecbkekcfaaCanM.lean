/- Package canon: plain; the codes that New lays, level by level; no program is named here. -/
import Derived.Test.YtjpjdecbkekcfaaCanL
namespace Go.Proofs.Ytjpjdecbkekcfaa
open Go.RowKit

def cntC (l : List Int) (n : Nat) : Nat := (l.filter fun x => x == (n : Int)).length
/-- the symbols below s with a code of n bits -/
def idxT (l : List Int) (n s : Nat) : List Nat := (List.range s).filter fun i => l[i]? == some (n : Int)
def endC (l : List Int) : Nat → Nat
  | 0 => 0
  | n + 1 => 2 * endC l n + cntC l (n + 1)
def ordC (l : List Int) : Nat → List Nat
  | 0 => []
  | n + 1 => ordC l n ++ idxT l (n + 1) l.length
/-- the code of the next symbol of n bits at or behind s -/
def nowC (l : List Int) (n s : Nat) : Nat := 2 * endC l (n - 1) + cntC (l.take s) n
def codeC (l : List Int) (s : Nat) : Nat := nowC l (l.getD s 0).toNat s
/-- the codes laid so far: all levels below n, and of level n the symbols below s -/
def codesA (l : List Int) (n s : Nat) : List Nat := (List.range l.length).map fun i => if l.getD i 0 < (n : Int) ∨ (l.getD i 0 = (n : Int) ∧ i < s) then codeC l i else 0
theorem codesA_len (l : List Int) (n s : Nat) : (codesA l n s).length = l.length := by simp [codesA]

theorem cntC_take {l : List Int} {s : Nat} {x : Int} (h : l[s]? = some x) (n : Nat) : cntC (l.take (s + 1)) n = cntC (l.take s) n + if x = (n : Int) then 1 else 0 := by
  unfold cntC
  rw [take_snoc h, List.filter_append, List.length_append]
  by_cases e : x = (n : Int)
  · rw [if_pos e, List.filter_cons_of_pos (by simpa using e)]; rfl
  · rw [if_neg e, List.filter_cons_of_neg (by simpa using e)]; rfl
theorem cntC_le (l : List Int) (n s : Nat) : cntC (l.take s) n ≤ cntC l n := by
  unfold cntC
  exact List.Sublist.length_le ((List.take_sublist s l).filter _)
theorem idxT_step {l : List Int} {s : Nat} {x : Int} (h : l[s]? = some x) (n : Nat) : idxT l n (s + 1) = idxT l n s ++ if x = (n : Int) then [s] else [] := by
  unfold idxT
  rw [List.range_succ, List.filter_append]
  congr 1
  by_cases e : x = (n : Int)
  · rw [if_pos e, List.filter_cons_of_pos (by rw [h, e]; simp)]; rfl
  · rw [if_neg e, List.filter_cons_of_neg (by rw [h]; simpa using e)]; rfl
theorem nowC_step {l : List Int} {s : Nat} {x : Int} (h : l[s]? = some x) (n : Nat) : nowC l n (s + 1) = nowC l n s + if x = (n : Int) then 1 else 0 := by
  unfold nowC
  rw [cntC_take h, Nat.add_assoc]
theorem nowC_end (l : List Int) (n : Nat) : nowC l (n + 1) l.length = endC l (n + 1) := by
  unfold nowC
  rw [List.take_length, Nat.add_sub_cancel, endC]
theorem nowC_start (l : List Int) (n : Nat) : nowC l (n + 1) 0 = 2 * endC l n := by
  unfold nowC cntC
  rw [List.take_zero, Nat.add_sub_cancel]
  rfl
theorem getD_of {l : List Int} {s : Nat} {x : Int} (h : l[s]? = some x) : l.getD s 0 = x := by rw [List.getD_eq_getElem?_getD, h]; rfl
theorem codesA_hit {l : List Int} {s n : Nat} (h : l[s]? = some (n : Int)) : codesA l n (s + 1) = (codesA l n s).set s (nowC l n s) := by
  apply List.ext_getElem?
  intro i
  unfold codesA
  have hs : s < l.length := (List.getElem?_eq_some_iff.1 h).1
  have hg := getD_of h
  rw [List.getElem?_set]
  by_cases e : s = i
  · subst e
    rw [if_pos rfl, if_pos (by simpa using hs), List.getElem?_map, List.getElem?_range hs, Option.map_some, if_pos (.inr ⟨hg, Nat.lt_succ_self _⟩)]
    unfold codeC
    rw [hg]
    rfl
  · rw [if_neg e]
    by_cases hi : i < l.length
    · rw [List.getElem?_map, List.getElem?_map, List.getElem?_range hi, Option.map_some, Option.map_some]
      congr 1
      have : (i < s + 1) = (i < s) := propext ⟨fun h => by omega, fun h => by omega⟩
      simp only [this]
    · rw [List.getElem?_eq_none (by simpa using Nat.le_of_not_lt hi), List.getElem?_eq_none (by simpa using Nat.le_of_not_lt hi)]
theorem codesA_miss {l : List Int} {s n : Nat} {x : Int} (h : l[s]? = some x) (hx : x ≠ (n : Int)) : codesA l n (s + 1) = codesA l n s := by
  unfold codesA
  apply List.map_congr_left
  intro i _
  have hg := getD_of h
  by_cases e : i = s
  · subst e
    have : (l.getD i 0 = (n : Int)) = False := eq_false (by rw [hg]; exact hx)
    simp only [this, false_and]
  · have : (i < s + 1) = (i < s) := propext ⟨fun h => by omega, fun h => by omega⟩
    simp only [this]
theorem codesA_next (l : List Int) (n : Nat) : codesA l n l.length = codesA l (n + 1) 0 := by
  unfold codesA
  apply List.map_congr_left
  intro i hi
  have hi' : i < l.length := List.mem_range.1 hi
  congr 1
  apply propext
  constructor
  · rintro (h | ⟨h, -⟩)
    · exact .inl (by omega)
    · exact .inl (by omega)
  · rintro (h | ⟨-, h⟩)
    · by_cases e : l.getD i 0 = (n : Int)
      · exact .inr ⟨e, hi'⟩
      · exact .inl (by omega)
    · omega
theorem codesA_start {l : List Int} (h : ∀ x ∈ l, 1 ≤ x) : codesA l 1 0 = List.replicate l.length 0 := by
  unfold codesA
  rw [← List.length_range (n := l.length), ← List.map_const', List.length_range]
  apply List.map_congr_left
  intro i hi
  have hi' : i < l.length := List.mem_range.1 hi
  have h1 := h (l.getD i 0) (by rw [List.getD_eq_getElem?_getD, List.getElem?_eq_getElem hi']; exact List.getElem_mem _)
  rw [if_neg]
  rintro (q | ⟨-, q⟩) <;> omega
theorem codesA_done {l : List Int} (h : ∀ x ∈ l, x ≤ 20) : codesA l 21 0 = (List.range l.length).map (codeC l) := by
  unfold codesA
  apply List.map_congr_left
  intro i hi
  have hi' : i < l.length := List.mem_range.1 hi
  have h1 := h (l.getD i 0) (by rw [List.getD_eq_getElem?_getD, List.getElem?_eq_getElem hi']; exact List.getElem_mem _)
  rw [if_pos (.inl (by omega))]

theorem idxT_lt {l : List Int} {n s i : Nat} (h : i ∈ idxT l n s) : i < s := by
  unfold idxT at h
  exact List.mem_range.1 (List.mem_filter.1 h).1
theorem ordC_lt {l : List Int} {n i : Nat} (h : i ∈ ordC l n) : i < l.length := by
  induction n with
  | zero => cases h
  | succ n ih =>
    rw [ordC] at h
    exact (List.mem_append.1 h).elim ih idxT_lt

theorem idxT_len (l : List Int) (n s : Nat) : (idxT l n s).length ≤ s := by
  unfold idxT
  exact Nat.le_trans (List.length_filter_le _ _) (by rw [List.length_range]; exact Nat.le_refl _)
theorem ordC_len (l : List Int) (n : Nat) : (ordC l n).length ≤ n * l.length := by
  induction n with
  | zero => exact Nat.zero_le _
  | succ n ih =>
    rw [ordC, List.length_append, Nat.add_mul, Nat.one_mul]
    exact Nat.add_le_add ih (idxT_len _ _ _)

/-- what the codes of at most n bits take -/
def shareTo (l : List Int) (n : Nat) : Nat := (l.map fun x => if x ≤ (n : Int) then wt x else 0).sum
theorem shareTo_zero {l : List Int} (h : ∀ x ∈ l, 1 ≤ x) : shareTo l 0 = 0 := by
  induction l with
  | nil => rfl
  | cons x l ih =>
    have h1 := h x (by simp)
    have h2 := ih (fun y hy => h y (by simp [hy]))
    unfold shareTo at h2 ⊢
    rw [List.map_cons, List.sum_cons, h2, if_neg (by omega)]
theorem shareTo_succ (l : List Int) (n : Nat) : shareTo l (n + 1) = shareTo l n + cntC l (n + 1) * 2 ^ (20 - (n + 1)) := by
  induction l with
  | nil => simp [shareTo, cntC]
  | cons x l ih =>
    unfold shareTo cntC at ih ⊢
    rw [List.map_cons, List.map_cons, List.sum_cons, List.sum_cons, ih]
    by_cases e : x = ((n + 1 : Nat) : Int)
    · have hw : wt x = 2 ^ (20 - (n + 1)) := by unfold wt; rw [e, Int.toNat_natCast]
      rw [if_pos (by omega), if_neg (by omega), List.filter_cons_of_pos (by simpa using e), List.length_cons, Nat.add_mul, Nat.one_mul, hw]
      omega
    · rw [List.filter_cons_of_neg (by simpa using e)]
      by_cases h : x ≤ (n : Int)
      · rw [if_pos (by omega), if_pos h]; omega
      · rw [if_neg (by omega), if_neg h]; omega
theorem shareTo_le (l : List Int) (n : Nat) : shareTo l n ≤ shareC l := by
  induction l with
  | nil => exact Nat.le_refl _
  | cons x l ih =>
    unfold shareTo shareC at ih ⊢
    rw [List.map_cons, List.map_cons, List.sum_cons, List.sum_cons]
    split <;> omega
theorem endC_share {l : List Int} (h : ∀ x ∈ l, 1 ≤ x) : ∀ n, n ≤ 20 → endC l n * 2 ^ (20 - n) = shareTo l n := by
  intro n
  induction n with
  | zero => intro _; rw [shareTo_zero h, endC, Nat.zero_mul]
  | succ n ih =>
    intro hn
    have h1 := ih (by omega)
    rw [shareTo_succ, ← h1, endC, Nat.add_mul]
    congr 1
    have : 20 - n = (20 - (n + 1)) + 1 := by omega
    rw [this, Nat.pow_succ]
    rw [Nat.mul_comm 2 (endC l n), Nat.mul_assoc, Nat.mul_comm 2]
theorem wholeC_iff {l : List Int} : wholeC l = true ↔ (∀ x ∈ l, 1 ≤ x ∧ x ≤ 20) ∧ shareC l = 1048576 := by
  unfold wholeC
  rw [Bool.and_eq_true, allC_iff, decide_eq_true_eq]
theorem endC_le {l : List Int} (h : wholeC l = true) {n : Nat} (hn : n ≤ 20) : endC l n ≤ 2 ^ n := by
  obtain ⟨h1, h2⟩ := wholeC_iff.1 h
  have h3 := endC_share (fun x hx => (h1 x hx).1) n hn
  have h4 := shareTo_le l n
  have h5 : (2 : Nat) ^ n * 2 ^ (20 - n) = 1048576 := by rw [← Nat.pow_add, show n + (20 - n) = 20 by omega]
  have h6 : endC l n * 2 ^ (20 - n) ≤ 2 ^ n * 2 ^ (20 - n) := by omega
  exact Nat.le_of_mul_le_mul_right h6 (Nat.two_pow_pos _)
theorem endC_small {l : List Int} (h : wholeC l = true) {n : Nat} (hn : n ≤ 20) : endC l n ≤ 1048576 :=
  Nat.le_trans (endC_le h hn) (Nat.le_trans (Nat.pow_le_pow_right (by decide) hn) (by decide))
theorem nowC_le {l : List Int} {n s : Nat} : nowC l (n + 1) s ≤ endC l (n + 1) := by
  unfold nowC
  rw [endC, Nat.add_sub_cancel]
  exact Nat.add_le_add_left (cntC_le l (n + 1) s) _
/-- a code fits into its length -/
theorem nowC_lt {l : List Int} (h : wholeC l = true) {n s : Nat} (hn : n + 1 ≤ 20) (hs : l[s]? = some ((n + 1 : Nat) : Int)) : nowC l (n + 1) s < 2 ^ (n + 1) := by
  have h1 := nowC_step hs (n + 1)
  rw [if_pos rfl] at h1
  have h2 := nowC_le (l := l) (n := n) (s := s + 1)
  have h3 := endC_le h hn
  omega
end Go.Proofs.Ytjpjdecbkekcfaa

/- Package canon: plain; no program is named here. -/
import Derived.Test.YtjpjdecbkekcfaaBase
namespace Go.Proofs.Ytjpjdecbkekcfaa
open Go.RowKit

/-- what a code of length x takes of the whole -/
def wt (x : Int) : Nat := 2 ^ (20 - x.toNat)
def shareC (l : List Int) : Nat := (l.map wt).sum
theorem wt_le (x : Int) : wt x ≤ 1048576 := by
  unfold wt
  exact Nat.le_trans (Nat.pow_le_pow_right (by decide) (Nat.sub_le _ _)) (by decide)
theorem wt_pos (x : Int) : 0 < wt x := Nat.two_pow_pos _
theorem shareC_take {l : List Int} {k : Nat} {x : Int} (h : l[k]? = some x) : shareC (l.take (k + 1)) = shareC (l.take k) + wt x := by
  unfold shareC
  rw [List.take_add_one, h]
  simp
theorem shareC_le (l : List Int) : shareC l ≤ l.length * 1048576 := by
  induction l with
  | nil => exact Nat.zero_le _
  | cons x l ih =>
    have h1 : shareC (x :: l) = wt x + shareC l := by simp [shareC]
    have h2 := wt_le x
    rw [h1, List.length_cons, Nat.add_mul, Nat.one_mul]
    omega
def rngC (lo hi n : Int) : Bool := decide (lo ≤ n) && decide (n ≤ hi)
def outC (lo hi n : Int) : Bool := decide (n < lo) || decide (hi < n)
theorem outC_not (lo hi n : Int) : outC lo hi n = !rngC lo hi n := by
  unfold outC rngC
  rw [Bool.not_and, ← decide_not, ← decide_not]
  congr 1 <;> exact decide_eq_decide.2 (by omega)
theorem outC_any (lo hi : Int) (l : List Int) : l.any (outC lo hi) = !l.all (rngC lo hi) := by
  induction l with
  | nil => rfl
  | cons x l ih => rw [List.any_cons, List.all_cons, ih, outC_not, Bool.not_and]
/-- a whole code -/
def wholeC (l : List Int) : Bool := l.all (rngC 1 20) && decide (shareC l = 1048576)
theorem rngC_iff {lo hi n : Int} : rngC lo hi n = true ↔ lo ≤ n ∧ n ≤ hi := by simp [rngC]
theorem allC_iff {lo hi : Int} {l : List Int} : l.all (rngC lo hi) = true ↔ ∀ x ∈ l, lo ≤ x ∧ x ≤ hi := by
  rw [List.all_eq_true]
  exact ⟨fun h x hx => rngC_iff.1 (h x hx), fun h x hx => rngC_iff.2 (h x hx)⟩
end Go.Proofs.Ytjpjdecbkekcfaa

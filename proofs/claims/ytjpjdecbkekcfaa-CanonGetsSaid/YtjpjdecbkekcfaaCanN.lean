/- Package canon: a Code in memory; New. -/
import Derived.Test.YtjpjdecbkekcfaaCanM
import Derived.Test.YtjpjdecbkekcfaaCanB
namespace Go.Proofs.Ytjpjdecbkekcfaa
open Go.RowKit

def firstV (l : List Int) (k : Nat) : List Value := (List.range 21).map fun i => .int .i64 (if 1 ≤ i ∧ i < k then ((2 * endC l (i - 1) : Nat) : Int) else 0)
def fromV (l : List Int) (k : Nat) : List Value := (List.range 22).map fun i => .int .i64 (if 1 ≤ i ∧ i < k then (((ordC l (i - 1)).length : Nat) : Int) else 0)
theorem firstV_len (l : List Int) (k : Nat) : (firstV l k).length = 21 := by simp [firstV]
theorem fromV_len (l : List Int) (k : Nat) : (fromV l k).length = 22 := by simp [fromV]
def codeCells (l : List Int) (k1 k2 : Nat) (vl vc vo : Value) : List Value := [vl, vc, vo] ++ (firstV l k1 ++ fromV l k2)
theorem firstV_set {l : List Int} {k : Nat} (h1 : 1 ≤ k) (h2 : k < 21) : (firstV l k).set k (.int .i64 ((2 * endC l (k - 1) : Nat) : Int)) = firstV l (k + 1) := by
  apply List.ext_getElem?
  intro i
  rw [List.getElem?_set]
  unfold firstV
  by_cases e : k = i
  · subst e
    rw [if_pos rfl, if_pos (by simpa using h2), List.getElem?_map, List.getElem?_range h2, Option.map_some, if_pos ⟨h1, Nat.lt_succ_self _⟩]
  · rw [if_neg e]
    by_cases hi : i < 21
    · rw [List.getElem?_map, List.getElem?_map, List.getElem?_range hi, Option.map_some, Option.map_some]
      have : (1 ≤ i ∧ i < k + 1) = (1 ≤ i ∧ i < k) := propext ⟨fun h => ⟨h.1, by omega⟩, fun h => ⟨h.1, by omega⟩⟩
      simp only [this]
    · rw [List.getElem?_eq_none (by simpa using Nat.le_of_not_lt hi), List.getElem?_eq_none (by simpa using Nat.le_of_not_lt hi)]
theorem fromV_set {l : List Int} {k : Nat} (h1 : 1 ≤ k) (h2 : k < 22) : (fromV l k).set k (.int .i64 (((ordC l (k - 1)).length : Nat) : Int)) = fromV l (k + 1) := by
  apply List.ext_getElem?
  intro i
  rw [List.getElem?_set]
  unfold fromV
  by_cases e : k = i
  · subst e
    rw [if_pos rfl, if_pos (by simpa using h2), List.getElem?_map, List.getElem?_range h2, Option.map_some, if_pos ⟨h1, Nat.lt_succ_self _⟩]
  · rw [if_neg e]
    by_cases hi : i < 22
    · rw [List.getElem?_map, List.getElem?_map, List.getElem?_range hi, Option.map_some, Option.map_some]
      have : (1 ≤ i ∧ i < k + 1) = (1 ≤ i ∧ i < k) := propext ⟨fun h => ⟨h.1, by omega⟩, fun h => ⟨h.1, by omega⟩⟩
      simp only [this]
    · rw [List.getElem?_eq_none (by simpa using Nat.le_of_not_lt hi), List.getElem?_eq_none (by simpa using Nat.le_of_not_lt hi)]
theorem cc_first {l : List Int} {k1 k2 : Nat} {vl vc vo : Value} {i : Nat} (h : i < 21) : (codeCells l k1 k2 vl vc vo)[3 + i]? = some (.int .i64 (if 1 ≤ i ∧ i < k1 then ((2 * endC l (i - 1) : Nat) : Int) else 0)) := by
  unfold codeCells
  rw [List.getElem?_append_right (by simp), List.getElem?_append_left (by rw [firstV_len]; simp; omega)]
  have : 3 + i - [vl, vc, vo].length = i := by simp
  rw [this]
  unfold firstV
  rw [List.getElem?_map, List.getElem?_range h, Option.map_some]
theorem cc_from {l : List Int} {k1 k2 : Nat} {vl vc vo : Value} {i : Nat} (h : i < 22) : (codeCells l k1 k2 vl vc vo)[24 + i]? = some (.int .i64 (if 1 ≤ i ∧ i < k2 then (((ordC l (i - 1)).length : Nat) : Int) else 0)) := by
  unfold codeCells
  rw [List.getElem?_append_right (by simp; omega), List.getElem?_append_right (by rw [firstV_len]; simp; omega)]
  have : 24 + i - [vl, vc, vo].length - (firstV l k1).length = i := by rw [firstV_len]; simp; omega
  rw [this]
  unfold fromV
  rw [List.getElem?_map, List.getElem?_range h, Option.map_some]
theorem cc_setFirst {l : List Int} {k k2 : Nat} {vl vc vo : Value} (h1 : 1 ≤ k) (h2 : k < 21) : (codeCells l k k2 vl vc vo).set (3 + k) (.int .i64 ((2 * endC l (k - 1) : Nat) : Int)) = codeCells l (k + 1) k2 vl vc vo := by
  unfold codeCells
  rw [List.set_append_right _ _ (by simp), List.set_append_left _ _ (by rw [firstV_len]; simp; omega)]
  have : 3 + k - [vl, vc, vo].length = k := by simp
  rw [this, firstV_set h1 h2]
theorem cc_setFrom {l : List Int} {k1 k : Nat} {vl vc vo : Value} (h1 : 1 ≤ k) (h2 : k < 22) : (codeCells l k1 k vl vc vo).set (24 + k) (.int .i64 (((ordC l (k - 1)).length : Nat) : Int)) = codeCells l k1 (k + 1) vl vc vo := by
  unfold codeCells
  rw [List.set_append_right _ _ (by simp; omega), List.set_append_right _ _ (by rw [firstV_len]; simp; omega)]
  have : 24 + k - [vl, vc, vo].length - (firstV l k1).length = k := by rw [firstV_len]; simp; omega
  rw [this, fromV_set h1 h2]
theorem cc_setOrd {l : List Int} {k1 k2 : Nat} {vl vc vo v : Value} : (codeCells l k1 k2 vl vc vo).set 2 v = codeCells l k1 k2 vl vc v := rfl
theorem cc_start (l : List Int) (vl vc vo : Value) : codeCells l 1 1 vl vc vo = [vl, vc, vo] ++ List.replicate 43 (.int .i64 0) := by
  unfold codeCells firstV fromV
  have h : ∀ i : Nat, ¬ (1 ≤ i ∧ i < 1) := fun i => by omega
  simp only [h, if_false]
  rfl
def u32V (k : Nat) : Value := .int .u32 (k : Int)
def nI (k : Nat) : Int := (k : Int)

/-- a Code being laid: levels below n are done, of level n the symbols below s -/
structure CodeW (B : Nat) (w : World) (p gc k1 k2 n s : Nat) (vl vo : Value) (l : List Int) : Prop where
  box : Blk w p (codeCells l k1 k2 vl (.slice (some ⟨gc, 0, none⟩) l.length l.length) vo) 76
  cod : Blk w gc ((codesA l n s).map u32V) 29
  ord : OwnI w 3 vo ((ordC l (n - 1) ++ idxT l n s).map nI)
  len : RInts w vl l
  lo : B ≤ p ∧ B ≤ gc
  ne : gc ≠ p
  nl : vl.ownBlock ≠ some p ∧ vl.ownBlock ≠ some gc
  no : vo.ownBlock ≠ some p ∧ vo.ownBlock ≠ some gc
  fr : ∀ g, vo.ownBlock = some g → B ≤ g ∧ vl.ownBlock ≠ some g
/-- a Code: what New gives -/
structure CodeAt (w : World) (p : Nat) (l : List Int) : Prop where
  ex : ∃ (vl vo : Value) (gc : Nat), Blk w p (codeCells l 21 22 vl (.slice (some ⟨gc, 0, none⟩) l.length l.length) vo) 76 ∧ Blk w gc (((List.range l.length).map (codeC l)).map u32V) 29 ∧ RInts w vo ((ordC l 20).map nI) ∧ RInts w vl l
theorem CodeAt.below {w w' : World} {p : Nat} {l : List Int} (h : CodeAt w p l) (k : Below w.heap.size w w') : CodeAt w' p l := by
  obtain ⟨vl, vo, gc, h1, h2, h3, h4⟩ := h.ex
  exact ⟨vl, vo, gc, h1.below k, h2.below k, h3.below k, h4.below k⟩
end Go.Proofs.Ytjpjdecbkekcfaa

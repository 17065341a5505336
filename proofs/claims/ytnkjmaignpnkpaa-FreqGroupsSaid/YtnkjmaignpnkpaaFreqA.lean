/- Contracts of package freq's small functions, and of those that only read. -/
import Derived.Test.YtnkjmaignpnkpaaBase
namespace Go.Proofs.Ytnkjmaignpnkpaa
open Go.RowKit

/-- how often a number is in a list -/
def cnt (l : List Int) (x : Int) : Int := (l.count x : Nat)
/-- the counts of a row, by an alphabet -/
def counts (l : List Int) (size : Nat) : List Int := (List.range size).map fun (x : Nat) => cnt l (x : Int)
theorem counts_length (l : List Int) (size : Nat) : (counts l size).length = size := by simp [counts]
theorem cnt_bd (l : List Int) (x : Int) : 0 ≤ cnt l x ∧ cnt l x ≤ l.length := by
  unfold cnt
  have := List.count_le_length (a := x) (l := l)
  omega
theorem counts_nil (size : Nat) : counts [] size = List.replicate size 0 := by
  unfold counts cnt
  simp [List.map_const']
theorem cnt_snoc (l : List Int) (x y : Int) : cnt (l ++ [x]) y = cnt l y + if x = y then 1 else 0 := by
  unfold cnt
  rw [List.count_append, List.count_singleton]
  by_cases h : x = y <;> simp [h]
theorem counts_snoc (l : List Int) (x size : Nat) (hx : x < size) : counts (l ++ [(x : Int)]) size = (counts l size).set x (cnt l x + 1) := by
  apply List.ext_getElem?
  intro i
  unfold counts
  simp only [List.getElem?_map, List.getElem?_set, List.length_map, List.length_range, List.getElem?_range]
  by_cases h : i < size
  · by_cases e : x = i
    · subst e
      simp [hx, cnt_snoc]
    · have : ¬ (x : Int) = (i : Int) := by omega
      simp [h, e, cnt_snoc, this]
  · have e : ¬ x = i := by omega
    simp [h, e]

theorem counts_at (l : List Int) (size x : Nat) (h : x < size) : (counts l size)[x]? = some (cnt l (x : Int)) := by
  simp [counts, h]

/-- are all numbers of an alphabet -/
def allOf (l : List Int) (size : Int) : Bool := l.all fun x => decide (0 ≤ x) && decide (x < size)

theorem intinfo : (Try.prog.info? 3).map (fun i => (i.zero, i.size, i.bytes)) = some (some (.int .i64 0), 1, 8) := by kernel_rfl

theorem allOf_at {l : List Int} {size : Int} {k : Nat} {x : Int} (h : allOf l size = true) (hx : l[k]? = some x) : 0 ≤ x ∧ x < size := by
  unfold allOf at h
  rw [List.all_eq_true] at h
  have := h x (List.mem_of_getElem? hx)
  simpa using this

set_option maxHeartbeats 400000 in
theorem counts_ok (v : Value) (l : List Int) (size : Nat) (w : World) (hl : l.length ≤ 300) (hv : RInts w v l) (hs1 : 3 ≤ size) (hs2 : size ≤ 258) (hof : allOf l size = true) :
    Calls Try.prog 10 #[v, .int .i64 size] w fun e w' => ∃ v', e = .returned (.tuple #[v', .int .i64 0]) ∧ RInts w' v' (counts l size) ∧ Below w.heap.size w w' := by
  obtain ⟨a, cap, rfl, hc1, hc2⟩ := hv.shape
  have HOF := Lib.hid hof
  clear hof
  go_enter Try.func10, Try.ntmps10
  go_wp2_with (at_make; refine wpList_make_blk _ rfl _ _ 22 rfl 3 (.int .i64 0) 8 Try.underlying22 intinfo rfl _ _ _ _ size rfl rfl rfl rfl (by omega) (by unfold maxLen; omega) ?_)
  intro w1 hb1 hk1
  go_wp2
  go_loopw [8, 19] (fun x i wr => ∃ k : Nat, k ≤ l.length ∧ i = .int .i64 k ∧ Blk wr w.heap.size ((counts (l.take k) size).map (Value.int .i64)) 3 ∧ Below w.heap.size w wr)
    (fun _ i _ => l.length - (intOf i).toNat)
  case atStart => exact ⟨0, Nat.zero_le _, rfl, by simpa [counts_nil] using hb1, hk1⟩
  case round =>
    obtain ⟨k, hk, rfl, hblk, hbel⟩ := hrel
    by_cases hlt : k < l.length
    · obtain ⟨b, off, x, rfl, hbb, hx, hcx, hx1, hx2⟩ := (hv.below hbel).at hlt
      have HX := Lib.hid hx
      obtain ⟨hr1, hr2⟩ := allOf_at HOF.out hx
      clear hx
      obtain ⟨x, rfl⟩ := Int.eq_ofNat_of_zero_le hr1
      have hcb := cnt_bd (l.take k) x
      have hct := hblk.cell (i := x) (x := .int .i64 (cnt (l.take k) x)) (by rw [List.getElem?_map, counts_at _ _ _ (by omega)]; rfl)
      have hfr := hblk.free x
      obtain ⟨c, hc⟩ : ∃ c, c = cnt (l.take k) x := ⟨_, rfl⟩
      rw [← hc] at hct hcb
      have HC := Lib.hid hc
      have hlen : (l.take k).length ≤ 300 := by simp; omega
      clear hc
      clear hv hb1 hk1
      have hnt : k < (l.length : Int) := by omega
      go_wp2
      go_roundw
      case rel =>
        refine ⟨k + 1, by omega, by go_num, ?_, ?_⟩
        · rw [take_snoc HX.out, counts_snoc _ _ _ (by omega), List.map_set, ← HC.out]
          exact hblk.set _ _
        · exact hbel.setCell (Nat.le_refl _) _
      case measure => simp [intOf]; omega
    · obtain rfl : k = l.length := by omega
      rw [List.take_length] at hblk
      clear hv hb1 hk1
      go_wp2
      go_ret2
      refine ⟨_, rfl, ⟨?_, ?_⟩, hbel⟩
      · rw [counts_length]
        exact hblk.reads _ _ (Nat.le_refl _) (by unfold maxLen; omega)
      · intro x hx
        unfold counts at hx
        obtain ⟨y, _, rfl⟩ := List.mem_map.1 hx
        have := cnt_bd l y
        omega
end Go.Proofs.Ytnkjmaignpnkpaa

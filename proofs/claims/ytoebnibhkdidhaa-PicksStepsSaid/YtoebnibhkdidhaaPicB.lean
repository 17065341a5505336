/- Package picks: fresh, places, Bits, Write. -/
import Derived.Test.YtoebnibhkdidhaaPicA
namespace Go.Proofs.Ytoebnibhkdidhaa
open Go.RowKit

def frV (k : Nat) : List Value := (List.range 6).map fun j => if j < k then .int .i64 (j : Int) else .int .i64 0
theorem frV_set {k : Nat} (h : k < 6) : (frV k).set k (.int .i64 (k : Int)) = frV (k + 1) := by
  have : k = 0 ∨ k = 1 ∨ k = 2 ∨ k = 3 ∨ k = 4 ∨ k = 5 := by omega
  rcases this with rfl | rfl | rfl | rfl | rfl | rfl <;> rfl
theorem frV_at {k j : Nat} (hj : j < 6) : ∃ u, (frV k)[j]? = some u := ⟨_, List.getElem?_eq_getElem (by simp [frV]; exact hj)⟩
theorem frV_end : frV 6 = ordV LET := rfl
theorem zero_order : ∀ w : World, (zeroValue 89).run Try.prog w = .ok (.agg #[.int .i64 0, .int .i64 0, .int .i64 0, .int .i64 0, .int .i64 0, .int .i64 0]) w := fun _ => by kernel_rfl

set_option maxHeartbeats 1000000 in
set_option maxRecDepth 100000 in
theorem fresh_any (w : World) : Calls Try.prog 66 #[] w fun e w' => e = .returned (.agg (ordV LET).toArray) ∧ Below w.heap.size w w' := by
  have hz := zero_order
  have hb1 := below_alloc w (.cells (frV 0).toArray 89 (0, 0))
  have hx1 := Blk.new w (frV 0) 89
  have hb2 := below_alloc (w.alloc (.cells (frV 0).toArray 89 (0, 0))) (.cells (frV 0).toArray 89 (0, 0))
  have hx2 := Blk.new (w.alloc (.cells (frV 0).toArray 89 (0, 0))) (frV 0) 89
  rw [World.size_alloc] at hx2
  have HX1 := Lib.hid (hx1.below hb2)
  have HX2 := Lib.hid hx2
  have HB := Lib.hid (below_two hb1 hb2)
  clear hb1 hb2 hx1 hx2
  go_enter Try.func66, Try.ntmps66
  go_wp2
  go_loopw [2, 3] (fun _ ks wr => ∃ k : Nat, ks = .int .i64 (k : Int) ∧ k ≤ 6 ∧ Hid (Blk wr w.heap.size (frV 0) 89) ∧ Hid (Blk wr (w.heap.size + 1) (frV k) 89) ∧ Hid (Below w.heap.size w wr)) (fun _ ks _ => 6 - (intOf ks).toNat)
  case atStart => exact ⟨0, rfl, by decide, HX1.out, HX2.out, HB.out⟩
  case round =>
    clear HX1 HX2 HB
    obtain ⟨k, rfl, hk, HX1, HX2, HB⟩ := hrel
    by_cases hlt : k < 6
    · have hlt' : (k : Int) < 6 := by omega
      obtain ⟨u, hu⟩ := frV_at (k := k) hlt
      have c0 := HX2.out.cell hu
      have f0 := HX2.out.free k
      have HX3 := Lib.hid (show Blk (wr.setCell ⟨w.heap.size + 1, k, none⟩ (.int .i64 (k : Int))) (w.heap.size + 1) (frV (k + 1)) 89 by rw [← frV_set hlt]; exact HX2.out.set k _)
      have HX4 := Lib.hid (HX1.out.other ⟨w.heap.size + 1, k, none⟩ (.int .i64 (k : Int)) (by show w.heap.size ≠ w.heap.size + 1; omega))
      have HB2 := Lib.hid (HB.out.setCell (p := ⟨w.heap.size + 1, k, none⟩) (by show w.heap.size ≤ w.heap.size + 1; omega) (.int .i64 (k : Int)))
      clear hu HX1 HX2 HB
      go_wp2
      go_roundw
      case rel => exact ⟨k + 1, by go_num, by omega, HX4.out, HX3.out, HB2.out⟩
      case measure => simp [intOf]; omega
    · obtain rfl : k = 6 := by omega
      have hne : ¬ w.heap.size + 1 = w.heap.size := by omega
      have hne2 : ¬ w.heap.size = w.heap.size + 1 := by omega
      have c0 := HX2.out.cell (i := 0) (x := .int .i64 0) rfl
      have c1 := HX2.out.cell (i := 1) (x := .int .i64 1) rfl
      have c2 := HX2.out.cell (i := 2) (x := .int .i64 2) rfl
      have c3 := HX2.out.cell (i := 3) (x := .int .i64 3) rfl
      have c4 := HX2.out.cell (i := 4) (x := .int .i64 4) rfl
      have c5 := HX2.out.cell (i := 5) (x := .int .i64 5) rfl
      have r0 := HX1.out.cell (i := 0) (x := .int .i64 0) rfl
      have r1 := HX1.out.cell (i := 1) (x := .int .i64 0) rfl
      have r2 := HX1.out.cell (i := 2) (x := .int .i64 0) rfl
      have r3 := HX1.out.cell (i := 3) (x := .int .i64 0) rfl
      have r4 := HX1.out.cell (i := 4) (x := .int .i64 0) rfl
      have r5 := HX1.out.cell (i := 5) (x := .int .i64 0) rfl
      have f0 := HX1.out.free 0
      have f1 := HX1.out.free 1
      have f2 := HX1.out.free 2
      have f3 := HX1.out.free 3
      have f4 := HX1.out.free 4
      have f5 := HX1.out.free 5
      have HE := Lib.hid ((((((HB.out.setCell (p := ⟨w.heap.size, 0, none⟩) (Nat.le_refl _) (.int .i64 0)).setCell (p := ⟨w.heap.size, 1, none⟩) (Nat.le_refl _) (.int .i64 1)).setCell (p := ⟨w.heap.size, 2, none⟩) (Nat.le_refl _) (.int .i64 2)).setCell (p := ⟨w.heap.size, 3, none⟩) (Nat.le_refl _) (.int .i64 3)).setCell (p := ⟨w.heap.size, 4, none⟩) (Nat.le_refl _) (.int .i64 4)).setCell (p := ⟨w.heap.size, 5, none⟩) (Nat.le_refl _) (.int .i64 5))
      clear HX1 HX2 HB
      go_wp2
      refine bodyPost_ret (v := .agg #[.int .i64 0, .int .i64 1, .int .i64 2, .int .i64 3, .int .i64 4, .int .i64 5]) (by simp [results, Try.results66, go_sem, r0, r1, r2, r3, r4, r5, f0, f1, f2, f3, f4, f5]) rfl ?_
      exact ⟨rfl, HE.out⟩
end Go.Proofs.Ytoebnibhkdidhaa

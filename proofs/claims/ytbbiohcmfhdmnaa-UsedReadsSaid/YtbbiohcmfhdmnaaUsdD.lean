/- Package used: rows of bits. -/
import Derived.Test.YtbbiohcmfhdmnaaUsdC
import Derived.Laws.BitsAllLaws
import Derived.Laws.Tables
namespace Go.Proofs.Ytbbiohcmfhdmnaa
open Go.RowKit

/-- rows, as an array's cells -/
def rowsA (f : Nat → Bool) : List Value := (List.range 16).map fun i => Value.int .u32 (rowV f i : Nat)
theorem rowsA_len (f : Nat → Bool) : (rowsA f).length = 16 := by simp [rowsA]
theorem rowsA_at (f : Nat → Bool) {i : Nat} (h : i < 16) : (rowsA f)[i]? = some (.int .u32 (rowV f i : Nat)) := by
  unfold rowsA
  rw [List.getElem?_map, List.getElem?_range h]
  rfl
theorem rowsA_set (f : Nat → Bool) {c : Nat} (h : c < 256) : (rowsA f).set (c / 16) (.int .u32 (rowV f (c / 16) ||| 2 ^ (15 - c % 16) : Nat)) = rowsA (fun b => f b || (c == b)) := by
  apply List.ext_getElem?
  intro j
  rw [List.getElem?_set]
  by_cases hj : j < 16
  · rw [rowsA_at (fun b => f b || (c == b)) hj, rowsA_at f hj, rowsA_len]
    by_cases e : c / 16 = j
    · subst e
      rw [if_pos rfl, if_pos hj, rowV_or f (c / 16) (c % 16) (by omega)]
      congr 3
      refine rowV_same _ _ _ fun k hk => ?_
      rw [show 16 * (c / 16) + c % 16 = c by omega, BEq.comm]
    · rw [if_neg e]
      congr 3
      refine rowV_same _ _ _ fun k hk => ?_
      have : (c == 16 * j + k) = false := beq_eq_false_iff_ne.2 (by omega)
      rw [this, Bool.or_false]
  · rw [List.getElem?_eq_none (l := rowsA fun b => f b || (c == b)) (by rw [rowsA_len]; omega), if_neg (by omega), List.getElem?_eq_none (by rw [rowsA_len]; omega)]

/-- a whole row that is stored -/
theorem Blk.setRow {w : World} {g : Nat} {xs : List Value} {t : TypeId} (h : Blk w g xs t) (ys : List Value) : Blk (w.setRow g ys.toArray) g ys t := setRow_heap w g _ _ t _ h
theorem keep_setRow (w : World) (g : Nat) (cs : Array Value) : Keep (fun j => j = g) w (w.setRow g cs) :=
  ⟨rfl, rfl, rfl, by simp [World.setRow], fun k _ hk => setRow_other w g k cs hk⟩
theorem rowsA_one (f : Nat → Bool) : (rowsA f).toArray.all (·.oneCell') = true := by
  rw [List.all_toArray, List.all_eq_true]
  intro v hv
  unfold rowsA at hv
  obtain ⟨i, _, rfl⟩ := List.mem_map.1 hv
  rfl

theorem zero_rows : ∀ w : World, (zeroValue 77).run Try.prog w = .ok (.agg (rowsA fun _ => false).toArray) w := fun _ => by kernel_rfl
theorem rowsinfo : (Try.prog.info? 77).map (·.size) = some 16 := by kernel_rfl
theorem u32info : (Try.prog.info? 27).map (·.size) = some 1 := by kernel_rfl
theorem u32_flat : ∀ w : World, (isAgg 27).run Try.prog w = .ok false w := fun _ => by kernel_rfl

theorem or_row (r t : Nat) (hr : r < 65536) (ht : t ≤ 15) : bits BinOp.or .u32 (r : Int) ((2 ^ t % 4294967296 : Int)) = ((r ||| 2 ^ t : Nat) : Int) := by
  have h : (2 : Nat) ^ t ≤ 2 ^ 15 := Nat.pow_le_pow_right (by decide) ht
  have e : ((2 : Int) ^ t) = ((2 ^ t : Nat) : Int) := by simp
  rw [e]
  obtain ⟨p, hp⟩ : ∃ p, 2 ^ t = p := ⟨_, rfl⟩
  rw [hp] at h ⊢
  have e2 : ((p : Nat) : Int) % 4294967296 = (p : Int) := by omega
  rw [e2, u32_or_nat _ _ (by omega) (by omega)]

set_option maxHeartbeats 1000000 in
set_option maxRecDepth 100000 in
theorem rows_any (s : ByteArray) (S : List UInt8) (w : World) (hs : s = str S) (hl : S.length ≤ 1000000) :
    Calls Try.prog 58 #[.string s] w fun e w' => e = .returned (.agg (rowsA (thereL S)).toArray) ∧ Below w.heap.size w w' := by
  have hz := zero_rows
  have hsz : s.size = S.length := by rw [hs, str_size]
  have HS := Lib.hid hs
  have HSZ := Lib.hid hsz
  have hzz : s.size ≤ 1000000 := by omega
  obtain ⟨A, hA⟩ : ∃ z, (rowsA fun _ => false).toArray = z := ⟨_, rfl⟩
  have HA := Lib.hid hA
  rw [hA] at hz
  clear hs hsz hA
  go_enter Try.func58, Try.ntmps58
  go_wp2
  have HB0 := Lib.hid (show Blk ((w.alloc (.cells A 77 (0, 0))).alloc (.cells A 77 (0, 0))) (w.heap.size + 1) (rowsA (thereL (S.take 0))) 77 by
    have := Blk.new (w.alloc (.cells A 77 (0, 0))) (rowsA fun _ => false) 77
    rw [HA.out, World.size_alloc] at this
    exact this)
  have HB1 := Lib.hid (show Blk ((w.alloc (.cells A 77 (0, 0))).alloc (.cells A 77 (0, 0))) w.heap.size (rowsA fun _ => false) 77 by
    have := (Blk.new w (rowsA fun _ => false) 77).below (below_alloc _ (.cells A 77 (0, 0)))
    rw [HA.out] at this
    exact this)
  have hb0 := ((Below.refl w.heap.size w).alloc (Nat.le_refl _) (.cells A 77 (0, 0))).alloc (by simp) (.cells A 77 (0, 0))
  go_loopw [4, 5, 8] (fun x y i wr => ∃ (j : Nat), j ≤ s.size ∧ i = .int .i64 j ∧ Hid (Blk wr (w.heap.size + 1) (rowsA (thereL (S.take j))) 77) ∧ Hid (Blk wr w.heap.size (rowsA fun _ => false) 77) ∧ Hid (Below w.heap.size w wr)) (fun _ _ i _ => s.size - (intOf i).toNat)
  case atStart => exact ⟨0, Nat.zero_le _, rfl, HB0.out, HB1.out, hb0⟩
  case round =>
    obtain ⟨j, hj, rfl, HB, HBO, HBEL⟩ := hrel
    by_cases hlt : j < s.size
    · have hat := str_at HS.out hlt
      obtain ⟨c, hc⟩ : ∃ c, s[j] = c := ⟨_, rfl⟩
      rw [hc] at hat
      have hcl : c.toNat < 256 := UInt8.toNat_lt c
      obtain ⟨q, hq⟩ : ∃ z, c.toNat / 16 = z := ⟨_, rfl⟩
      obtain ⟨t, ht⟩ : ∃ z, 15 - c.toNat % 16 = z := ⟨_, rfl⟩
      have e1 : ((c.toNat : Nat) : Int) / 16 = (q : Int) := by omega
      have e2 : (15 : Int) - ((c.toNat : Nat) : Int) % 16 = (t : Int) := by omega
      have hq16 : q < 16 := by omega
      have ht15 : t ≤ 15 := by omega
      have hcell := HB.out.cell (rowsA_at _ hq16)
      have hfr := HB.out.free q
      have hor := or_row (rowV (thereL (S.take j)) q) t (rowV_lt _ _) ht15
      have HNX := Lib.hid (show Blk (wr.setCell ⟨w.heap.size + 1, q, none⟩ (.int .u32 ((rowV (thereL (S.take j)) q ||| 2 ^ t : Nat) : Int))) (w.heap.size + 1) (rowsA (thereL (S.take (j + 1)))) 77 by
        rw [← thereL_fun hat, ← rowsA_set _ hcl, hq, ht]
        exact HB.out.set q _)
      obtain ⟨V, hV⟩ : ∃ z, (rowV (thereL (S.take j)) q ||| 2 ^ t) = z := ⟨_, rfl⟩
      obtain ⟨R, hR⟩ : ∃ z, rowV (thereL (S.take j)) q = z := ⟨_, rfl⟩
      have hRl := rowV_lt (thereL (S.take j)) q
      rw [hV] at HNX hor
      rw [hR] at hcell hor hRl
      have HBN := Lib.hid (HBEL.out.setCell (p := ⟨w.heap.size + 1, q, none⟩) (show w.heap.size ≤ w.heap.size + 1 by omega) (.int .u32 (V : Int)))
      have HBO2 := Lib.hid (HBO.out.other ⟨w.heap.size + 1, q, none⟩ (.int .u32 (V : Int)) (show w.heap.size ≠ w.heap.size + 1 by omega))
      clear hat hq ht hV hR
      go_wp2
      go_roundw
      case rel => exact ⟨j + 1, by omega, by go_num, HNX.out, HBO2.out, HBN.out⟩
      case measure => simp [intOf]; omega
    · obtain rfl : j = s.size := by omega
      have HL := Lib.hid (show S.take s.size = S by rw [HSZ.out, List.take_length])
      have hbl := HB.out
      rw [HL.out] at hbl
      have hsz2 : (Try.prog.info? 77).map (·.size) = some (rowsA (thereL S)).toArray.size := by rw [List.size_toArray, rowsA_len]; exact rowsinfo
      have hg : wr.heap[w.heap.size + 1]? = some (.cells (rowsA (thereL S)).toArray 77 (0, 0)) := hbl
      have hg0 : wr.heap[w.heap.size]? = some (.cells A 77 (0, 0)) := by rw [← HA.out]; exact HBO.out
      have hone := rowsA_one (thereL S)
      have HR1 := Lib.hid ((HBO.out).setRow (rowsA (thereL S)))
      have HR2 := Lib.hid (keep_setRow wr w.heap.size (rowsA (thereL S)).toArray)
      obtain ⟨A2, hA2⟩ : ∃ z, (rowsA (thereL S)).toArray = z := ⟨_, rfl⟩
      have hold : A.size = A2.size := by rw [← HA.out, ← hA2]; simp [rowsA_len]
      unfold Blk at HR1
      rw [hA2] at hg hsz2 hone HR1 HR2
      have HA2 := Lib.hid hA2
      clear hbl hA2 HB HBO
      go_wp2_with (first | (refine wpList_load_row rfl 77 _ rfl _ rfl _ A2 (0, 0) _ hg Try.underlying77 rfl hsz2 ?_) | (refine wpList_store_row rfl 77 _ _ rfl w.heap.size A2 rfl rfl 77 A hg0 hsz2 hold hone ?_))
      go_wp2
      go_outline
      refine bodyPost_ret (results_cell_row rfl _ _ w.heap.size 77 A2 (0, 0) _ rfl HR1.out Try.underlying77 rfl hsz2) rfl ?_
      exact ⟨by rw [HA2.out], HBEL.out.trans (HR2.out.below (B := w.heap.size) HBEL.out.size (fun j hj e => by have h : j = w.heap.size := e; omega))⟩
end Go.Proofs.Ytbbiohcmfhdmnaa

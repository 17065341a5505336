/- Package used: an array of what is there; a text's symbols by the program. -/
import Derived.Test.YtbbiohcmfhdmnaaUsdB
import Derived.Laws.Rows
namespace Go.Proofs.Ytbbiohcmfhdmnaa
open Go.RowKit

/-- what is there, as an array's cells -/
def boolsL (f : Nat → Bool) : List Value := (List.range 256).map fun b => Value.bool (f b)
theorem boolsL_len (f : Nat → Bool) : (boolsL f).length = 256 := by simp [boolsL]
theorem boolsL_at (f : Nat → Bool) {i : Nat} (h : i < 256) : (boolsL f)[i]? = some (.bool (f i)) := by
  unfold boolsL
  rw [List.getElem?_map, List.getElem?_range h]
  rfl
theorem boolsL_set (f : Nat → Bool) {i : Nat} (h : i < 256) : (boolsL f).set i (.bool true) = boolsL (fun b => f b || (i == b)) := by
  apply List.ext_getElem?
  intro j
  rw [List.getElem?_set]
  by_cases hj : j < 256
  · rw [boolsL_at (fun b => f b || (i == b)) hj, boolsL_at f hj, boolsL_len]
    by_cases e : i = j
    · subst e
      rw [if_pos rfl, if_pos h]
      simp
    · rw [if_neg e]
      simp [e]
  · rw [List.getElem?_eq_none (l := boolsL fun b => f b || (i == b)) (by rw [boolsL_len]; omega), if_neg (by omega), List.getElem?_eq_none (by rw [boolsL_len]; omega)]

theorem byteinfo' : (Try.prog.info? 5).map (fun i => (i.zero, i.size, i.bytes)) = some (some (.int .u8 0), 1, 1) := by kernel_rfl
theorem zero_bools : ∀ w : World, (zeroValue 75).run Try.prog w = .ok (.agg (boolsL fun _ => false).toArray) w := fun _ => by kernel_rfl
theorem boolsinfo : (Try.prog.info? 75).map (·.size) = some 256 := by kernel_rfl
theorem boolinfo : (Try.prog.info? 4).map (·.size) = some 1 := by kernel_rfl
theorem bool_flat : ∀ w : World, (isAgg 4).run Try.prog w = .ok false w := fun _ => by kernel_rfl

set_option maxHeartbeats 1000000 in
set_option maxRecDepth 100000 in
theorem listed_any (f : Nat → Bool) (w : World) :
    Calls Try.prog 57 #[.agg (boolsL f).toArray] w fun e w' => e = .returned (.string (str (symL f))) ∧ Below w.heap.size w w' := by
  have HC := Lib.hid (Blk.new w (boolsL f) 75)
  obtain ⟨A, hA⟩ : ∃ z, (boolsL f).toArray = z := ⟨_, rfl⟩
  have HA := Lib.hid (show ∀ i, i < 256 → A[i]? = some (.bool (f i)) from fun i hi => by rw [← hA]; simpa using boolsL_at f hi)
  have HAS := Lib.hid (show A.size = 256 by rw [← hA]; simp [boolsL_len])
  unfold Blk at HC
  rw [hA] at HC ⊢
  clear hA
  go_enter Try.func57, Try.ntmps57
  have hsz : (Try.prog.info? 75).map (·.size) = some A.size := by rw [HAS.out]; exact boolsinfo
  have hg := HC.out
  have hal := below_alloc w (.cells A 75 (0, 0))
  go_wp2_with (refine wpList_load_row rfl 75 _ rfl _ rfl _ A (0, 0) _ hg Try.underlying75 rfl hsz ?_)
  clear hg hsz
  go_loopw [3, 4, 5, 7] (fun o x y i wr => ∃ (j : Nat) , j ≤ 256 ∧ i = .int .i64 j ∧ Hid (OwnB wr 5 o ((numsL f j).map UInt8.ofNat)) ∧ Hid (FreshV w.heap.size o) ∧ Below w.heap.size w wr) (fun _ _ _ i _ => 256 - (intOf i).toNat)
  case atStart => exact ⟨0, by omega, rfl, OwnB.nil _ _, FreshV.nil _, hal⟩
  case round =>
    obtain ⟨j, hj, rfl, HO, HF, hb⟩ := hrel
    by_cases hlt : j < 256
    · have hix := fun w => run_index_arr (P := Try.prog) w 75 4 256 A .i64 j _ Try.underlying75 bool_flat boolinfo hlt (HA.out j hlt)
      have HN := Lib.hid (numsL_succ f j)
      obtain ⟨t, ht⟩ : ∃ z, f j = z := ⟨_, rfl⟩
      rw [ht] at hix HN
      clear ht
      cases t with
      | true =>
        have hjm : (j : Int) % 256 = (j : Int) := by omega
        have hown := HO.out
        have hln : ((numsL f j).map UInt8.ofNat).length < 1000000000 := by rw [List.length_map]; exact Nat.lt_of_le_of_lt (List.length_filter_le _ _) (by simp; omega)
        have HLN := Lib.hid hln
        have HU := Lib.hid (ofNat_toNat hlt)
        clear hln
        go_wp2_with (at_builtin; refine wpList_append_byte _ _ rfl _ _ 64 rfl 5 Try.underlying64 byteinfo' _ ((numsL f j).map UInt8.ofNat) _ (UInt8.ofNat j) (by rw [HU.out]) _ rfl rfl rfl hown HLN.out ?_)
        intro v2 w2 hown2 hkeep hfresh
        have hb2 := below_append hb hkeep HF.out hb.size
        have HF2 := Lib.hid (HF.out.step hb.size hfresh)
        have HO2 := Lib.hid (show OwnB w2 5 v2 ((numsL f (j + 1)).map UInt8.ofNat) by rw [show numsL f (j + 1) = numsL f j ++ [j] by rw [HN.out]; simp, List.map_append]; exact hown2)
        clear hown hown2 hkeep hfresh HO HN
        go_wp2
        go_roundw
        case rel => exact ⟨j + 1, by omega, by go_num, HO2.out, HF2.out, hb2⟩
        case measure => simp [intOf]; omega
      | false =>
        have HO2 := Lib.hid (show OwnB wr 5 _ ((numsL f (j + 1)).map UInt8.ofNat) by rw [show numsL f (j + 1) = numsL f j by rw [HN.out]; simp]; exact HO.out)
        clear HN
        go_wp2
        go_roundw
        case rel => exact ⟨j + 1, by omega, by go_num, HO2.out, HF.out, hb⟩
        case measure => simp [intOf]; omega
    · obtain rfl : j = 256 := by omega
      have hst := run_string_of (P := Try.prog) (w := wr) HO.out.reads 64 9 5 Try.underlying64 Try.underlying5 Try.underlying9
      obtain ⟨q, hq⟩ : ∃ z, str ((numsL f 256).map UInt8.ofNat) = z := ⟨_, rfl⟩
      have HQ := Lib.hid (show q = str (symL f) from hq.symm)
      obtain ⟨a, cap, hv, _, _⟩ := HO.out.reads.shape
      obtain ⟨n, hn⟩ : ∃ z, ((numsL f 256).map UInt8.ofNat).length = z := ⟨_, rfl⟩
      rw [hn] at hv
      subst hv
      rw [hq] at hst
      clear hq hn
      go_wp2
      go_ret
      exact ⟨ret_str HQ.out, hb⟩

theorem thereL_fun {S : List UInt8} {k : Nat} {c : UInt8} (h : S[k]? = some c) : (fun b => thereL (S.take k) b || (c.toNat == b)) = thereL (S.take (k + 1)) := by
  funext b
  rw [thereL_take h]

set_option maxHeartbeats 1000000 in
set_option maxRecDepth 100000 in
theorem symbols_any (s : ByteArray) (S : List UInt8) (w : World) (hs : s = str S) (hl : S.length ≤ 1000000) :
    Calls Try.prog 42 #[.string s] w fun e w' => e = .returned (.string (str (symL (thereL S)))) ∧ Below w.heap.size w w' := by
  have hz := zero_bools
  have hsz : s.size = S.length := by rw [hs, str_size]
  have HS := Lib.hid hs
  have HSZ := Lib.hid hsz
  have hzz : s.size ≤ 1000000 := by omega
  have HC := Lib.hid (Blk.new w (boolsL fun _ => false) 75)
  have hal := below_alloc w (.cells (boolsL fun _ => false).toArray 75 (0, 0))
  obtain ⟨A, hA⟩ : ∃ z, (boolsL fun _ => false).toArray = z := ⟨_, rfl⟩
  have HA := Lib.hid hA
  rw [hA] at hz hal
  unfold Blk at HC
  rw [hA] at HC
  clear hs hsz hA
  go_enter Try.func42, Try.ntmps42
  go_wp2
  obtain ⟨b3, hb3⟩ : ∃ z, w.heap.size = z := ⟨_, rfl⟩
  have HB3 := Lib.hid hb3
  have HC2 := Lib.hid (show Blk (w.alloc (.cells A 75 (0, 0))) b3 (boolsL (thereL (S.take 0))) 75 by
    unfold Blk
    rw [← hb3, HC.out, ← HA.out]
    rfl)
  rw [hb3]
  clear hb3 HC hz
  go_loopw [4, 7] (fun x i wr => ∃ (j : Nat), j ≤ s.size ∧ i = .int .i64 j ∧ Hid (Blk wr b3 (boolsL (thereL (S.take j))) 75) ∧ Hid (Below w.heap.size w wr)) (fun _ i _ => s.size - (intOf i).toNat)
  case atStart => exact ⟨0, Nat.zero_le _, rfl, HC2.out, hal⟩
  case round =>
    obtain ⟨j, hj, rfl, HB, HBEL⟩ := hrel
    by_cases hlt : j < s.size
    · have hat := str_at HS.out hlt
      obtain ⟨c, hc⟩ : ∃ c, s[j] = c := ⟨_, rfl⟩
      rw [hc] at hat
      have hcl : c.toNat < 256 := UInt8.toNat_lt c
      have hcell := HB.out.cell (boolsL_at _ hcl)
      have hfr := HB.out.free c.toNat
      have hci : (c.toNat : Int) < 256 := by omega
      have HNX := Lib.hid (show Blk (wr.setCell ⟨b3, c.toNat, none⟩ (.bool true)) b3 (boolsL (thereL (S.take (j + 1)))) 75 by
        rw [← thereL_fun hat, ← boolsL_set _ hcl]
        exact HB.out.set c.toNat (.bool true))
      have HBN := Lib.hid (HBEL.out.setCell (p := ⟨b3, c.toNat, none⟩) (show w.heap.size ≤ b3 by have := HB3.out; omega) (.bool true))
      clear hat
      go_wp2
      go_roundw
      case rel => exact ⟨j + 1, by omega, by go_num, HNX.out, HBN.out⟩
      case measure => simp [intOf]; omega
    · obtain rfl : j = s.size := by omega
      have HL := Lib.hid (show S.take s.size = S by rw [HSZ.out, List.take_length])
      have hbl := HB.out
      rw [HL.out] at hbl
      have hsz2 : (Try.prog.info? 75).map (·.size) = some (boolsL (thereL S)).toArray.size := by rw [List.size_toArray, boolsL_len]; exact boolsinfo
      have HLI := Lib.hid (listed_any (thereL S) wr)
      have hg : wr.heap[b3]? = some (.cells (boolsL (thereL S)).toArray 75 (0, 0)) := hbl
      obtain ⟨A2, hA2⟩ : ∃ z, (boolsL (thereL S)).toArray = z := ⟨_, rfl⟩
      obtain ⟨q, hq⟩ : ∃ z, str (symL (thereL S)) = z := ⟨_, rfl⟩
      rw [hA2] at hg hsz2
      rw [hA2, hq] at HLI
      have HQ := Lib.hid hq
      clear hbl hA2 hq HB
      go_wp2_with (refine wpList_load_row rfl 75 _ rfl _ rfl _ A2 (0, 0) _ hg Try.underlying75 rfl hsz2 ?_)
      clear hg hsz2
      go_wp2_with fail
      refine HLI.out.mono ?_
      rintro e w2 ⟨rfl, hb2⟩
      have HB2 := Lib.hid (HBEL.out.trans (below_of hb2 HBEL.out.size))
      clear HLI hb2
      go_wp2
      go_ret
      exact ⟨ret_str HQ.out.symm, HB2.out⟩
end Go.Proofs.Ytbbiohcmfhdmnaa

/- Package used: symbols are read. -/
import Derived.Test.YtbbiohcmfhdmnaaUsdE
import Derived.Test.YtbbiohcmfhdmnaaBitC
namespace Go.Proofs.Ytbbiohcmfhdmnaa
open Go.RowKit

theorem intinfoU : (Try.prog.info? 3).map (fun i => (i.zero, i.size, i.bytes)) = some (some (.int .i64 0), 1, 8) := by kernel_rfl

theorem write_no (b : Nat) (s : ByteArray) (S : List UInt8) (w : World) (hs : s = str S) (hsl : S.length ≤ 1000000) (his : isL S = false) :
    Calls Try.prog 44 #[.pointer (some ⟨b, 0, none⟩), .string s] w fun e w' => e = .returned (.int .i64 1) ∧ ∃ n, w' = w.drewN n := by
  have HI := Lib.hid (is_any s S w hs hsl)
  rw [his] at HI
  clear his hs
  go_enter Try.func44, Try.ntmps44
  go_wp2_with fail
  refine HI.out.mono ?_
  rintro e w1 ⟨rfl, hd1⟩
  have HD := Lib.hid hd1
  clear HI hd1
  go_wp2
  go_ret
  exact ⟨rfl, HD.out⟩
theorem write_nil (s : ByteArray) (w : World) :
    Calls Try.prog 44 #[.pointer none, .string s] w fun e w' => e = .returned (.int .i64 7) ∧ w = w' := by
  go_enter Try.func44, Try.ntmps44
  go_wp2
  go_ret
  exact ⟨rfl, rfl⟩

/-- the numbers of the bits of a row that are 1 -/
def marksV (r : Nat) (n : Nat) : List Nat := numsL (fun k => r.testBit (15 - k)) n
theorem marksV_succ (r n : Nat) : marksV r (n + 1) = marksV r n ++ (if r.testBit (15 - n) then [n] else []) := numsL_succ _ _
theorem natI_bd {l : List Nat} (h : ∀ x ∈ l, x < 1000) : ∀ x ∈ l.map (fun (k : Nat) => (k : Int)), -9223372036854775808 ≤ x ∧ x ≤ 9223372036854775807 := by
  intro x hx
  obtain ⟨k, hk, rfl⟩ := List.mem_map.1 hx
  have := h k hk
  omega

set_option maxHeartbeats 1000000 in
set_option maxRecDepth 100000 in
theorem marks_any (r : Nat) (w : World) (hr : r < 4294967296) :
    Calls Try.prog 59 #[.int .u32 (r : Int)] w fun e w' => ∃ v', e = .returned v' ∧ RInts w' v' ((marksV r 16).map (fun (k : Nat) => (k : Int))) ∧ FreshV w.heap.size v' ∧ Below w.heap.size w w' := by
  go_enter Try.func59, Try.ntmps59
  go_wp2
  go_loopw [3, 4, 5] (fun v' x i wr => ∃ j : Nat, j ≤ 16 ∧ i = .int .i64 j ∧ Hid (OwnI wr 3 v' ((marksV r j).map (fun (k : Nat) => (k : Int)))) ∧ Hid (FreshV w.heap.size v') ∧ Below w.heap.size w wr) (fun _ _ i _ => 16 - (intOf i).toNat)
  case atStart => exact ⟨0, by omega, rfl, OwnI.nil _ _, FreshV.nil _, Below.refl _ _⟩
  case round =>
    obtain ⟨j, hj, rfl, HO, HF, hb⟩ := hrel
    by_cases hlt : j < 16
    · have HN := Lib.hid (marksV_succ r j)
      have ha := and_one r (15 - j) hr
      obtain ⟨t, ht⟩ : ∃ z, 15 - j = z := ⟨_, rfl⟩
      have e1 : (15 : Int) - (j : Int) = (t : Int) := by omega
      have ht15 : t ≤ 15 := by omega
      rw [ht] at ha HN
      cases hx : r.testBit t with
      | true =>
        rw [hx] at ha HN
        have ha2 : bits BinOp.and .u32 ((r : Int) / 2 ^ t) 1 = 1 := ha
        have hown := HO.out
        have HLN := Lib.hid (show ((marksV r j).map (fun (k : Nat) => (k : Int))).length < 1000000000 by rw [List.length_map]; exact Nat.lt_of_le_of_lt (List.length_filter_le _ _) (by simp; omega))
        have HN2 := Lib.hid (show (marksV r (j + 1)).map (fun (k : Nat) => (k : Int)) = (marksV r j).map (fun (k : Nat) => (k : Int)) ++ [(j : Int)] by rw [HN.out, if_pos rfl, List.map_append]; rfl)
        clear ha ht hx HN HO
        go_wp2_with (at_builtin; refine wpList_append_int _ _ rfl _ _ 79 rfl 3 Try.underlying79 intinfoU _ ((marksV r j).map (fun (k : Nat) => (k : Int))) _ _ rfl rfl rfl hown HLN.out ?_)
        intro v2 w2 hown2 hkeep hfresh
        have hb2 := below_append hb hkeep HF.out hb.size
        have HF2 := Lib.hid (HF.out.step hb.size hfresh)
        rw [← HN2.out] at hown2
        have HO2 := Lib.hid hown2
        clear hown hown2 hkeep hfresh ha2
        go_wp2
        go_roundw
        case rel => exact ⟨j + 1, by omega, by go_num, HO2.out, HF2.out, hb2⟩
        case measure => simp [intOf]; omega
      | false =>
        rw [hx] at ha HN
        have ha2 : bits BinOp.and .u32 ((r : Int) / 2 ^ t) 1 = 0 := ha
        have HN2 := Lib.hid (show marksV r (j + 1) = marksV r j by rw [HN.out]; simp)
        clear ha ht hx HN
        go_wp2
        go_roundw
        case rel => exact ⟨j + 1, by omega, by go_num, by rw [HN2.out]; exact HO.out, HF.out, hb⟩
        case measure => simp [intOf]; omega
    · obtain rfl : j = 16 := by omega
      have HR := Lib.hid (HO.out.reads (natI_bd (fun x hx => Nat.lt_trans (numsL_lt hx).1 (by decide))))
      go_wp2
      go_ret
      exact ⟨_, rfl, HR.out, HF.out, hb⟩
end Go.Proofs.Ytbbiohcmfhdmnaa

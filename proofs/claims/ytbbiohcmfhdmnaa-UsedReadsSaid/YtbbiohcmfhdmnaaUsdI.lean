/- balerref05: Bits, Read. -/
import Derived.Test.YtbbiohcmfhdmnaaUsdH
namespace Go.Proofs.Ytbbiohcmfhdmnaa
open Go.RowKit

theorem map_range_succ {α : Type} (f : Nat → α) (j : Nat) : (List.range (j + 1)).map f = (List.range j).map f ++ [f j] := by rw [List.range_succ, List.map_append]; rfl
theorem any_snoc (l : List Bool) (x : Bool) : (l ++ [x]).any id = (l.any id || x) := by simp

set_option maxHeartbeats 4000000 in
set_option maxRecDepth 100000 in
theorem refbits05_any (s : ByteArray) (S : List UInt8) (w : World) (hs : s = str S) (hl : S.length ≤ 1000000) :
    Calls Try.prog 47 #[.string s] w fun e w' => e = .returned (.string (stx (usedBits (thereL S)))) ∧ w = w' := by
  have HT := Lib.hid (fun (b : Nat) (w : World) => there_any s S b w hs hl)
  obtain ⟨f, hf⟩ : ∃ z, thereL S = z := ⟨_, rfl⟩
  rw [hf] at HT ⊢
  clear hs hf
  go_enter Try.func47, Try.ntmps47
  go_wp2
  go_loop [3, 4, 5, 6, 7, 8, 9, 12] (fun a b _ _ _ _ i _ => ∃ (j : Nat) (aa bb : ByteArray), j ≤ 16 ∧ i = .int .i64 j ∧ a = .string aa ∧ b = .string bb ∧ Hid (aa = stx ((List.range j).map (someR f)) ∧ bb = stx (restL f (List.range j)))) (fun _ _ _ _ _ _ i _ => 16 - (intOf i).toNat)
  case atStart => exact ⟨0, ⟨#[]⟩, ⟨#[]⟩, by omega, rfl, rfl, rfl, rfl, rfl⟩
  case round =>
    obtain ⟨j, aa, bb, hj, rfl, rfl, rfl, HAB⟩ := hrel
    have haz : aa.size ≤ 16 := by rw [HAB.out.1, stx_size]; simp; omega
    have hbz : bb.size ≤ 256 := by rw [HAB.out.2, stx_size]; have := restL_len f j; omega
    by_cases hlt : j < 16
    · go_wp2
      go_loop [6, 7, 8, 12] (fun r m _ i => ∃ (k : Nat) (rr : ByteArray), k ≤ 16 ∧ i = .int .i64 k ∧ r = .string rr ∧ m = .bool (((List.range k).map fun k => f (16 * j + k)).any id) ∧ Hid (rr = stx ((List.range k).map fun k => f (16 * j + k)))) (fun _ _ _ i => 16 - (intOf i).toNat)
      case atStart => exact ⟨0, ⟨#[]⟩, by omega, rfl, rfl, rfl, rfl⟩
      case round =>
        obtain ⟨k, rr, hk, rfl, rfl, rfl, HRR⟩ := hrel
        have hrz : rr.size ≤ 16 := by rw [HRR.out, stx_size]; simp; omega
        by_cases hlt2 : k < 16
        · have hn : ∃ n : Nat, 16 * j + k = n := ⟨_, rfl⟩
          obtain ⟨n, hn⟩ := hn
          have e1 : (16 : Int) * (j : Int) + (k : Int) = (n : Int) := by omega
          have HT1 := Lib.hid (fun w => HT.out n w)
          have HN := Lib.hid (show (List.range (k + 1)).map (fun k => f (16 * j + k)) = (List.range k).map (fun k => f (16 * j + k)) ++ [f n] by rw [map_range_succ, ← hn])
          obtain ⟨t, ht⟩ : ∃ z, f n = z := ⟨_, rfl⟩
          rw [ht] at HT1 HN
          obtain ⟨M, hM⟩ : ∃ z, (List.range k).map (fun k => f (16 * j + k)) = z := ⟨_, rfl⟩
          rw [hM] at HN HRR ⊢
          clear ht hn hM
          cases t with
          | true =>
            have HR2 := Lib.hid (show rr ++ ⟨#[49]⟩ = stx (M ++ [true]) by rw [HRR.out, ← stx_append]; rfl)
            go_wp2_with fail
            refine (HT1.out _).mono ?_
            rintro e w2 ⟨rfl, rfl⟩
            clear HT1
            go_wp2
            go_round
            case rel => exact ⟨k + 1, _, by omega, by go_num, rfl, by rw [HN.out, any_snoc, Bool.or_true], by show _ = _; rw [HN.out]; exact HR2.out⟩
            case measure => simp [intOf]; omega
          | false =>
            have HR2 := Lib.hid (show rr ++ ⟨#[48]⟩ = stx (M ++ [false]) by rw [HRR.out, ← stx_append]; rfl)
            go_wp2_with fail
            refine (HT1.out _).mono ?_
            rintro e w2 ⟨rfl, rfl⟩
            clear HT1
            go_wp2
            go_round
            case rel => exact ⟨k + 1, _, by omega, by go_num, rfl, by rw [HN.out, any_snoc, Bool.or_false], by show _ = _; rw [HN.out]; exact HR2.out⟩
            case measure => simp [intOf]; omega
        · obtain rfl : k = 16 := by omega
          have HX := Lib.hid (show aa ++ stx [someR f j] = stx ((List.range (j + 1)).map (someR f)) by rw [HAB.out.1, stx_append, map_range_succ])
          have HY := Lib.hid (show bb ++ (if someR f j then rr else ⟨#[]⟩) = stx (restL f (List.range (j + 1))) by
            rw [restL_succ, ← stx_append, HAB.out.2, HRR.out]
            split <;> rfl)
          obtain ⟨t, ht⟩ : ∃ z, someR f j = z := ⟨_, rfl⟩
          rw [show ((List.range 16).map fun k => f (16 * j + k)).any id = t from ht]
          rw [ht] at HX HY
          clear ht hk hlt2
          cases t with
          | true =>
            have HX2 := Lib.hid (show aa ++ ⟨#[49]⟩ = _ from HX.out)
            have HY2 := Lib.hid (show bb ++ rr = _ from HY.out)
            go_wp2
            go_round
            case rel => exact ⟨j + 1, _, _, by omega, by go_num, rfl, rfl, HX2.out, HY2.out⟩
            case measure => simp [intOf]; omega
          | false =>
            have HX2 := Lib.hid (show aa ++ ⟨#[48]⟩ = _ from HX.out)
            have HY2 := Lib.hid (show bb = stx (restL f (List.range (j + 1))) by rw [← HY.out, if_neg (by decide)]; exact (ByteArray.append_empty).symm)
            go_wp2
            go_round
            case rel => exact ⟨j + 1, _, _, by omega, by go_num, rfl, rfl, HX2.out, HY2.out⟩
            case measure => simp [intOf]; omega
    · obtain rfl : j = 16 := by omega
      have HE := Lib.hid (show aa ++ bb = stx (usedBits f) by rw [HAB.out.1, HAB.out.2, stx_append]; rfl)
      clear hj hlt
      go_wp2
      go_ret
      exact ⟨ret_str HE.out, rfl⟩

/-- the cells behind a Got -/
def gotC (s : ByteArray) (n : Nat) (e : Int) : List Value := [.string s, .int .i64 n, .int .i64 e]
def gotV (s : ByteArray) (n : Nat) (e : Int) : Value := .agg #[.string s, .int .i64 n, .int .i64 e]
end Go.Proofs.Ytbbiohcmfhdmnaa

/- Package used: a text's symbols, by the reference and by the program. -/
import Derived.Test.YtoebnibhkdidhaaUsdA
import Derived.Test.YtoebnibhkdidhaaBitR
import Derived.Deep.LoopGhost
namespace Go.Proofs.Ytoebnibhkdidhaa
open Go.RowKit

theorem thereL_no {S : List UInt8} {b : Nat} (h : ∀ (i : Nat) (c : UInt8), S[i]? = some c → c.toNat ≠ b) : thereL S b = false := by
  rw [Bool.eq_false_iff]
  intro h1
  rw [thereL_mem] at h1
  obtain ⟨c, hc, e⟩ := List.mem_map.1 h1
  obtain ⟨i, hi⟩ := List.getElem?_of_mem hc
  exact h i c hi e
theorem thereL_yes {S : List UInt8} {b i : Nat} {c : UInt8} (h : S[i]? = some c) (e : c.toNat = b) : thereL S b = true := by
  rw [thereL_mem]
  exact List.mem_map.2 ⟨c, List.mem_of_getElem? h, e⟩

set_option maxHeartbeats 1000000 in
theorem there_any (s : ByteArray) (S : List UInt8) (b : Nat) (w : World) (hs : s = str S) (hl : S.length ≤ 1000000) :
    Calls Try.prog 54 #[.string s, .int .i64 (b : Int)] w fun e w' => e = .returned (.bool (thereL S b)) ∧ w = w' := by
  have hsz : s.size = S.length := by rw [hs, str_size]
  have HS := Lib.hid hs
  have HSZ := Lib.hid hsz
  have hz : s.size ≤ 1000000 := by omega
  obtain ⟨R, hR⟩ : ∃ z, thereL S b = z := ⟨_, rfl⟩
  have HR := Lib.hid hR
  rw [hR]
  clear hs hsz hR
  go_enter Try.func54, Try.ntmps54
  go_wp2
  go_loop [5] (fun i => ∃ (j : Nat), j ≤ s.size ∧ i = .int .i64 j ∧ Hid (∀ (i : Nat) (c : UInt8), i < j → S[i]? = some c → c.toNat ≠ b)) (fun i => s.size - (intOf i).toNat)
  case atStart => exact ⟨0, Nat.zero_le _, rfl, fun i c h => absurd h (by omega)⟩
  case round =>
    obtain ⟨j, hj, rfl, HA⟩ := hrel
    by_cases hlt : j < s.size
    · have hat := str_at HS.out hlt
      obtain ⟨c, hc⟩ : ∃ c, s[j] = c := ⟨_, rfl⟩
      rw [hc] at hat
      have HAT := Lib.hid hat
      have hcl : c.toNat < 256 := UInt8.toNat_lt c
      clear hat
      cases hcb : (((c.toNat : Nat) : Int) == (b : Int)) with
      | true =>
        have HY := Lib.hid (thereL_yes HAT.out (b := b) (by have := of_decide_eq_true (by simpa using hcb) ; omega))
        go_wp2
        go_ret
        exact ⟨ret_bool (by rw [← HR.out, HY.out]), rfl⟩
      | false =>
        have HA2 := Lib.hid (show ∀ (i : Nat) (c : UInt8), i < j + 1 → S[i]? = some c → c.toNat ≠ b from fun i d hi hd => by
          by_cases e : i = j
          · subst e
            have := HAT.out
            rw [hd] at this
            cases this
            intro e2
            rw [e2] at hcb
            simp at hcb
          · exact HA.out i d (by omega) hd)
        go_wp2
        go_round
        case rel => exact ⟨j + 1, by omega, by go_num, HA2.out⟩
        case measure => simp [intOf]; omega
    · obtain rfl : j = s.size := by omega
      have HN := Lib.hid (show thereL S b = false from thereL_no fun i c hc => HA.out i c (by have := (List.getElem?_eq_some_iff.1 hc).1; have := HSZ.out; omega) hc)
      go_wp2
      go_ret
      exact ⟨ret_bool (by rw [← HR.out, HN.out]), rfl⟩

set_option maxHeartbeats 1000000 in
set_option maxRecDepth 100000 in
theorem refsym_any (s : ByteArray) (S : List UInt8) (w : World) (hs : s = str S) (hl : S.length ≤ 1000000) :
    Calls Try.prog 20 #[.string s] w fun e w' => e = .returned (.string (str (symL (thereL S)))) ∧ Below w.heap.size w w' := by
  have HS := Lib.hid hs
  have HT := Lib.hid (fun (b : Nat) (w : World) => there_any s S b w hs hl)
  clear hs
  go_enter Try.func20, Try.ntmps20
  go_wp2
  go_loopw [3, 4, 5] (fun o x i wr => ∃ (j : Nat) (oo : ByteArray), j ≤ 256 ∧ i = .int .i64 j ∧ o = .string oo ∧ Hid (oo = str ((numsL (thereL S) j).map UInt8.ofNat)) ∧ Below w.heap.size w wr) (fun _ _ i _ => 256 - (intOf i).toNat)
  case atStart => exact ⟨0, ⟨#[]⟩, by omega, rfl, rfl, rfl, Below.refl _ _⟩
  case round =>
    obtain ⟨j, oo, hj, rfl, rfl, HO, hb⟩ := hrel
    have hoz : oo.size ≤ 256 := by rw [HO.out, str_size, List.length_map]; exact Nat.le_trans (List.length_filter_le _ _) (by simp; omega)
    by_cases hlt : j < 256
    · have HT1 := Lib.hid (HT.out j wr)
      have HN := Lib.hid (numsL_succ (thereL S) j)
      obtain ⟨t, ht⟩ : ∃ z, thereL S j = z := ⟨_, rfl⟩
      rw [ht] at HT1 HN
      clear ht
      cases t with
      | true =>
        have hjm : (j : Int) % 256 = (j : Int) := by omega
        have hcv := run_one_byte wr j hlt _ rfl
        obtain ⟨d, hd⟩ : ∃ d, str [UInt8.ofNat j] = d := ⟨_, rfl⟩
        have hdz : d.size ≤ 1 := by rw [← hd, str_size]; exact Nat.le_refl _
        have HO2 := Lib.hid (show oo ++ d = str ((numsL (thereL S) (j + 1)).map UInt8.ofNat) by rw [HN.out, HO.out, ← hd, str_append, if_pos rfl, List.map_append]; rfl)
        rw [hd] at hcv
        have hb2 := hb.trans ((below_alloc wr (Obj.cells #[.int .u8 (j : Int)] 5 (0, 0))).mono hb.size)
        clear hd HN HO
        go_wp2_with fail
        refine HT1.out.mono ?_
        rintro e w2 ⟨rfl, rfl⟩
        clear HT1
        go_wp2
        go_roundw
        case rel => exact ⟨j + 1, _, by omega, by go_num, rfl, HO2.out, hb2⟩
        case measure => simp [intOf]; omega
      | false =>
        have HO2 := Lib.hid (show oo = str ((numsL (thereL S) (j + 1)).map UInt8.ofNat) by rw [HN.out, HO.out, if_neg (by decide), List.append_nil])
        clear HN HO
        go_wp2_with fail
        refine HT1.out.mono ?_
        rintro e w2 ⟨rfl, rfl⟩
        clear HT1
        go_wp2
        go_roundw
        case rel => exact ⟨j + 1, _, by omega, by go_num, rfl, HO2.out, hb⟩
        case measure => simp [intOf]; omega
    · obtain rfl : j = 256 := by omega
      go_wp2
      go_ret
      exact ⟨ret_str HO.out, hb⟩

theorem refis_any (s : ByteArray) (S : List UInt8) (w : World) (hs : s = str S) (hl : S.length ≤ 1000000) :
    Calls Try.prog 21 #[.string s] w fun e w' => e = .returned (.bool (isL S)) ∧ Below w.heap.size w w' := by
  have hsz : s.size = S.length := by rw [hs, str_size]
  have HC := Lib.hid (refsym_any s S w hs hl)
  have hiff := isL_iff S
  obtain ⟨R, hR⟩ : ∃ z, isL S = z := ⟨_, rfl⟩
  rw [hR] at hiff ⊢
  clear hR
  by_cases h0 : 0 < s.size
  · have hd0 : decide (0 < s.size) = true := decide_eq_true h0
    have h0i : (0 : Int) < (s.size : Int) := by omega
    obtain ⟨q, hq⟩ : ∃ z, str (symL (thereL S)) = z := ⟨_, rfl⟩
    have HE := Lib.hid (show (q.toList == s.toList) = R by
      rw [hiff, ← hq, hs, str_toList, str_toList, decide_eq_true (show 0 < S.length by omega), Bool.true_and, Bool.eq_iff_iff]
      simp)
    rw [hq] at HC
    clear hs hsz hiff hq h0
    cases R with
    | true =>
      have he := HE.out
      go_enter Try.func21, Try.ntmps21
      go_wp2_with fail
      refine HC.out.mono ?_
      rintro e w1 ⟨rfl, hb⟩
      clear HC
      go_wp2
      go_ret
      exact ⟨rfl, hb⟩
    | false =>
      have he := HE.out
      go_enter Try.func21, Try.ntmps21
      go_wp2_with fail
      refine HC.out.mono ?_
      rintro e w1 ⟨rfl, hb⟩
      clear HC
      go_wp2
      go_ret
      exact ⟨rfl, hb⟩
  · have hd0 : decide ((0 : Int) < (s.size : Int)) = false := decide_eq_false (by omega)
    have hd1 : decide (0 < s.size) = false := decide_eq_false h0
    have HR := Lib.hid (show false = R by rw [hiff, decide_eq_false (show ¬ 0 < S.length by omega)]; rfl)
    clear hs hsz hiff HC h0
    go_enter Try.func21, Try.ntmps21
    go_wp2
    go_ret
    exact ⟨ret_bool HR.out, Below.refl _ _⟩
end Go.Proofs.Ytoebnibhkdidhaa

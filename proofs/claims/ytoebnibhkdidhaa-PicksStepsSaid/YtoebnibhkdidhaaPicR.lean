/- Package picks: the references Place and Touch of package mtf. -/
import Derived.Test.YtoebnibhkdidhaaMtfL
import Derived.Test.YtoebnibhkdidhaaBitR
import Derived.Test.YtoebnibhkdidhaaSame
namespace Go.Proofs.Ytoebnibhkdidhaa
open Go.RowKit

theorem plcI_some {l : List UInt8} {c : UInt8} {k : Nat} (h : plc l c = some k) : plcI l c = k := by unfold plcI; rw [h]
theorem plcI_none {l : List UInt8} {c : UInt8} (h : plc l c = none) : plcI l c = -1 := by unfold plcI; rw [h]

set_option maxHeartbeats 1000000 in
theorem refplace_any (s : ByteArray) (S : List UInt8) (d : UInt8) (w : World) (hs : s = str S) (hl : S.length ≤ 1000000) :
    Calls Try.prog 23 #[.string s, .int .u8 (d.toNat : Int)] w fun e w' => e = .returned (.int .i64 (plcI S d)) ∧ w = w' := by
  have hsz : s.size = S.length := by rw [hs, str_size]
  have HS := Lib.hid hs
  have HSZ := Lib.hid hsz
  have hz : s.size ≤ 1000000 := by omega
  obtain ⟨R, hR⟩ : ∃ z, plcI S d = z := ⟨_, rfl⟩
  have HR := Lib.hid hR
  rw [hR]
  clear hs hsz hR
  go_enter Try.func23, Try.ntmps23
  go_wp2
  go_loop [5] (fun i => ∃ (j : Nat), j ≤ s.size ∧ i = .int .i64 j ∧ Hid (∀ (i : Nat) (c : UInt8), i < j → S[i]? = some c → c ≠ d)) (fun i => s.size - (intOf i).toNat)
  case atStart => exact ⟨0, Nat.zero_le _, rfl, fun i c h => absurd h (by omega)⟩
  case round =>
    obtain ⟨j, hj, rfl, HA⟩ := hrel
    by_cases hlt : j < s.size
    · have hat := str_at HS.out hlt
      obtain ⟨c, hc⟩ : ∃ c, s[j] = c := ⟨_, rfl⟩
      rw [hc] at hat
      have HAT := Lib.hid hat
      clear hat
      cases hcb : (((c.toNat : Nat) : Int) == ((d.toNat : Nat) : Int)) with
      | true =>
        have HY := Lib.hid (show plcI S d = (j : Int) by
          have e : c = d := UInt8.toNat_inj.1 (by have := of_decide_eq_true (by simpa using hcb); omega)
          subst e
          exact plcI_some (plc_of HAT.out HA.out))
        go_wp2
        go_ret
        exact ⟨ret_int (by rw [← HR.out, HY.out]), rfl⟩
      | false =>
        have HA2 := Lib.hid (show ∀ (i : Nat) (c : UInt8), i < j + 1 → S[i]? = some c → c ≠ d from fun i x hi hx => by
          by_cases e : i = j
          · subst e
            have := HAT.out
            rw [hx] at this
            cases this
            intro e2
            rw [e2] at hcb
            simp at hcb
          · exact HA.out i x (by omega) hx)
        go_wp2
        go_round
        case rel => exact ⟨j + 1, by omega, by go_num, HA2.out⟩
        case measure => simp [intOf]; omega
    · obtain rfl : j = s.size := by omega
      have HN := Lib.hid (show plcI S d = -1 from plcI_none (plc_none fun i c hc => HA.out i c (by have := (List.getElem?_eq_some_iff.1 hc).1; have := HSZ.out; omega) hc))
      go_wp2
      go_ret
      exact ⟨ret_int (by rw [← HR.out, HN.out]), rfl⟩

set_option maxHeartbeats 1000000 in
theorem reftouch_any (s : ByteArray) (S : List UInt8) (i : Nat) (w : World) (hs : s = str S) (hl : S.length ≤ 1000000) (hi : i < S.length) :
    Calls Try.prog 26 #[.string s, .int .i64 (i : Int)] w fun e w' => e = .returned (.string (str (touchL S i))) ∧ Below w.heap.size w w' := by
  have hsz : s.size = S.length := by rw [hs, str_size]
  have HF := Lib.hid (show s.extract i (i + 1) ++ s.extract 0 i ++ s.extract (i + 1) s.size = str (touchL S i) by
    rw [hsz, hs, str_extract, str_extract, str_extract, str_append, str_append]
    unfold touchL
    rw [show i + 1 - i = 1 by omega, List.drop_zero, Nat.sub_zero, List.take_of_length_le (l := S.drop (i + 1)) (by rw [List.length_drop]; omega), List.append_assoc])
  have hz : s.size ≤ 1000000 := by omega
  have h1 : i < s.size := by omega
  have h2 : i + 1 ≤ s.size := by omega
  have h3 : (i : Int) + 1 ≤ (s.size : Int) := by omega
  have e1 : IntKind.i64.wrap ((i : Int) + 1) = ((i + 1 : Nat) : Int) := by rw [IntWalk.i64_in _ (by omega)]; omega
  obtain ⟨m, hm⟩ : ∃ z, i + 1 = z := ⟨_, rfl⟩
  rw [hm] at HF e1 h2
  have h4 : i ≤ m := by omega
  have h5 : (m : Int) ≤ (s.size : Int) := by omega
  have h6 : (i : Int) ≤ (m : Int) := by omega
  obtain ⟨q, hq⟩ : ∃ z, str (touchL S i) = z := ⟨_, rfl⟩
  rw [hq] at HF ⊢
  clear hs hsz hq hm h3
  go_enter Try.func26, Try.ntmps26
  go_wp2
  go_quiet (fail)
  go_wp2
  go_ret
  exact ⟨ret_str HF.out, below_drawn ⟨_, rfl⟩⟩
end Go.Proofs.Ytoebnibhkdidhaa

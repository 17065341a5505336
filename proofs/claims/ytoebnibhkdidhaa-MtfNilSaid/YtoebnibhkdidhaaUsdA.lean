/- Package used: whether a text is a row of symbols, and a text's symbols. -/
import Derived.Test.YtoebnibhkdidhaaStr
import Derived.Test.YtoebnibhkdidhaaUsdL
import Derived.Outline
import Derived.Laws.Rows
namespace Go.Proofs.Ytoebnibhkdidhaa
open Go.RowKit

/-- an array's element, the array by value -/
theorem run_index_arr {P : Program} (w : World) (T e : TypeId) (n : Nat) (cs : Array Value) (k : IntKind) (i : Nat) (x : Value) (ht : P.underlying T = some (.array n e)) (hag : ∀ w, (isAgg e).run P w = .ok false w) (hsz : (P.info? e).map (·.size) = some 1)
    (hi : i < n) (hx : cs[i]? = some x) : (Instr.index T (.agg cs) (.int k (i : Int))).run P w = .ok x w := by
  obtain ⟨j, hj, hs⟩ : ∃ j, P.info? e = some j ∧ j.size = 1 := by
    cases h : P.info? e with
    | none => rw [h] at hsz; cases hsz
    | some j => rw [h] at hsz; exact ⟨j, rfl, by simpa using hsz⟩
  have h1 : (0 : Int) ≤ (i : Int) ∧ (i : Int) < (n : Int) := ⟨by omega, by omega⟩
  simp [Instr.index, asIntOf, run_underlying ht, h1, sizeOf, typeInfo, hj, hs, part, hag, hx]
  intro h
  omega

theorem isL_at {l : List UInt8} (h : ∀ i a b, l[i]? = some a → l[i + 1]? = some b → a.toNat < b.toNat) : upL l = true := by
  induction l with
  | nil => rfl
  | cons a l ih =>
    cases l with
    | nil => rfl
    | cons b l =>
      rw [upL, Bool.and_eq_true, decide_eq_true_iff]
      refine ⟨h 0 a b rfl rfl, ih fun i x y hx hy => ?_⟩
      exact h (i + 1) x y (by simpa using hx) (by simpa using hy)
theorem upL_at {l : List UInt8} (h : upL l = true) : ∀ i a b, l[i]? = some a → l[i + 1]? = some b → a.toNat < b.toNat := by
  intro i a b ha hb
  have hp := upL_sorted.1 h
  rw [List.pairwise_iff_getElem] at hp
  obtain ⟨h1, rfl⟩ := List.getElem?_eq_some_iff.1 ha
  obtain ⟨h2, rfl⟩ := List.getElem?_eq_some_iff.1 hb
  have := hp i (i + 1) (by simpa using h1) (by simpa using h2) (by omega)
  simpa using this

set_option maxHeartbeats 1000000 in
set_option maxRecDepth 100000 in
theorem is_any (s : ByteArray) (S : List UInt8) (w : World) (hs : s = str S) (hl : S.length ≤ 1000000) :
    Calls Try.prog 55 #[.string s] w fun e w' => e = .returned (.bool (isL S)) ∧ ∃ n, w' = w.drewN n := by
  have hsz : s.size = S.length := by rw [hs, str_size]
  have HS := Lib.hid hs
  have HSZ := Lib.hid hsz
  have hz : s.size ≤ 1000000 := by omega
  obtain ⟨R, hR⟩ : ∃ z, isL S = z := ⟨_, rfl⟩
  have HRR := Lib.hid hR
  rw [hR]
  clear hs hsz hR
  go_enter Try.func55, Try.ntmps55
  go_wp2
  go_loopw [3, 6] (fun x i wr => ∃ (j n : Nat), j ≤ s.size ∧ i = .int .i64 j ∧ wr = w.drewN n ∧ Hid (∀ i a b, i + 1 < j → S[i]? = some a → S[i + 1]? = some b → a.toNat < b.toNat)) (fun _ i _ => s.size - (intOf i).toNat)
  case atStart => exact ⟨0, 0, Nat.zero_le _, rfl, rfl, fun i a b h => absurd h (by omega)⟩
  case round =>
    obtain ⟨j, n, hj, rfl, rfl, HA⟩ := hrel
    by_cases hlt : j < s.size
    · by_cases h0 : j = 0
      · subst h0
        have hd0 : decide ((0 : Int) < ((0 : Nat) : Int)) = false := rfl
        go_wp2
        go_quiet (fail)
        go_wp2
        go_roundw
        case rel => exact ⟨0 + 1, _, by omega, by go_num, rfl, fun i a b h => absurd h (by omega)⟩
        case measure => simp [intOf]; omega
      · have hat := str_at HS.out hlt
        have hlt1 : j - 1 < s.size := by omega
        have hat1 := str_at HS.out hlt1
        obtain ⟨c, hc⟩ : ∃ c, s[j] = c := ⟨_, rfl⟩
        obtain ⟨d, hd⟩ : ∃ d, s[j - 1] = d := ⟨_, rfl⟩
        rw [hc] at hat
        rw [hd] at hat1
        have HAT := Lib.hid hat
        have HAT1 := Lib.hid hat1
        have hj0 : (0 : Int) < (j : Int) := by omega
        have hd0 : decide (0 < j) = true := decide_eq_true (by omega)
        have e1 : IntKind.i64.wrap ((j : Int) - 1) = ((j - 1 : Nat) : Int) := by rw [IntWalk.i64_in _ (by omega)]; omega
        have hlt2 : (j : Int) < (s.size : Int) := by omega
        have hlt3 : ((j - 1 : Nat) : Int) < (s.size : Int) := by omega
        clear hat hat1
        by_cases hcd : c.toNat ≤ d.toNat
        · have hle : decide ((c.toNat : Int) ≤ (d.toNat : Int)) = true := decide_eq_true (by omega)
          have hle2 : decide (c.toNat ≤ d.toNat) = true := decide_eq_true hcd
          have HN := Lib.hid (show isL S = false by
            cases h : isL S with
            | false => rfl
            | true =>
              unfold isL at h
              rw [Bool.and_eq_true] at h
              have := upL_at h.2 (j - 1) d c HAT1.out (by rw [show j - 1 + 1 = j by omega]; exact HAT.out)
              omega)
          go_wp2
          go_quiet (fail)
          go_wp2
          go_ret
          exact ⟨ret_bool (by rw [← HRR.out, HN.out]), _, World.drewN_drewN _ _ _⟩
        · have hle : decide (c.toNat ≤ d.toNat) = false := decide_eq_false hcd
          have HA2 := Lib.hid (show ∀ i a b, i + 1 < j + 1 → S[i]? = some a → S[i + 1]? = some b → a.toNat < b.toNat from fun i a b hi ha hb => by
            by_cases e : i + 1 = j
            · have h1 := HAT.out
              have h2 := HAT1.out
              rw [show j - 1 = i by omega, ha] at h2
              rw [← e, hb] at h1
              cases h1
              cases h2
              omega
            · exact HA.out i a b (by omega) ha hb)
          go_wp2
          go_quiet (fail)
          go_wp2
          go_roundw
          case rel => exact ⟨j + 1, _, by omega, by go_num, rfl, HA2.out⟩
          case measure => simp [intOf]; omega
    · obtain rfl : j = s.size := by omega
      have HU := Lib.hid (show upL S = true from isL_at fun i a b ha hb => HA.out i a b (by have := (List.getElem?_eq_some_iff.1 hb).1; have := HSZ.out; omega) ha hb)
      have HE := Lib.hid (show (!s.toList.isEmpty) = isL S by
        unfold isL
        rw [HU.out, Bool.and_true, HS.out, str_toList])
      cases he : s.toList.isEmpty with
      | true =>
        have HR := Lib.hid (show false = R by rw [← HRR.out, ← HE.out, he]; rfl)
        go_wp2
        go_ret
        exact ⟨ret_bool HR.out, _, rfl⟩
      | false =>
        have HR := Lib.hid (show true = R by rw [← HRR.out, ← HE.out, he]; rfl)
        go_wp2
        go_ret
        exact ⟨ret_bool HR.out, _, rfl⟩
end Go.Proofs.Ytoebnibhkdidhaa

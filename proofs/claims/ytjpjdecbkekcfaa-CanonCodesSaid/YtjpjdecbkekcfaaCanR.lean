/- Package canon: the references next and Begins. -/
import Derived.Test.YtjpjdecbkekcfaaCanM
import Derived.Test.YtjpjdecbkekcfaaBitR
namespace Go.Proofs.Ytjpjdecbkekcfaa
open Go.RowKit

/-- one more, from the right; and what is carried out -/
def incR : List Bool → List Bool × Bool
  | [] => ([], true)
  | b :: r => ((b != (incR r).2) :: (incR r).1, (incR r).2 && b)
theorem incR_len (l : List Bool) : (incR l).1.length = l.length := by
  induction l with
  | nil => rfl
  | cons b r ih => simp [incR, ih]
theorem incR_num (l : List Bool) : numL (incR l).1 + (incR l).2.toNat * 2 ^ l.length = numL l + 1 := by
  induction l with
  | nil => rfl
  | cons b r ih =>
    have h1 : (incR (b :: r)).1 = (b != (incR r).2) :: (incR r).1 := rfl
    have h2 : (incR (b :: r)).2 = ((incR r).2 && b) := rfl
    rw [h1, h2, numL_cons, numL_cons, incR_len, List.length_cons, Nat.pow_succ]
    cases b <;> cases h : (incR r).2 <;> rw [h] at ih <;> simp at ih ⊢ <;> omega
theorem incR_field {v m : Nat} (h : v + 1 < 2 ^ m) : (incR (fieldL v m)).1 = fieldL (v + 1) m := by
  have h1 := incR_num (fieldL v m)
  have h2 := numL_lt (incR (fieldL v m)).1
  rw [incR_len, fieldL_len] at h2
  rw [numL_field_of (by omega), fieldL_len] at h1
  have h3 : numL (incR (fieldL v m)).1 = v + 1 := by
    cases hc : (incR (fieldL v m)).2 with
    | false => rw [hc] at h1; simpa using h1
    | true => rw [hc] at h1; simp at h1; omega
  have h4 := field_numL (incR (fieldL v m)).1
  rw [h3, incR_len, fieldL_len] at h4
  exact h4.symm
theorem field_shift (v m k : Nat) : fieldL v m ++ List.replicate k false = fieldL (v * 2 ^ k) (m + k) := by
  induction k with
  | zero => simp
  | succ k ih =>
    rw [List.replicate_succ', ← List.append_assoc, ih, ← Nat.add_assoc, fieldL_div]
    have h1 : v * 2 ^ (k + 1) / 2 = v * 2 ^ k := by rw [Nat.pow_succ, ← Nat.mul_assoc]; exact Nat.mul_div_cancel _ (by decide)
    have h2 : (v * 2 ^ (k + 1)).testBit 0 = false := by rw [Nat.pow_succ, ← Nat.mul_assoc]; simp [Nat.testBit_zero]
    rw [h1, h2]

def nextL (l : List Bool) (n : Nat) : List Bool := (incR l).1 ++ List.replicate (n - l.length) false
theorem nextL_field {v m n : Nat} (h : v + 1 < 2 ^ m) (hn : m ≤ n) : nextL (fieldL v m) n = fieldL ((v + 1) * 2 ^ (n - m)) n := by
  unfold nextL
  rw [incR_field h, fieldL_len, field_shift, show m + (n - m) = n by omega]

set_option maxHeartbeats 1000000 in
theorem refnext_any (s : ByteArray) (l : List Bool) (n : Nat) (w : World) (hs : s = stx l) (hl : l.length ≤ 1000) (hn : n ≤ 1000) :
    Calls Try.prog 56 #[.string s, .int .i64 (n : Int)] w fun e w' => e = .returned (.string (stx (nextL l n))) ∧ w = w' := by
  have HS := Lib.hid hs
  have hsz : s.size = l.length := by rw [hs, stx_size]
  have HZ := Lib.hid hsz
  have hz : s.size ≤ 1000 := by omega
  have e1 : IntKind.i64.wrap ((s.size : Int) - 1) = (s.size : Int) - 1 := IntWalk.i64_in _ (by omega)
  clear hs hsz
  go_enter Try.func56, Try.ntmps56
  go_wp2
  go_loop [5, 6, 7, 8] (fun out cr i _ => ∃ (k : Nat) (so : ByteArray) (c : Bool), k ≤ s.size ∧ i = .int .i64 ((k : Int) - 1) ∧ out = .string so ∧ cr = .bool c ∧ Hid (so = stx (incR (l.drop k)).1) ∧ Hid ((incR (l.drop k)).2 = c)) (fun _ _ i _ => (intOf i + 1).toNat)
  case atStart => exact ⟨s.size, ⟨#[]⟩, true, Nat.le_refl _, rfl, rfl, rfl, (show _ = _ by rw [List.drop_of_length_le (by rw [HZ.out]; exact Nat.le_refl _)]; rfl), (show _ = _ by rw [List.drop_of_length_le (by rw [HZ.out]; exact Nat.le_refl _)]; rfl)⟩
  case round =>
    obtain ⟨k, so, c, hk, rfl, rfl, rfl, HSO, HC⟩ := hrel
    by_cases h0 : k = 0
    · subst h0
      have HE := Lib.hid (show so = stx ((incR l).1 ++ List.replicate 0 false) by rw [HSO.out, List.drop_zero]; simp)
      clear HSO HC
      go_wp2
      go_loop [5] (fun out => ∃ (j : Nat) (st : ByteArray), j ≤ n - l.length ∧ out = .string st ∧ Hid (st = stx ((incR l).1 ++ List.replicate j false))) (fun out => match out with | .string t => n - t.size | _ => 0)
      case atStart => exact ⟨0, so, Nat.zero_le _, rfl, HE.out⟩
      case round =>
        obtain ⟨j, st, hj, rfl, HST⟩ := hrel
        have hsl : st.size = l.length + j := by rw [HST.out, stx_size, List.length_append, incR_len, List.length_replicate]
        by_cases hlt : st.size < n
        · have hlti : (st.size : Int) < (n : Int) := by omega
          have HN := Lib.hid (show st ++ ⟨#[48]⟩ = stx ((incR l).1 ++ List.replicate (j + 1) false) by
            rw [List.replicate_succ', ← List.append_assoc, ← stx_append, ← HST.out]; rfl)
          have HZ1 := Lib.hid (show (st ++ ⟨#[48]⟩).size = st.size + 1 by rw [ByteArray.size_append]; rfl)
          have hj2 : j + 1 ≤ n - l.length := by omega
          have hst : st.size ≤ 1000 := by omega
          clear hsl
          go_wp2
          go_round
          case rel => exact ⟨j + 1, _, hj2, rfl, HN.out⟩
          case measure =>
            show n - (st ++ ⟨#[48]⟩).size < n - st.size
            rw [HZ1.out]
            omega
        · have hlti : ¬ (st.size : Int) < (n : Int) := by omega
          have HF := Lib.hid (show st = stx (nextL l n) by rw [HST.out, nextL, show j = n - l.length by omega])
          clear hsl
          go_wp2
          go_ret
          exact ⟨ret_str HF.out, rfl⟩
    · obtain ⟨m, rfl⟩ : ∃ m, k = m + 1 := ⟨k - 1, by omega⟩
      have hml : m < l.length := by rw [← HZ.out]; omega
      have hdr : l.drop m = l[m] :: l.drop (m + 1) := List.drop_eq_getElem_cons hml
      obtain ⟨x, hx⟩ : ∃ x, l[m] = x := ⟨_, rfl⟩
      rw [hx] at hdr
      have hlt : m < s.size := by omega
      have hat := stx_at HS.out (show l[m]? = some x by rw [List.getElem?_eq_getElem hml, hx]) hlt
      have hsl : so.size ≤ 1000 := by rw [HSO.out, stx_size, incR_len, List.length_drop]; omega
      have HR := Lib.hid (show (incR (l.drop m)).1 = (x != c) :: (incR (l.drop (m + 1))).1 ∧ (incR (l.drop m)).2 = (c && x) by rw [hdr, ← HC.out]; exact ⟨rfl, rfl⟩)
      have HS2 := Lib.hid (show stx [x != c] ++ so = stx (incR (l.drop m)).1 by rw [HR.out.1, HSO.out, stx_append]; rfl)
      have HC2 := Lib.hid (show (incR (l.drop m)).2 = (c && x) from HR.out.2)
      have hmi : ((m + 1 : Nat) : Int) - 1 = (m : Int) := by omega
      have hmw : IntKind.i64.wrap ((m : Int) - 1) = (m : Int) - 1 := IntWalk.i64_in _ (by omega)
      have hm0 : (0 : Int) ≤ (m : Int) := by omega
      have hmle : m ≤ s.size := by omega
      clear h0 hdr hx hml HSO HC HR
      rw [hmi]
      clear hmi
      cases x <;> cases c
      all_goals
        have hat2 : s[m] = _ := hat
        simp only [chB] at hat2
        clear hat
        go_wp2
        go_round
        case rel => exact ⟨m, _, _, hmle, rfl, rfl, rfl, HS2.out, HC2.out⟩
        case measure => simp [intOf]

/-- does a begin with b -/
def begB (a b : List Bool) : Bool := decide (b.length ≤ a.length) && decide (a.take b.length = b)
theorem begB_iff {a b : List Bool} : begB a b = true ↔ ∃ t, a = b ++ t := by
  unfold begB
  rw [Bool.and_eq_true, decide_eq_true_eq, decide_eq_true_eq]
  constructor
  · rintro ⟨-, h⟩
    exact ⟨a.drop b.length, by conv => lhs; rw [← List.take_append_drop b.length a, h]⟩
  · rintro ⟨t, rfl⟩
    simp
set_option maxHeartbeats 1000000 in
theorem refbegins_any (s p : ByteArray) (a b : List Bool) (w : World) (hs : s = stx a) (hp : p = stx b) (ha : a.length ≤ 100000) (hb : b.length ≤ 100000) :
    Calls Try.prog 59 #[.string s, .string p] w fun e w' => e = .returned (.bool (begB a b)) ∧ w = w' := by
  have h1 : s.size = a.length := by rw [hs, stx_size]
  have h2 : p.size = b.length := by rw [hp, stx_size]
  have hz1 : s.size ≤ 100000 := by omega
  have hz2 : p.size ≤ 100000 := by omega
  have hX : s.extract 0 p.size = stx (a.take b.length) := by rw [hs, stx_extract, h2, List.drop_zero, Nat.sub_zero]
  obtain ⟨x, hx⟩ : ∃ x, stx (a.take b.length) = x := ⟨_, rfl⟩
  rw [hx] at hX
  have hxp : (x.toList = p.toList) ↔ a.take b.length = b := by
    rw [← hx, hp]
    unfold stx
    rw [str_toList, str_toList]
    exact ⟨txt_inj, fun h => by rw [h]⟩
  unfold begB
  by_cases hl : b.length ≤ a.length
  · have g1 : decide ((p.size : Int) ≤ (s.size : Int)) = true := decide_eq_true (by omega)
    have g1' : decide (p.size ≤ s.size) = true := decide_eq_true (by omega)
    have g2 : p.size ≤ s.size := by omega
    have g3 : (p.size : Int) ≤ (s.size : Int) := by omega
    rw [decide_eq_true hl, Bool.true_and]
    by_cases he : a.take b.length = b
    · rw [decide_eq_true he]
      have e2 : (x.toList == p.toList) = true := beq_iff_eq.2 (hxp.2 he)
      clear hs hp h1 h2 hx hxp hl he
      go_enter Try.func59, Try.ntmps59
      go_wp2
      go_ret
      exact ⟨rfl, rfl⟩
    · rw [decide_eq_false he]
      have e2 : (x.toList == p.toList) = false := beq_eq_false_iff_ne.2 (fun h => he (hxp.1 h))
      clear hs hp h1 h2 hx hxp hl he
      go_enter Try.func59, Try.ntmps59
      go_wp2
      go_ret
      exact ⟨rfl, rfl⟩
  · have g1 : decide ((p.size : Int) ≤ (s.size : Int)) = false := decide_eq_false (by omega)
    have g1' : decide (p.size ≤ s.size) = false := decide_eq_false (by omega)
    rw [decide_eq_false hl, Bool.false_and]
    clear hs hp h1 h2 hx hxp hl hX
    go_enter Try.func59, Try.ntmps59
    go_wp2
    go_ret
    exact ⟨rfl, rfl⟩
end Go.Proofs.Ytjpjdecbkekcfaa

/- Bits as lists of Bool: fields, numbers, bytes, padding. Plain Lean, no program. -/
import Derived.Test.YtjpjdecbkekcfaaBase
namespace Go.Proofs.Ytjpjdecbkekcfaa

/-- the n lowest bits of a number, the highest first -/
def fieldL (v : Nat) : Nat → List Bool
  | 0 => []
  | n + 1 => v.testBit n :: fieldL v n
/-- the number of bits -/
def numL (l : List Bool) : Nat := l.foldl (fun a b => 2 * a + b.toNat) 0

theorem fieldL_len (v n : Nat) : (fieldL v n).length = n := by
  induction n with
  | zero => rfl
  | succ n ih => simp [fieldL, ih]
theorem fieldL_div (v n : Nat) : fieldL v (n + 1) = fieldL (v / 2) n ++ [v.testBit 0] := by
  induction n with
  | zero => rfl
  | succ n ih =>
    rw [fieldL, ih, fieldL, List.cons_append]
    congr 1
    rw [Nat.testBit_succ]
theorem numL_nil : numL [] = 0 := rfl
theorem numL_snoc (l : List Bool) (b : Bool) : numL (l ++ [b]) = 2 * numL l + b.toNat := by
  unfold numL
  rw [List.foldl_append]
  rfl
theorem foldl_num (l : List Bool) (a : Nat) : l.foldl (fun a b => 2 * a + b.toNat) a = a * 2 ^ l.length + numL l := by
  induction l generalizing a with
  | nil => simp [numL]
  | cons b l ih =>
    have h2 := ih b.toNat
    unfold numL
    simp only [List.foldl_cons, List.length_cons]
    rw [ih, show 2 * 0 + b.toNat = b.toNat by omega, h2, Nat.pow_succ]
    rw [Nat.add_mul, Nat.mul_comm (2 ^ l.length) 2, ← Nat.mul_assoc, Nat.mul_comm a 2]
    omega
theorem numL_append (l m : List Bool) : numL (l ++ m) = numL l * 2 ^ m.length + numL m := by
  rw [← foldl_num m (numL l)]
  unfold numL
  rw [List.foldl_append]
theorem numL_cons (b : Bool) (l : List Bool) : numL (b :: l) = b.toNat * 2 ^ l.length + numL l := by
  have := numL_append [b] l
  simpa [numL] using this
theorem numL_lt (l : List Bool) : numL l < 2 ^ l.length := by
  induction l with
  | nil => simp [numL]
  | cons b l ih =>
    rw [numL_cons, List.length_cons, Nat.pow_succ]
    have : b.toNat ≤ 1 := by cases b <;> decide
    have : b.toNat * 2 ^ l.length ≤ 1 * 2 ^ l.length := Nat.mul_le_mul_right _ this
    omega
theorem numL_field (v n : Nat) : numL (fieldL v n) = v % 2 ^ n := by
  induction n generalizing v with
  | zero => simp [fieldL, numL, Nat.mod_one]
  | succ n ih =>
    rw [fieldL_div, numL_snoc, ih, Nat.testBit_zero]
    rw [Nat.pow_succ, Nat.mul_comm (2 ^ n) 2, Nat.mod_mul]
    have : (decide (v % 2 = 1)).toNat = v % 2 := by
      rcases Nat.mod_two_eq_zero_or_one v with h | h <;> rw [h] <;> rfl
    omega
theorem numL_field_of {v n : Nat} (h : v < 2 ^ n) : numL (fieldL v n) = v := by
  rw [numL_field, Nat.mod_eq_of_lt h]
theorem field_numL (l : List Bool) : fieldL (numL l) l.length = l := by
  have key : ∀ n (l : List Bool), l.length = n → fieldL (numL l) n = l := by
    intro n
    induction n with
    | zero => intro l h; rw [List.eq_nil_of_length_eq_zero h]; rfl
    | succ n ih =>
      intro l h
      have hne : l ≠ [] := by intro e; rw [e] at h; simp at h
      have hl := List.dropLast_concat_getLast hne
      have hd : l.dropLast.length = n := by simp [h]
      rw [← hl, numL_snoc, fieldL_div]
      have hb : (l.getLast hne).toNat ≤ 1 := by cases l.getLast hne <;> decide
      rw [show (2 * numL l.dropLast + (l.getLast hne).toNat) / 2 = numL l.dropLast by omega, ih _ hd]
      congr 2
      rw [Nat.testBit_zero]
      cases l.getLast hne <;> simp <;> omega
  exact key _ l rfl
theorem field_inj {v w n : Nat} (hv : v < 2 ^ n) (hw : w < 2 ^ n) (h : fieldL v n = fieldL w n) : v = w := by
  rw [← numL_field_of hv, ← numL_field_of hw, h]
theorem fieldL_zero (n : Nat) : fieldL 0 n = List.replicate n false := by
  induction n with
  | zero => rfl
  | succ n ih => simp [fieldL, ih, List.replicate_succ]

/-- the bits of bytes -/
def bitsL (s : List UInt8) : List Bool := s.flatMap fun c => fieldL c.toNat 8
theorem bitsL_nil : bitsL [] = [] := rfl
theorem bitsL_append (s t : List UInt8) : bitsL (s ++ t) = bitsL s ++ bitsL t := by simp [bitsL]
theorem bitsL_cons (c : UInt8) (s : List UInt8) : bitsL (c :: s) = fieldL c.toNat 8 ++ bitsL s := by simp [bitsL]
theorem bitsL_len (s : List UInt8) : (bitsL s).length = 8 * s.length := by
  induction s with
  | nil => rfl
  | cons c s ih => rw [bitsL_cons, List.length_append, fieldL_len, ih, List.length_cons]; omega
theorem bitsL_take (s : List UInt8) (k : Nat) : (bitsL s).take (8 * k) = bitsL (s.take k) := by
  induction s generalizing k with
  | nil => simp [bitsL]
  | cons c s ih =>
    cases k with
    | zero => simp [bitsL]
    | succ k =>
      rw [List.take_succ_cons, bitsL_cons, bitsL_cons, List.take_append, fieldL_len, List.take_of_length_le (by rw [fieldL_len]; omega), show 8 * (k + 1) - 8 = 8 * k by omega, ih]
theorem bitsL_drop (s : List UInt8) (k : Nat) : (bitsL s).drop (8 * k) = bitsL (s.drop k) := by
  induction s generalizing k with
  | nil => simp [bitsL]
  | cons c s ih =>
    cases k with
    | zero => simp
    | succ k =>
      rw [List.drop_succ_cons, bitsL_cons, List.drop_append, fieldL_len, List.drop_of_length_le (by rw [fieldL_len]; omega), show 8 * (k + 1) - 8 = 8 * k by omega, ih, List.nil_append]
/-- the bit at a place -/
theorem bitsL_at {s : List UInt8} {i : Nat} {c : UInt8} (h : s[i / 8]? = some c) : (bitsL s)[i]? = some (c.toNat.testBit (7 - i % 8)) := by
  have e : i = 8 * (i / 8) + i % 8 := by omega
  have hd : (bitsL s)[i]? = ((bitsL s).drop (8 * (i / 8)))[i % 8]? := by
    rw [List.getElem?_drop, ← e]
  rw [hd, bitsL_drop]
  have hlt := (List.getElem?_eq_some_iff.1 h).1
  have hc := (List.getElem?_eq_some_iff.1 h).2
  rw [List.drop_eq_getElem_cons hlt, hc, bitsL_cons, List.getElem?_append_left (by rw [fieldL_len]; omega)]
  have h8 : i % 8 < 8 := Nat.mod_lt _ (by decide)
  generalize i % 8 = r at h8
  have : r = 0 ∨ r = 1 ∨ r = 2 ∨ r = 3 ∨ r = 4 ∨ r = 5 ∨ r = 6 ∨ r = 7 := by omega
  rcases this with h | h | h | h | h | h | h | h <;> subst h <;> rfl

/-- whole bytes of bits -/
def bytesL (l : List Bool) : List UInt8 := (List.range (l.length / 8)).map fun i => UInt8.ofNat (numL ((l.drop (8 * i)).take 8))
theorem bytesL_len (l : List Bool) : (bytesL l).length = l.length / 8 := by simp [bytesL]
theorem bytesL_short {l : List Bool} (h : l.length < 8) : bytesL l = [] := by
  unfold bytesL
  rw [show l.length / 8 = 0 by omega]
  rfl
theorem bytesL_step {l : List Bool} (h : 8 ≤ l.length) : bytesL l = UInt8.ofNat (numL (l.take 8)) :: bytesL (l.drop 8) := by
  unfold bytesL
  rw [show l.length / 8 = (l.drop 8).length / 8 + 1 by simp; omega, List.range_succ_eq_map, List.map_cons, List.map_map]
  congr 1
  apply List.map_congr_left
  intro i _
  simp only [Function.comp]
  rw [List.drop_drop, show 8 * Nat.succ i = 8 + 8 * i by omega]
theorem toNat_byte {l : List Bool} (h : l.length = 8) : (UInt8.ofNat (numL l)).toNat = numL l := by
  have := numL_lt l
  rw [h] at this
  exact UInt8.toNat_ofNat_of_lt this
theorem bitsL_bytesL (l : List Bool) : bitsL (bytesL l) = l.take (8 * (l.length / 8)) := by
  have key : ∀ n (l : List Bool), l.length ≤ n → bitsL (bytesL l) = l.take (8 * (l.length / 8)) := by
    intro n
    induction n with
    | zero => intro l h; rw [List.eq_nil_of_length_eq_zero (by omega : l.length = 0)]; rfl
    | succ n ih =>
      intro l h
      by_cases h8 : 8 ≤ l.length
      · have ht : (l.take 8).length = 8 := by simp; omega
        rw [bytesL_step h8, bitsL_cons, toNat_byte ht, ih (l.drop 8) (by simp; omega)]
        have := field_numL (l.take 8)
        rw [ht] at this
        rw [this, List.length_drop]
        have e : 8 * (l.length / 8) = 8 + 8 * ((l.length - 8) / 8) := by omega
        rw [e, List.take_add]
      · rw [bytesL_short (by omega), show l.length / 8 = 0 by omega]
        rfl
  exact key _ l (Nat.le_refl _)
theorem bytesL_append {l : List Bool} (h : l.length % 8 = 0) (m : List Bool) : bytesL (l ++ m) = bytesL l ++ bytesL m := by
  have key : ∀ n (l : List Bool), l.length ≤ n → l.length % 8 = 0 → bytesL (l ++ m) = bytesL l ++ bytesL m := by
    intro n
    induction n with
    | zero => intro l h _; rw [List.eq_nil_of_length_eq_zero (by omega : l.length = 0)]; rfl
    | succ n ih =>
      intro l h hm
      by_cases h8 : 8 ≤ l.length
      · rw [bytesL_step (l := l ++ m) (by simp; omega), bytesL_step h8, List.take_append_of_le_length h8, List.drop_append_of_le_length h8, ih (l.drop 8) (by simp; omega) (by simp; omega)]
        rfl
      · rw [List.eq_nil_of_length_eq_zero (by omega : l.length = 0)]
        rfl
  exact key _ l (Nat.le_refl _) h
theorem bytesL_bitsL (s : List UInt8) : bytesL (bitsL s) = s := by
  induction s with
  | nil => rfl
  | cons c s ih =>
    rw [bitsL_cons, bytesL_append (by rw [fieldL_len]), ih, bytesL_step (by rw [fieldL_len]; omega), List.take_of_length_le (by rw [fieldL_len]; omega), List.drop_of_length_le (by rw [fieldL_len]; omega), numL_field_of (by simpa using UInt8.toNat_lt c)]
    simp [bytesL]
/-- the bits behind the whole bytes -/
def tailL (l : List Bool) : List Bool := l.drop (8 * (l.length / 8))
theorem tailL_len (l : List Bool) : (tailL l).length = l.length % 8 := by simp [tailL]; omega
/-- the bits behind the whole bytes, as the highest ones of a byte -/
def restV (l : List Bool) : Nat := numL (tailL l) * 2 ^ (8 - l.length % 8)
theorem restV_lt (l : List Bool) : restV l < 256 := by
  unfold restV
  have h := numL_lt (tailL l)
  rw [tailL_len] at h
  have h8 : l.length % 8 < 8 := Nat.mod_lt _ (by decide)
  have h2 : numL (tailL l) * 2 ^ (8 - l.length % 8) < 2 ^ (l.length % 8) * 2 ^ (8 - l.length % 8) := Nat.mul_lt_mul_of_pos_right h (Nat.two_pow_pos _)
  rw [← Nat.pow_add, show l.length % 8 + (8 - l.length % 8) = 8 by omega] at h2
  exact h2
theorem tailL_snoc {l : List Bool} (b : Bool) (h : l.length % 8 ≠ 7) : tailL (l ++ [b]) = tailL l ++ [b] := by
  unfold tailL
  rw [List.length_append, List.length_singleton, show (l.length + 1) / 8 = l.length / 8 by omega, List.drop_append_of_le_length (by omega)]
theorem restV_snoc {l : List Bool} (b : Bool) (h : l.length % 8 ≠ 7) : restV (l ++ [b]) = restV l + b.toNat * 2 ^ (7 - l.length % 8) := by
  unfold restV
  rw [tailL_snoc b h, numL_snoc, List.length_append, List.length_singleton]
  have h8 : l.length % 8 < 8 := Nat.mod_lt _ (by decide)
  rw [show (l.length + 1) % 8 = l.length % 8 + 1 by omega, show 8 - (l.length % 8 + 1) = 7 - l.length % 8 by omega, show 8 - l.length % 8 = (7 - l.length % 8) + 1 by omega, Nat.pow_succ, Nat.add_mul]
  rw [Nat.mul_comm (2 ^ _) 2, ← Nat.mul_assoc, Nat.mul_comm (numL _) 2]
theorem restV_full {l : List Bool} (b : Bool) (h : l.length % 8 = 7) : restV (l ++ [b]) = 0 := by
  unfold restV tailL
  rw [List.length_append, List.length_singleton, List.drop_of_length_le (by simp; omega)]
  simp [numL]
theorem restV_even {l : List Bool} (h : l.length % 8 = 0) : restV l = 0 := by
  unfold restV tailL
  rw [List.drop_of_length_le (by omega)]
  simp [numL]
theorem restV_mod (l : List Bool) : restV l % 2 ^ (8 - l.length % 8) = 0 := Nat.mul_mod_left _ _
theorem bytesL_same {l : List Bool} (b : Bool) (h : l.length % 8 ≠ 7) : bytesL (l ++ [b]) = bytesL l := by
  unfold bytesL
  rw [List.length_append, List.length_singleton, show (l.length + 1) / 8 = l.length / 8 by omega]
  apply List.map_congr_left
  intro i hi
  have := List.mem_range.1 hi
  rw [List.drop_append_of_le_length (by omega), List.take_append_of_le_length (by simp; omega)]
theorem bytesL_full {l : List Bool} (b : Bool) (h : l.length % 8 = 7) : bytesL (l ++ [b]) = bytesL l ++ [UInt8.ofNat (restV l + b.toNat)] := by
  have hsp : l = l.take (8 * (l.length / 8)) ++ tailL l := (List.take_append_drop _ _).symm
  have hl1 : (l.take (8 * (l.length / 8))).length = 8 * (l.length / 8) := by simp; omega
  have ht := tailL_len l
  have e1 : bytesL (l ++ [b]) = bytesL (l.take (8 * (l.length / 8))) ++ bytesL (tailL l ++ [b]) := by
    conv => lhs; rw [hsp, List.append_assoc]
    exact bytesL_append (by rw [hl1]; omega) _
  have e2 : bytesL l = bytesL (l.take (8 * (l.length / 8))) := by
    conv => lhs; rw [hsp]
    rw [bytesL_append (by rw [hl1]; omega), bytesL_short (l := tailL l) (by omega), List.append_nil]
  rw [e1, e2]
  congr 1
  rw [bytesL_step (by simp; omega), List.take_of_length_le (by simp; omega), List.drop_of_length_le (by simp; omega), numL_snoc]
  have : restV l = 2 * numL (tailL l) := by unfold restV; rw [h]; omega
  rw [this]
  rfl
/-- bits, with bits 0 up to a whole byte -/
def padL (l : List Bool) : List Bool := l ++ List.replicate ((8 - l.length % 8) % 8) false
theorem padL_even {l : List Bool} (h : l.length % 8 = 0) : padL l = l := by unfold padL; rw [h]; simp
theorem padL_step {l : List Bool} (h : l.length % 8 ≠ 0) : padL (l ++ [false]) = padL l := by
  unfold padL
  rw [List.append_assoc, List.length_append, List.length_singleton]
  congr 1
  rw [show (8 - l.length % 8) % 8 = (8 - (l.length + 1) % 8) % 8 + 1 by omega, List.replicate_succ]
  rfl
theorem padL_len (l : List Bool) : (padL l).length = 8 * ((l.length + 7) / 8) := by unfold padL; simp; omega
theorem padL_pre (l : List Bool) : ∃ m, padL l = l ++ m ∧ m.length < 8 := ⟨_, rfl, by simp; omega⟩
theorem bitsL_pack (l : List Bool) : bitsL (bytesL (padL l)) = padL l := by
  rw [bitsL_bytesL, List.take_of_length_le]
  have := padL_len l
  omega
theorem bytesL_take {l : List Bool} {k : Nat} (h : 8 * k ≤ l.length) : bytesL (l.take (8 * k)) = (bytesL l).take k := by
  have h1 : (l.take (8 * k)).length = 8 * k := by simp; omega
  have e : bytesL (l.take (8 * k) ++ l.drop (8 * k)) = bytesL (l.take (8 * k)) ++ bytesL (l.drop (8 * k)) := bytesL_append (by rw [h1]; omega) _
  rw [List.take_append_drop] at e
  have h2 : (bytesL (l.take (8 * k))).length = k := by rw [bytesL_len, h1]; omega
  rw [e, List.take_append_of_le_length (by omega)]
  exact (List.take_of_length_le (by omega)).symm

/-- bits as a text of 0 and 1 -/
def chB (b : Bool) : UInt8 := if b then 49 else 48
def txt (l : List Bool) : List UInt8 := l.map chB
theorem txt_len (l : List Bool) : (txt l).length = l.length := by simp [txt]
theorem txt_append (l m : List Bool) : txt (l ++ m) = txt l ++ txt m := by simp [txt]
theorem txt_inj {l m : List Bool} (h : txt l = txt m) : l = m := by
  have hi : Function.Injective chB := by intro a b; cases a <;> cases b <;> simp [chB]
  exact (List.map_inj_right (fun a b => @hi a b)).1 h
end Go.Proofs.Ytjpjdecbkekcfaa

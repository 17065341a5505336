/- Package used: rows of symbols, plain. -/
import Derived.Test.YtoebnibhkdidhaaBitL
namespace Go.Proofs.Ytoebnibhkdidhaa

/-- does a text have a byte -/
def thereL (s : List UInt8) (b : Nat) : Bool := s.any fun c => c.toNat == b
/-- the bytes that are there, in order -/
def numsL (f : Nat → Bool) (n : Nat) : List Nat := (List.range n).filter f
def symL (f : Nat → Bool) : List UInt8 := (numsL f 256).map UInt8.ofNat
/-- a row of symbols -/
def upL : List UInt8 → Bool
  | a :: b :: l => decide (a.toNat < b.toNat) && upL (b :: l)
  | _ => true
def isL (s : List UInt8) : Bool := !s.isEmpty && upL s

theorem numsL_succ (f : Nat → Bool) (n : Nat) : numsL f (n + 1) = numsL f n ++ (if f n then [n] else []) := by
  unfold numsL
  rw [List.range_succ, List.filter_append]
  cases h : f n <;> simp [h]
theorem numsL_lt {f : Nat → Bool} {n x : Nat} (h : x ∈ numsL f n) : x < n ∧ f x = true := by
  unfold numsL at h
  have := List.mem_filter.1 h
  exact ⟨List.mem_range.1 this.1, this.2⟩
theorem numsL_mem {f : Nat → Bool} {n x : Nat} (h : x < n) (hf : f x = true) : x ∈ numsL f n := List.mem_filter.2 ⟨List.mem_range.2 h, hf⟩
theorem numsL_sorted (f : Nat → Bool) (n : Nat) : (numsL f n).Pairwise (· < ·) := List.Pairwise.filter _ List.pairwise_lt_range
/-- two rows in order with the same members are one -/
theorem sorted_ext {l m : List Nat} (hl : l.Pairwise (· < ·)) (hm : m.Pairwise (· < ·)) (h : ∀ x, x ∈ l ↔ x ∈ m) : l = m := by
  induction l generalizing m with
  | nil =>
    cases m with
    | nil => rfl
    | cons b m => exact absurd ((h b).2 (by simp)) (by simp)
  | cons a l ih =>
    cases m with
    | nil => exact absurd ((h a).1 (by simp)) (by simp)
    | cons b m =>
      rw [List.pairwise_cons] at hl hm
      have hab : a = b := by
        rcases List.mem_cons.1 ((h a).1 (by simp)) with e | e
        · exact e
        · rcases List.mem_cons.1 ((h b).2 (by simp)) with e2 | e2
          · exact e2.symm
          · have := hm.1 a e; have := hl.1 b e2; omega
      subst hab
      rw [ih hl.2 hm.2 (fun x => ?_)]
      have hx := h x
      rw [List.mem_cons, List.mem_cons] at hx
      constructor
      · intro hxl
        rcases hx.1 (.inr hxl) with e | e
        · subst e; exact absurd (hl.1 x hxl) (by omega)
        · exact e
      · intro hxm
        rcases hx.2 (.inr hxm) with e | e
        · subst e; exact absurd (hm.1 x hxm) (by omega)
        · exact e
theorem upL_sorted {s : List UInt8} : upL s = true ↔ (s.map UInt8.toNat).Pairwise (· < ·) := by
  induction s with
  | nil => simp [upL]
  | cons a s ih =>
    cases s with
    | nil => simp [upL]
    | cons b s =>
      rw [upL, Bool.and_eq_true, ih, decide_eq_true_iff, show (a :: b :: s).map UInt8.toNat = a.toNat :: (b :: s).map UInt8.toNat from rfl, List.pairwise_cons (a := a.toNat)]
      constructor
      · rintro ⟨h1, h2⟩
        refine ⟨fun x hx => ?_, h2⟩
        rw [List.map_cons] at hx
        rcases List.mem_cons.1 hx with e | e
        · omega
        · rw [List.map_cons, List.pairwise_cons] at h2
          have := h2.1 x e; omega
      · rintro ⟨h1, h2⟩
        exact ⟨h1 _ (by simp), h2⟩
theorem ofNat_toNat {n : Nat} (h : n < 256) : (UInt8.ofNat n).toNat = n := UInt8.toNat_ofNat_of_lt (by simpa using h)
theorem symL_nums (f : Nat → Bool) : (symL f).map UInt8.toNat = numsL f 256 := by
  unfold symL
  rw [List.map_map]
  have : ∀ x ∈ numsL f 256, (UInt8.toNat ∘ UInt8.ofNat) x = x := fun x hx => ofNat_toNat (numsL_lt hx).1
  exact (List.map_congr_left this).trans (by simp)
theorem toNat_inj_list {l m : List UInt8} (h : l.map UInt8.toNat = m.map UInt8.toNat) : l = m :=
  (List.map_inj_right (fun _ _ => UInt8.toNat_inj.1)).1 h
theorem thereL_mem {s : List UInt8} {b : Nat} : thereL s b = true ↔ b ∈ s.map UInt8.toNat := by
  unfold thereL
  simp [List.any_eq_true]
theorem thereL_lt {s : List UInt8} {b : Nat} (h : thereL s b = true) : b < 256 := by
  rw [thereL_mem] at h
  obtain ⟨c, _, rfl⟩ := List.mem_map.1 h
  exact UInt8.toNat_lt c
theorem symL_up (f : Nat → Bool) : upL (symL f) = true := by
  rw [upL_sorted, symL_nums]
  exact numsL_sorted f 256
theorem symL_of_up {s : List UInt8} (h : upL s = true) : symL (thereL s) = s := by
  apply toNat_inj_list
  rw [symL_nums]
  refine sorted_ext (numsL_sorted _ _) (upL_sorted.1 h) fun x => ?_
  rw [← thereL_mem]
  exact ⟨fun hx => (numsL_lt hx).2, fun hx => numsL_mem (thereL_lt hx) hx⟩
theorem isL_iff (s : List UInt8) : isL s = (decide (0 < s.length) && decide (symL (thereL s) = s)) := by
  unfold isL
  rw [Bool.eq_iff_iff]
  simp only [Bool.and_eq_true, decide_eq_true_eq, Bool.not_eq_true', List.isEmpty_eq_false_iff]
  constructor
  · rintro ⟨h1, h2⟩
    exact ⟨List.length_pos_iff.2 h1, symL_of_up h2⟩
  · rintro ⟨h1, h2⟩
    exact ⟨List.length_pos_iff.1 h1, by rw [← h2]; exact symL_up _⟩
theorem thereL_symL {f : Nat → Bool} {b : Nat} (h : b < 256) : thereL (symL f) b = f b := by
  rw [Bool.eq_iff_iff, thereL_mem, symL_nums]
  exact ⟨fun hx => (numsL_lt hx).2, fun hx => numsL_mem h hx⟩
theorem symL_congr {f g : Nat → Bool} (h : ∀ b, b < 256 → f b = g b) : symL f = symL g := by
  unfold symL numsL
  congr 1
  exact List.filter_congr fun x hx => h x (List.mem_range.1 hx)
theorem symL_thereL_symL (f : Nat → Bool) : symL (thereL (symL f)) = symL f := symL_congr fun _ h => thereL_symL h
theorem thereL_take {s : List UInt8} {k : Nat} {c : UInt8} (h : s[k]? = some c) (b : Nat) : thereL (s.take (k + 1)) b = (thereL (s.take k) b || (c.toNat == b)) := by
  unfold thereL
  have : s.take (k + 1) = s.take k ++ [c] := by rw [List.take_add_one, h]; rfl
  rw [this]
  simp
theorem symL_nil_iff (s : List UInt8) : symL (thereL s) = [] ↔ s = [] := by
  constructor
  · intro h
    cases s with
    | nil => rfl
    | cons c s =>
      have h1 : thereL (symL (thereL (c :: s))) c.toNat = true := by
        rw [thereL_symL (UInt8.toNat_lt c)]
        simp [thereL]
      rw [h] at h1
      simp [thereL] at h1
  · intro h; subst h; rfl

/-- the bits of a row of sixteen -/
def rowL (f : Nat → Bool) (i : Nat) : List Bool := (List.range 16).map fun k => f (16 * i + k)
def rowV (f : Nat → Bool) (i : Nat) : Nat := numL (rowL f i)
theorem rowL_len (f : Nat → Bool) (i : Nat) : (rowL f i).length = 16 := by simp [rowL]
theorem rowV_lt (f : Nat → Bool) (i : Nat) : rowV f i < 65536 := by
  have := numL_lt (rowL f i)
  rw [rowL_len] at this
  exact this
theorem rowV_field (f : Nat → Bool) (i : Nat) : fieldL (rowV f i) 16 = rowL f i := by
  have := field_numL (rowL f i)
  rw [rowL_len] at this
  exact this
theorem fieldL_map (v n : Nat) : fieldL v n = (List.range n).map fun k => v.testBit (n - 1 - k) := by
  induction n with
  | zero => rfl
  | succ n ih =>
    rw [fieldL, ih, List.range_succ_eq_map, List.map_cons, List.map_map]
    congr 1
    apply List.map_congr_left
    intro k _
    simp only [Function.comp]
    congr 1
    omega
theorem rowV_bit (f : Nat → Bool) (i k : Nat) (h : k < 16) : (rowV f i).testBit (15 - k) = f (16 * i + k) := by
  have h1 := rowV_field f i
  rw [fieldL_map] at h1
  have h2 := congrArg (fun l => l[k]?) h1
  simp only [rowL] at h2
  rw [List.getElem?_map, List.getElem?_map, List.getElem?_range h] at h2
  simpa using h2
/-- a row is known by its bits -/
theorem rowV_eq {f : Nat → Bool} {i r : Nat} (hr : r < 65536) (h : ∀ k, k < 16 → r.testBit (15 - k) = f (16 * i + k)) : r = rowV f i := by
  have h1 : fieldL r 16 = fieldL (rowV f i) 16 := by
    rw [fieldL_map, fieldL_map]
    apply List.map_congr_left
    intro k hk
    have hk := List.mem_range.1 hk
    rw [show 16 - 1 - k = 15 - k by omega, h k hk, rowV_bit f i k hk]
  exact field_inj (n := 16) hr (rowV_lt f i) h1
theorem rowV_or (f : Nat → Bool) (i k : Nat) (hk : k < 16) : rowV f i ||| 2 ^ (15 - k) = rowV (fun b => f b || (b == 16 * i + k)) i := by
  refine rowV_eq ?_ fun m hm => ?_
  · exact Nat.or_lt_two_pow (n := 16) (rowV_lt f i) (Nat.pow_lt_pow_right (by decide) (by omega))
  · rw [Nat.testBit_or, rowV_bit f i m hm, Nat.testBit_two_pow]
    congr 1
    rw [Bool.eq_iff_iff]
    simp
    omega
theorem rowV_same (f g : Nat → Bool) (i : Nat) (h : ∀ k, k < 16 → f (16 * i + k) = g (16 * i + k)) : rowV f i = rowV g i := by
  unfold rowV rowL
  congr 1
  exact List.map_congr_left fun k hk => h k (List.mem_range.1 hk)
/-- is there something in a row -/
def someR (f : Nat → Bool) (i : Nat) : Bool := (rowL f i).any id
theorem rowV_zero (f : Nat → Bool) (i : Nat) : (rowV f i = 0) ↔ someR f i = false := by
  unfold someR
  rw [List.any_eq_false]
  constructor
  · intro h x hx
    obtain ⟨k, hk, rfl⟩ := List.mem_map.1 hx
    have hk := List.mem_range.1 hk
    have := rowV_bit f i k hk
    rw [h, Nat.zero_testBit] at this
    simp [← this]
  · intro h
    have e : rowL f i = List.replicate 16 false := by
      refine List.eq_replicate_iff.2 ⟨rowL_len f i, fun x hx => ?_⟩
      have := h x hx
      simpa using this
    unfold rowV
    rw [e]
    decide
/-- the bits of a row of symbols -/
def whichL (f : Nat → Bool) : List Bool := (List.range 16).map (someR f)
def restL (f : Nat → Bool) (I : List Nat) : List Bool := I.flatMap fun i => if someR f i then rowL f i else []
def usedBits (f : Nat → Bool) : List Bool := whichL f ++ restL f (List.range 16)

/-- the numbers of the bits of a row that are 1, from a place on -/
def marksFrom (r : List Bool) (i : Nat) : List Nat := (List.range' i (16 - i)).filter fun k => r.getD k false
def marksL (r : List Bool) : List Nat := numsL (fun k => r.getD k false) 16
theorem marksFrom_zero (r : List Bool) : marksFrom r 0 = marksL r := by
  unfold marksFrom marksL numsL
  rw [List.range_eq_range']
theorem marksFrom_step {r : List Bool} {i : Nat} (h : i < 16) : marksFrom r i = (if r.getD i false then [i] else []) ++ marksFrom r (i + 1) := by
  unfold marksFrom
  rw [show 16 - i = (16 - (i + 1)) + 1 by omega, List.range'_succ, List.filter_cons]
  cases r.getD i false <;> simp
theorem marksFrom_end (r : List Bool) : marksFrom r 16 = [] := rfl
theorem numL_bit {l : List Bool} (h : l.length = 16) {k : Nat} (hk : k < 16) : (numL l).testBit (15 - k) = l.getD k false := by
  have h1 := field_numL l
  rw [h, fieldL_map] at h1
  have h2 := congrArg (fun l => l[k]?) h1
  rw [List.getElem?_map, List.getElem?_range hk] at h2
  rw [List.getD_eq_getElem?_getD, ← h2]
  rfl

def rowOut (all : List Bool) (n i : Nat) : List Nat := (marksL ((all.drop n).take 16)).map (16 * i + ·)
def rowsGo (all : List Bool) : List Nat → Nat → List Nat → Option (Nat × List Nat)
  | [], n, out => some (n, out)
  | i :: I, n, out => if all.length < n + 16 then none else rowsGo all I (n + 16) (out ++ rowOut all n i)
/-- reading, by definition: symbols, how many bits, an error -/
def refRead (all : List Bool) : List UInt8 × Nat × Int :=
  if all.length < 16 then ([], 0, 3) else
  match rowsGo all (marksL (all.take 16)) 16 [] with
  | none => ([], 0, 3)
  | some (n, out) => if out = [] then ([], 0, 25) else (out.map UInt8.ofNat, n, 0)

theorem marksL_lt {r : List Bool} {x : Nat} (h : x ∈ marksL r) : x < 16 := (numsL_lt h).1
theorem rowOut_bd {all : List Bool} {n i x : Nat} (h : x ∈ rowOut all n i) : 16 * i ≤ x ∧ x < 16 * i + 16 := by
  unfold rowOut at h
  obtain ⟨k, hk, rfl⟩ := List.mem_map.1 h
  have := marksL_lt hk
  omega
theorem rowOut_sorted (all : List Bool) (n i : Nat) : (rowOut all n i).Pairwise (· < ·) := by
  unfold rowOut
  rw [List.pairwise_map]
  exact (numsL_sorted _ 16).imp fun h => by omega
theorem rowsGo_sorted {all : List Bool} {I : List Nat} {n n' : Nat} {out out' : List Nat} (h : rowsGo all I n out = some (n', out')) (hI : I.Pairwise (· < ·)) (h16 : ∀ i ∈ I, i < 16)
    (ho : out.Pairwise (· < ·)) (hb : ∀ x ∈ out, x < 256 ∧ ∀ i ∈ I, x < 16 * i) : out'.Pairwise (· < ·) ∧ ∀ x ∈ out', x < 256 := by
  induction I generalizing n out with
  | nil =>
    simp only [rowsGo, Option.some.injEq, Prod.mk.injEq] at h
    obtain ⟨_, rfl⟩ := h
    exact ⟨ho, fun x hx => (hb x hx).1⟩
  | cons i I ih =>
    rw [rowsGo] at h
    split at h
    · cases h
    · rw [List.pairwise_cons] at hI
      have hi := h16 i (by simp)
      refine ih h hI.2 (fun j hj => h16 j (by simp [hj])) ?_ ?_
      · rw [List.pairwise_append]
        refine ⟨ho, rowOut_sorted _ _ _, fun x hx y hy => ?_⟩
        have := (hb x hx).2 i (by simp)
        have := (rowOut_bd hy).1
        omega
      · intro x hx
        rcases List.mem_append.1 hx with hx | hx
        · exact ⟨(hb x hx).1, fun j hj => (hb x hx).2 j (by simp [hj])⟩
        · have := rowOut_bd hx
          exact ⟨by omega, fun j hj => by have := hI.1 j hj; omega⟩
theorem marksL_sorted (r : List Bool) : (marksL r).Pairwise (· < ·) := numsL_sorted _ _
/-- what was there, as a row -/
def inL (out : List Nat) (b : Nat) : Bool := decide (b ∈ out)
theorem symL_inL {out : List Nat} (h : out.Pairwise (· < ·)) (hb : ∀ x ∈ out, x < 256) : symL (inL out) = out.map UInt8.ofNat := by
  unfold symL
  congr 1
  refine sorted_ext (numsL_sorted _ _) h fun x => ?_
  constructor
  · intro hx; have := (numsL_lt hx).2; unfold inL at this; simpa using this
  · intro hx; exact numsL_mem (hb x hx) (by unfold inL; simpa using hx)
theorem refRead_some {all : List Bool} {n : Nat} {out : List Nat} (hl : ¬ all.length < 16) (h : rowsGo all (marksL (all.take 16)) 16 [] = some (n, out)) :
    symL (inL out) = out.map UInt8.ofNat ∧ refRead all = if out = [] then ([], 0, 25) else (out.map UInt8.ofNat, n, 0) := by
  obtain ⟨h1, h2⟩ := rowsGo_sorted h (marksL_sorted _) (fun i hi => marksL_lt hi) (by simp) (fun x hx => by simp at hx)
  refine ⟨symL_inL h1 h2, ?_⟩
  unfold refRead
  rw [if_neg hl, h]
theorem refRead_none {all : List Bool} (h : rowsGo all (marksL (all.take 16)) 16 [] = none) : refRead all = ([], 0, 3) := by
  unfold refRead
  rw [h]
  split <;> rfl
theorem refRead_short {all : List Bool} (h : all.length < 16) : refRead all = ([], 0, 3) := by
  unfold refRead
  rw [if_pos h]
theorem map_ofNat_nil {out : List Nat} : out.map UInt8.ofNat = [] ↔ out = [] := by cases out <;> simp

/-- rows that were written are read -/
theorem rowsGo_written (f : Nat → Bool) {all : List Bool} {I : List Nat} {pre post : List Bool} {n : Nat} {out : List Nat} (ha : all = pre ++ (I.flatMap (rowL f) ++ post)) (hp : pre.length = n) :
    rowsGo all I n out = some (n + 16 * I.length, out ++ I.flatMap fun i => (numsL (fun k => f (16 * i + k)) 16).map (16 * i + ·)) := by
  induction I generalizing pre n out with
  | nil => simp [rowsGo]
  | cons i I ih =>
    have hlen : ¬ all.length < n + 16 := by
      rw [ha, List.length_append, List.flatMap_cons, List.length_append, List.length_append, rowL_len]
      omega
    have hrow : (all.drop n).take 16 = rowL f i := by
      rw [ha, List.drop_append_of_le_length (by omega), List.drop_of_length_le (by omega), List.nil_append, List.flatMap_cons, List.append_assoc, List.take_append_of_le_length (by rw [rowL_len]; omega), List.take_of_length_le (by rw [rowL_len]; omega)]
    have hro : rowOut all n i = (numsL (fun k => f (16 * i + k)) 16).map (16 * i + ·) := by
      unfold rowOut
      rw [hrow]
      unfold marksL numsL
      congr 1
    rw [rowsGo, if_neg hlen, hro, ih (pre := pre ++ rowL f i) (by rw [ha, List.flatMap_cons]; simp) (by rw [List.length_append, rowL_len, hp])]
    simp
    try omega
theorem restL_filter (f : Nat → Bool) (I : List Nat) : restL f I = (I.filter (someR f)).flatMap (rowL f) := by
  unfold restL
  induction I with
  | nil => rfl
  | cons i I ih =>
    rw [List.flatMap_cons, ih, List.filter_cons]
    cases h : someR f i <;> simp
theorem whichL_len (f : Nat → Bool) : (whichL f).length = 16 := by simp [whichL]
theorem marks_which (f : Nat → Bool) : marksL (whichL f) = (List.range 16).filter (someR f) := by
  unfold marksL numsL
  apply List.filter_congr
  intro k hk
  have hk := List.mem_range.1 hk
  unfold whichL
  rw [List.getD_eq_getElem?_getD, List.getElem?_map, List.getElem?_range hk]
  rfl
theorem usedBits_len (f : Nat → Bool) : (usedBits f).length = 16 + 16 * ((List.range 16).filter (someR f)).length := by
  unfold usedBits
  rw [List.length_append, whichL_len, restL_filter]
  congr 1
  induction (List.range 16).filter (someR f) with
  | nil => rfl
  | cons i I ih => rw [List.flatMap_cons, List.length_append, rowL_len, ih, List.length_cons]; omega
theorem used_read (f : Nat → Bool) (post : List Bool) (hne : symL f ≠ []) : refRead (usedBits f ++ post) = (symL f, (usedBits f).length, 0) := by
  have hl : ¬ (usedBits f ++ post).length < 16 := by rw [List.length_append, usedBits_len]; omega
  have hw : (usedBits f ++ post).take 16 = whichL f := by
    unfold usedBits
    rw [List.append_assoc, List.take_append_of_le_length (by rw [whichL_len]; omega), List.take_of_length_le (by rw [whichL_len]; omega)]
  have hg := rowsGo_written f (all := usedBits f ++ post) (I := (List.range 16).filter (someR f)) (pre := whichL f) (post := post) (n := 16) (out := []) (by
    unfold usedBits
    rw [restL_filter, List.append_assoc]) (whichL_len f)
  rw [List.nil_append] at hg
  rw [← usedBits_len] at hg
  obtain ⟨h1, h2⟩ := refRead_some hl (by rw [hw, marks_which]; exact hg)
  have hout : symL (inL (((List.range 16).filter (someR f)).flatMap fun i => (numsL (fun k => f (16 * i + k)) 16).map (16 * i + ·))) = symL f := by
    refine symL_congr fun b hb => ?_
    unfold inL
    rw [Bool.eq_iff_iff, decide_eq_true_eq, List.mem_flatMap]
    constructor
    · rintro ⟨i, _, hx⟩
      obtain ⟨k, hk, rfl⟩ := List.mem_map.1 hx
      exact (numsL_lt hk).2
    · intro hf
      refine ⟨b / 16, ?_, ?_⟩
      · refine List.mem_filter.2 ⟨List.mem_range.2 (by omega), ?_⟩
        unfold someR rowL
        rw [List.any_eq_true]
        exact ⟨true, List.mem_map.2 ⟨b % 16, List.mem_range.2 (by omega), by rw [show 16 * (b / 16) + b % 16 = b by omega]; exact hf⟩, rfl⟩
      · exact List.mem_map.2 ⟨b % 16, numsL_mem (by omega) (by rw [show 16 * (b / 16) + b % 16 = b by omega]; exact hf), by omega⟩
  rw [h1] at hout
  rw [h2, if_neg, hout]
  intro e
  rw [e] at hout
  exact hne hout.symm
end Go.Proofs.Ytoebnibhkdidhaa

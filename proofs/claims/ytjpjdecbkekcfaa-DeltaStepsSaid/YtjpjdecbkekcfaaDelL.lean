/- Package delta: lengths by how much they differ, plain; no program is named here. -/
import Derived.Test.YtjpjdecbkekcfaaBitL
namespace Go.Proofs.Ytjpjdecbkekcfaa
open Go.RowKit

def okD (n : Int) : Bool := decide (1 ≤ n) && decide (n ≤ 20)
def sizD (n : Int) : Bool := decide (3 ≤ n) && decide (n ≤ 258)
def mayD (l : List Int) : Bool := sizD l.length && l.all okD
theorem okD_iff {n : Int} : okD n = true ↔ 1 ≤ n ∧ n ≤ 20 := by simp [okD]
theorem sizD_iff {n : Int} : sizD n = true ↔ 3 ≤ n ∧ n ≤ 258 := by simp [sizD]
theorem mayD_iff {l : List Int} : mayD l = true ↔ (3 ≤ l.length ∧ l.length ≤ 258) ∧ ∀ x ∈ l, 1 ≤ x ∧ x ≤ 20 := by
  unfold mayD
  rw [Bool.and_eq_true, sizD_iff, List.all_eq_true]
  constructor
  · rintro ⟨h1, h2⟩
    exact ⟨by omega, fun x hx => okD_iff.1 (h2 x hx)⟩
  · rintro ⟨h1, h2⟩
    exact ⟨by omega, fun x hx => okD_iff.2 (h2 x hx)⟩

def upD (k : Nat) : List Bool := (List.replicate k [true, false]).flatten
def dnD (k : Nat) : List Bool := (List.replicate k [true, true]).flatten
theorem upD_snoc (k : Nat) : upD (k + 1) = upD k ++ [true, false] := by unfold upD; rw [List.replicate_succ', List.flatten_append]; rfl
theorem dnD_snoc (k : Nat) : dnD (k + 1) = dnD k ++ [true, true] := by unfold dnD; rw [List.replicate_succ', List.flatten_append]; rfl
theorem upD_cons (k : Nat) : upD (k + 1) = true :: false :: upD k := by unfold upD; rw [List.replicate_succ, List.flatten_cons]; rfl
theorem dnD_cons (k : Nat) : dnD (k + 1) = true :: true :: dnD k := by unfold dnD; rw [List.replicate_succ, List.flatten_cons]; rfl
theorem upD_len (k : Nat) : (upD k).length = 2 * k := by
  induction k with
  | zero => rfl
  | succ k ih => rw [upD_snoc, List.length_append, ih]; show 2 * k + 2 = _; omega
theorem dnD_len (k : Nat) : (dnD k).length = 2 * k := by
  induction k with
  | zero => rfl
  | succ k ih => rw [dnD_snoc, List.length_append, ih]; show 2 * k + 2 = _; omega
def oneD (now n : Int) : List Bool := upD (n - now).toNat ++ (dnD (now - n).toNat ++ [false])
theorem oneD_len {a n : Int} (h1 : 1 ≤ a ∧ a ≤ 20) (h2 : 1 ≤ n ∧ n ≤ 20) : 1 ≤ (oneD a n).length ∧ (oneD a n).length ≤ 39 := by
  unfold oneD
  rw [List.length_append, List.length_append, upD_len, dnD_len]
  simp
  omega
def runD : Int → List Int → List Bool
  | _, [] => []
  | a, n :: l => oneD a n ++ runD n l
theorem runD_snoc (l : List Int) (a x : Int) : runD a (l ++ [x]) = runD a l ++ oneD (l.getLastD a) x := by
  induction l generalizing a with
  | nil => simp [runD]
  | cons y l ih =>
    rw [List.cons_append, runD, runD, ih, List.append_assoc]
    congr 2
    cases l <;> simp [List.getLastD]
theorem runD_len {l : List Int} {a : Int} (ha : 1 ≤ a ∧ a ≤ 20) (h : ∀ x ∈ l, 1 ≤ x ∧ x ≤ 20) : l.length ≤ (runD a l).length ∧ (runD a l).length ≤ 39 * l.length := by
  induction l generalizing a with
  | nil => exact ⟨Nat.le_refl _, Nat.zero_le _⟩
  | cons y l ih =>
    have h0 := h y (by simp)
    have h1 := oneD_len ha h0
    have h2 := ih h0 (fun x hx => h x (by simp [hx]))
    rw [runD, List.length_append, List.length_cons]
    omega
def bitsD (l : List Int) : List Bool := fieldL (l.headD 0).toNat 5 ++ runD (l.headD 0) l
theorem headD_ok {l : List Int} (h : mayD l = true) : 1 ≤ l.headD 0 ∧ l.headD 0 ≤ 20 := by
  obtain ⟨h1, h2⟩ := mayD_iff.1 h
  cases l with
  | nil => simp at h1
  | cons y l => exact h2 y (by simp)
theorem bitsD_len {l : List Int} (h : mayD l = true) : l.length + 5 ≤ (bitsD l).length ∧ (bitsD l).length ≤ 5 + 39 * l.length := by
  have := runD_len (headD_ok h) (mayD_iff.1 h).2
  unfold bitsD
  rw [List.length_append, fieldL_len]
  omega

/-- reading on from a length that was told -/
def loopD (size : Nat) : Int → List Int → Nat → List Bool → List Int × Nat × Int
  | _, l, a, [] => if l.length < size then ([], 0, 3) else (l, a, 0)
  | now, l, a, false :: r => if l.length < size then loopD size now (l ++ [now]) (a + 1) r else (l, a, 0)
  | _, l, a, [true] => if l.length < size then ([], 0, 3) else (l, a, 0)
  | now, l, a, true :: b :: r => if l.length < size then (if okD (now + 1 - 2 * (b.toNat : Int)) then loopD size (now + 1 - 2 * (b.toNat : Int)) l (a + 2) r else ([], 0, 22)) else (l, a, 0)
/-- reading, the first length not told yet (0) or told -/
def goD (size : Nat) (now : Int) (l : List Int) (a : Nat) (r : List Bool) : List Int × Nat × Int :=
  if now = 0 then (if r.length < 5 then ([], 0, 3) else if okD ((numL (r.take 5) : Nat) : Int) then loopD size ((numL (r.take 5) : Nat) : Int) l (a + 5) (r.drop 5) else ([], 0, 22))
  else loopD size now l a r
def refD (size : Nat) (all : List Bool) : List Int × Nat × Int := goD size 0 [] 0 all
theorem loopD_done {size : Nat} {now : Int} {l : List Int} {a : Nat} (r : List Bool) (h : ¬ l.length < size) : loopD size now l a r = (l, a, 0) := by
  unfold loopD
  split <;> rw [if_neg h]
theorem goD_done {size : Nat} {now : Int} {l : List Int} {a : Nat} (r : List Bool) (h : ¬ l.length < size) (hn : now ≠ 0) : goD size now l a r = (l, a, 0) := by
  unfold goD
  rw [if_neg hn, loopD_done r h]

/-- a step: an error, how many bits it took, the length told, and whether one was taken in -/
def stepD (now : Int) (r : List Bool) : Int × Nat × Int × Bool :=
  if now = 0 then (if r.length < 5 then (3, 0, now, false) else if okD ((numL (r.take 5) : Nat) : Int) then (0, 5, ((numL (r.take 5) : Nat) : Int), false) else (22, 5, now, false))
  else match r with
    | [] => (3, 0, now, false)
    | false :: _ => (0, 1, now, true)
    | [true] => (3, 0, now, false)
    | true :: b :: _ => if okD (now + 1 - 2 * (b.toNat : Int)) then (0, 2, now + 1 - 2 * (b.toNat : Int), false) else (22, 2, now, false)
theorem goD_step {size : Nat} {now : Int} {l : List Int} (a : Nat) {r : List Bool} {e : Int} {u : Nat} {n' : Int} {app : Bool} (h : stepD now r = (e, u, n', app)) (hl : l.length < size) (hn : now = 0 ∨ okD now = true) :
    (e = 0 ∧ okD n' = true ∧ u ≤ r.length ∧ 0 < u ∧ (app = true → n' = now) ∧ goD size now l a r = goD size n' (if app then l ++ [now] else l) (a + u) (r.drop u)) ∨
    (e = 3 ∧ u = 0 ∧ n' = now ∧ app = false ∧ goD size now l a r = ([], 0, 3)) ∨ (e = 22 ∧ u ≤ r.length ∧ n' = now ∧ app = false ∧ goD size now l a r = ([], 0, 22)) := by
  have nz : ∀ n : Int, okD n = true → n ≠ 0 := fun n h => by have := okD_iff.1 h; omega
  unfold stepD at h
  by_cases h0 : now = 0
  · rw [if_pos h0] at h
    by_cases h1 : r.length < 5
    · rw [if_pos h1] at h
      simp only [Prod.mk.injEq] at h
      obtain ⟨rfl, rfl, rfl, rfl⟩ := h
      refine .inr (.inl ⟨rfl, rfl, rfl, rfl, ?_⟩)
      unfold goD
      rw [if_pos h0, if_pos h1]
    · rw [if_neg h1] at h
      by_cases h2 : okD ((numL (r.take 5) : Nat) : Int) = true
      · rw [if_pos h2] at h
        simp only [Prod.mk.injEq] at h
        obtain ⟨rfl, rfl, rfl, rfl⟩ := h
        refine .inl ⟨rfl, h2, by omega, by decide, (fun h => by cases h), ?_⟩
        unfold goD
        rw [if_pos h0, if_neg h1, if_pos h2, if_neg (nz _ h2)]
        rfl
      · rw [if_neg h2] at h
        simp only [Prod.mk.injEq] at h
        obtain ⟨rfl, rfl, rfl, rfl⟩ := h
        refine .inr (.inr ⟨rfl, by omega, rfl, rfl, ?_⟩)
        unfold goD
        rw [if_pos h0, if_neg h1, if_neg h2]
  · have hok : okD now = true := hn.resolve_left h0
    rw [if_neg h0] at h
    have hg : ∀ r, goD size now l a r = loopD size now l a r := fun r => by unfold goD; rw [if_neg h0]
    rw [hg]
    split at h
    · simp only [Prod.mk.injEq] at h
      obtain ⟨rfl, rfl, rfl, rfl⟩ := h
      exact .inr (.inl ⟨rfl, rfl, rfl, rfl, by rw [loopD, if_pos hl]⟩)
    · simp only [Prod.mk.injEq] at h
      obtain ⟨rfl, rfl, rfl, rfl⟩ := h
      refine .inl ⟨rfl, hok, by simp, by decide, fun _ => rfl, ?_⟩
      rw [loopD, if_pos hl]
      unfold goD
      rw [if_neg h0]
      rfl
    · simp only [Prod.mk.injEq] at h
      obtain ⟨rfl, rfl, rfl, rfl⟩ := h
      exact .inr (.inl ⟨rfl, rfl, rfl, rfl, by rw [loopD, if_pos hl]⟩)
    · rename_i b r
      by_cases h2 : okD (now + 1 - 2 * (b.toNat : Int)) = true
      · rw [if_pos h2] at h
        simp only [Prod.mk.injEq] at h
        obtain ⟨rfl, rfl, rfl, rfl⟩ := h
        refine .inl ⟨rfl, h2, by simp, by decide, (fun h => by cases h), ?_⟩
        rw [loopD, if_pos hl, if_pos h2]
        unfold goD
        rw [if_neg (nz _ h2)]
        rfl
      · rw [if_neg h2] at h
        simp only [Prod.mk.injEq] at h
        obtain ⟨rfl, rfl, rfl, rfl⟩ := h
        exact .inr (.inr ⟨rfl, by simp, rfl, rfl, by rw [loopD, if_pos hl, if_neg h2]⟩)
/-- bits that come later change no step that was done -/
theorem stepD_more {now : Int} {r : List Bool} (t : List Bool) (h : (stepD now r).1 ≠ 3) : stepD now (r ++ t) = stepD now r := by
  unfold stepD at h ⊢
  by_cases h0 : now = 0
  · rw [if_pos h0] at h ⊢
    rw [if_pos h0]
    by_cases h1 : r.length < 5
    · rw [if_pos h1] at h; exact absurd rfl h
    · rw [if_neg h1, if_neg (by rw [List.length_append]; omega), List.take_append_of_le_length (by omega)]
  · rw [if_neg h0] at h ⊢
    rw [if_neg h0]
    match r, h with
    | [], h => exact absurd rfl h
    | false :: _, _ => rfl
    | [true], h => exact absurd rfl h
    | true :: b :: _, _ => rfl

theorem loopD_up {size : Nat} {l : List Int} (k : Nat) {now : Int} {a : Nat} (r : List Bool) (hl : l.length < size) (h1 : 1 ≤ now) (h2 : now + k ≤ 20) : loopD size now l a (upD k ++ r) = loopD size (now + k) l (a + 2 * k) r := by
  induction k generalizing now a with
  | zero => simp [upD]
  | succ k ih =>
    have e : now + 1 - 2 * (((false).toNat : Nat) : Int) = now + 1 := by simp
    rw [upD_cons, List.cons_append, List.cons_append, loopD, if_pos hl, e, if_pos (okD_iff.2 (by omega)), ih (by omega) (by omega)]
    congr 1 <;> omega
theorem loopD_dn {size : Nat} {l : List Int} (k : Nat) {now : Int} {a : Nat} (r : List Bool) (hl : l.length < size) (h1 : 1 ≤ now - k) (h2 : now ≤ 20) : loopD size now l a (dnD k ++ r) = loopD size (now - k) l (a + 2 * k) r := by
  induction k generalizing now a with
  | zero => simp [dnD]
  | succ k ih =>
    have e : now + 1 - 2 * (((true).toNat : Nat) : Int) = now - 1 := by simp; omega
    rw [dnD_cons, List.cons_append, List.cons_append, loopD, if_pos hl, e, if_pos (okD_iff.2 (by omega)), ih (by omega) (by omega)]
    congr 1 <;> omega
theorem loopD_one {size : Nat} {l : List Int} {now n : Int} {a : Nat} (r : List Bool) (hl : l.length < size) (h1 : 1 ≤ now ∧ now ≤ 20) (h2 : 1 ≤ n ∧ n ≤ 20) : loopD size now l a (oneD now n ++ r) = loopD size n (l ++ [n]) (a + (oneD now n).length) r := by
  have hlen : (oneD now n).length = 2 * (n - now).toNat + (2 * (now - n).toNat + 1) := by
    unfold oneD
    rw [List.length_append, List.length_append, upD_len, dnD_len]
    rfl
  rw [hlen]
  unfold oneD
  rw [List.append_assoc, loopD_up _ _ hl h1.1 (by omega), List.append_assoc, loopD_dn _ _ hl (by omega) (by omega)]
  have e : now + ((n - now).toNat : Int) - ((now - n).toNat : Int) = n := by omega
  rw [e]
  show loopD size n l _ (false :: r) = _
  rw [loopD, if_pos hl]
  congr 1
  omega
theorem loopD_run {size : Nat} (m : List Int) {l : List Int} {now : Int} {a : Nat} (r : List Bool) (hl : l.length + m.length = size) (h1 : 1 ≤ now ∧ now ≤ 20) (h2 : ∀ x ∈ m, 1 ≤ x ∧ x ≤ 20) :
    loopD size now l a (runD now m ++ r) = (l ++ m, a + (runD now m).length, 0) := by
  induction m generalizing l now a with
  | nil =>
    rw [loopD_done _ (by simp at hl; omega)]
    simp [runD]
  | cons x m ih =>
    have hx := h2 x (by simp)
    rw [List.length_cons] at hl
    rw [runD, List.append_assoc, loopD_one _ (by omega) h1 hx, ih (by simp; omega) hx (fun y hy => h2 y (by simp [hy]))]
    rw [List.append_assoc, List.length_append]
    simp
    omega
theorem refD_bits {l : List Int} (h : mayD l = true) (r : List Bool) : refD l.length (bitsD l ++ r) = (l, (bitsD l).length, 0) := by
  have h0 := headD_ok h
  unfold refD goD bitsD
  have hf : (fieldL (l.headD 0).toNat 5).length = 5 := fieldL_len _ _
  have ht : (fieldL (l.headD 0).toNat 5 ++ runD (l.headD 0) l ++ r).take 5 = fieldL (l.headD 0).toNat 5 := by
    rw [List.append_assoc, List.take_append_of_le_length (by omega), List.take_of_length_le (by omega)]
  have hd : (fieldL (l.headD 0).toNat 5 ++ runD (l.headD 0) l ++ r).drop 5 = runD (l.headD 0) l ++ r := by
    rw [List.append_assoc, List.drop_append_of_le_length (by omega), List.drop_of_length_le (by omega), List.nil_append]
  have hn : ((numL (fieldL (l.headD 0).toNat 5) : Nat) : Int) = l.headD 0 := by
    rw [numL_field_of (by omega)]
    omega
  rw [if_pos rfl, if_neg (by rw [List.length_append, List.length_append, hf]; omega), ht, hn, hd, if_pos (okD_iff.2 h0), loopD_run l r (by simp) h0 (mayD_iff.1 h).2, List.length_append, hf, List.nil_append]
theorem refD_bd (size : Nat) (all : List Bool) : (refD size all).2.1 ≤ all.length := by
  have hloop : ∀ (n : Nat) (r : List Bool) (now : Int) (l : List Int) (a : Nat), r.length ≤ n → (loopD size now l a r).2.1 ≤ a + r.length := by
    intro n
    induction n with
    | zero =>
      intro r now l a hr
      have : r = [] := List.length_eq_zero_iff.1 (by omega)
      subst this
      rw [loopD]
      split <;> simp
    | succ n ih =>
      intro r now l a hr
      match r, hr with
      | [], _ => rw [loopD]; split <;> simp
      | false :: r, hr =>
        rw [loopD]
        split
        · have := ih r now (l ++ [now]) (a + 1) (by simp at hr; omega)
          simp; omega
        · simp
      | [true], _ => rw [loopD]; split <;> simp
      | true :: b :: r, hr =>
        rw [loopD]
        split
        · split
          · have := ih r (now + 1 - 2 * (b.toNat : Int)) l (a + 2) (by simp at hr; omega)
            simp; omega
          · simp
        · simp
  unfold refD goD
  rw [if_pos rfl]
  split
  · simp
  · split
    · have := hloop _ (all.drop 5) ((numL (all.take 5) : Nat) : Int) [] (0 + 5) (Nat.le_refl _)
      rw [List.length_drop] at this
      omega
    · simp
theorem refD_ok {size : Nat} {all : List Bool} : ∀ x ∈ (refD size all).1, 1 ≤ x ∧ x ≤ 20 := by
  have hloop : ∀ (n : Nat) (r : List Bool) (now : Int) (l : List Int) (a : Nat), r.length ≤ n → (1 ≤ now ∧ now ≤ 20) → (∀ x ∈ l, 1 ≤ x ∧ x ≤ 20) → ∀ x ∈ (loopD size now l a r).1, 1 ≤ x ∧ x ≤ 20 := by
    intro n
    induction n with
    | zero =>
      intro r now l a hr hn hl
      have : r = [] := List.length_eq_zero_iff.1 (by omega)
      subst this
      rw [loopD]
      split
      · simp
      · exact hl
    | succ n ih =>
      intro r now l a hr hn hl
      match r, hr with
      | [], _ =>
        rw [loopD]; split
        · simp
        · exact hl
      | false :: r, hr =>
        rw [loopD]
        split
        · refine ih r now (l ++ [now]) (a + 1) (by simp at hr; omega) hn (fun x hx => ?_)
          rcases List.mem_append.1 hx with h | h
          · exact hl x h
          · rw [List.mem_singleton.1 h]; exact hn
        · exact hl
      | [true], _ =>
        rw [loopD]; split
        · simp
        · exact hl
      | true :: b :: r, hr =>
        rw [loopD]
        split
        · split
          · rename_i hok
            exact ih r _ l (a + 2) (by simp at hr; omega) (okD_iff.1 hok) hl
          · simp
        · exact hl
  unfold refD goD
  rw [if_pos rfl]
  split
  · simp
  · split
    · rename_i hok
      exact hloop _ _ _ _ _ (Nat.le_refl _) (okD_iff.1 hok) (by simp)
    · simp
end Go.Proofs.Ytjpjdecbkekcfaa

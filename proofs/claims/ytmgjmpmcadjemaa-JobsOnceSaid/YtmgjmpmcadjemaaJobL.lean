/- Package jobs: the list of live jobs, plain; the document's list. -/
import Derived.Test.YtmgjmpmcadjemaaRs
namespace Go.Proofs.Ytmgjmpmcadjemaa
open Go.RowKit

theorem snocRec {α : Type} {P : List α → Prop} (h0 : P []) (h1 : ∀ l x, P l → P (l ++ [x])) (l : List α) : P l := by
  have h : ∀ r : List α, P r.reverse := by
    intro r
    induction r with
    | nil => exact h0
    | cons a r ih => rw [List.reverse_cons]; exact h1 _ _ ih
  have := h l.reverse
  rwa [List.reverse_reverse] at this

abbrev JE := Int × Int × Int × Int
abbrev LV := JE × Int
def I64 (n : Int) : Prop := -9223372036854775808 ≤ n ∧ n ≤ 9223372036854775807
def encJ (e : JE) : List Value := [.int .i64 e.1, .int .i64 e.2.1, .int .i64 e.2.2.1, .int .i64 e.2.2.2]
def goodJ (e : JE) : Prop := I64 e.1 ∧ I64 e.2.1 ∧ I64 e.2.2.1 ∧ I64 e.2.2.2
def encV (x : LV) : List Value := [.int .i64 x.1.1, .int .i64 x.1.2.1, .int .i64 x.1.2.2.1, .int .i64 x.1.2.2.2, .int .i64 x.2]
def goodV (x : LV) : Prop := goodJ x.1 ∧ 0 < x.2 ∧ x.2 ≤ 1000
theorem encV_len : ∀ x : LV, (encV x).length = 5 := fun _ => rfl
theorem encJ_len : ∀ x : JE, (encJ x).length = 4 := fun _ => rfl
theorem encV_one (x : LV) : ∀ u ∈ encV x, u.oneCell' = true := by
  intro u hu
  simp [encV] at hu
  rcases hu with rfl | rfl | rfl | rfl | rfl <;> rfl

def isCI (c i : Int) (x : LV) : Bool := (x.1.1 == c) && (x.1.2.1 == i)
def isH (h : Int) (x : LV) : Bool := x.2 == h
def isC (c : Int) (x : LV) : Bool := x.1.1 == c
def isT (t : Int) (x : LV) : Bool := x.1.2.2.1 == t
/-- a job's handle; 0: there is none -/
def findH (c i : Int) (L : List LV) : Int := match L.find? (isCI c i) with | some x => x.2 | none => 0
def findE (c i : Int) (L : List LV) : Int := match L.find? (isCI c i) with | some _ => 0 | none => 6
/-- the place of the first one that counts -/
def plK (p : LV → Bool) (L : List LV) : Int := match L.findIdx? p with | some k => (k : Int) | none => -1
def hndL (p : LV → Bool) (L : List LV) : List Int := (L.filter p).map (·.2)
def need1 (t n : Int) (x : LV) : Int := if x.1.2.2.1 = t then min (n + min (max x.1.2.2.2 0) 1099511627776) 1099511627776 else n
def needL (t : Int) (L : List LV) : Int := L.foldl (need1 t) 0
def outL (h : Int) (L : List LV) : List LV := L.filter fun x => !isH h x

theorem plK_some {p : LV → Bool} {L : List LV} {k : Nat} {x : LV} (hx : L[k]? = some x) (hp : p x = true) (hno : ∀ (i : Nat) (y : LV), i < k → L[i]? = some y → p y = false) : plK p L = k ∧ L.find? p = some x := by
  obtain ⟨hk, hxe⟩ := List.getElem?_eq_some_iff.1 hx
  have h1 : L.findIdx? p = some k := by
    rw [List.findIdx?_eq_some_iff_getElem]
    exact ⟨hk, by rw [hxe]; exact hp, fun j hj => by rw [hno j L[j] hj (List.getElem?_eq_getElem (by omega))]; simp⟩
  refine ⟨by unfold plK; rw [h1], ?_⟩
  rw [List.find?_eq_some_iff_getElem]
  exact ⟨hp, k, hk, hxe, fun j hj => by rw [hno j L[j] hj (List.getElem?_eq_getElem (by omega))]; rfl⟩
theorem plK_none {p : LV → Bool} {L : List LV} (hno : ∀ (i : Nat) (y : LV), L[i]? = some y → p y = false) : plK p L = -1 ∧ L.find? p = none := by
  have h0 : ∀ x ∈ L, p x = false := fun x hx => by
    obtain ⟨i, hi⟩ := List.getElem?_of_mem hx
    exact hno i x hi
  refine ⟨?_, List.find?_eq_none.2 fun x hx => by rw [h0 x hx]; simp⟩
  unfold plK
  rw [List.findIdx?_eq_none_iff.2 h0]
/-- either none counts, or the first one that does stands at a place -/
theorem plK_cases (p : LV → Bool) (L : List LV) : (plK p L = -1 ∧ L.find? p = none) ∨ ∃ (k : Nat) (x : LV), plK p L = k ∧ k < L.length ∧ L[k]? = some x ∧ L.find? p = some x := by
  unfold plK
  cases h : L.findIdx? p with
  | none =>
    rw [List.findIdx?_eq_none_iff] at h
    exact .inl ⟨rfl, List.find?_eq_none.2 fun x hx => by rw [h x hx]; simp⟩
  | some k =>
    rw [List.findIdx?_eq_some_iff_getElem] at h
    obtain ⟨hk, hp, hno⟩ := h
    refine .inr ⟨k, L[k], rfl, hk, List.getElem?_eq_getElem hk, ?_⟩
    rw [List.find?_eq_some_iff_getElem]
    exact ⟨hp, k, hk, rfl, fun j hj => by have := hno j hj; simpa using this⟩

/-- the document's list: a job, and whether it was dropped -/
abbrev RE := JE × Bool
def encR (r : RE) : List Value := [.int .i64 r.1.1, .int .i64 r.1.2.1, .int .i64 r.1.2.2.1, .int .i64 r.1.2.2.2, .bool r.2]
theorem encR_len : ∀ x : RE, (encR x).length = 5 := fun _ => rfl
def goodR (r : RE) : Prop := goodJ r.1
def liveR (R : List RE) : List LV := (R.zipIdx.filter fun x => !x.1.2).map fun x => (x.1.1, ((x.2 : Nat) : Int) + 1)
theorem liveR_snoc (R : List RE) (r : RE) : liveR (R ++ [r]) = liveR R ++ (if r.2 then [] else [(r.1, (R.length : Int) + 1)]) := by
  unfold liveR
  rw [List.zipIdx_append, List.filter_append, List.map_append]
  congr 1
  simp only [List.zipIdx_cons, List.zipIdx_nil, Nat.zero_add]
  cases h : r.2 <;> simp [h]
theorem liveR_take {R : List RE} {k : Nat} {r : RE} (h : R[k]? = some r) : liveR (R.take (k + 1)) = liveR (R.take k) ++ (if r.2 then [] else [(r.1, (k : Int) + 1)]) := by
  have hk := (List.getElem?_eq_some_iff.1 h).1
  rw [take_snoc h, liveR_snoc, List.length_take, Nat.min_eq_left (by omega)]
theorem liveR_mem {R : List RE} {x : LV} : x ∈ liveR R ↔ ∃ k : Nat, R[k]? = some (x.1, false) ∧ x.2 = (k : Int) + 1 := by
  unfold liveR
  rw [List.mem_map]
  constructor
  · rintro ⟨⟨⟨e, d⟩, k⟩, hm, rfl⟩
    rw [List.mem_filter] at hm
    obtain ⟨h1, h2⟩ := hm
    have h3 : d = false := by simpa using h2
    subst h3
    have := List.mem_zipIdx_iff_getElem?.1 h1
    exact ⟨k, this, rfl⟩
  · rintro ⟨k, hk, hx⟩
    refine ⟨((x.1, false), k), List.mem_filter.2 ⟨List.mem_zipIdx_iff_getElem?.2 hk, rfl⟩, ?_⟩
    obtain ⟨a, b⟩ := x
    simp at hx
    subst hx
    rfl
theorem liveR_len (R : List RE) : (liveR R).length ≤ R.length := by
  unfold liveR
  rw [List.length_map]
  exact Nat.le_trans (List.length_filter_le _ _) (by simp)
theorem liveR_sorted (R : List RE) : (liveR R).Pairwise fun x y => x.2 < y.2 := by
  induction R using snocRec with
  | h0 => exact List.Pairwise.nil
  | h1 R r ih =>
    rw [liveR_snoc, List.pairwise_append]
    refine ⟨ih, by split <;> simp, fun x hx y hy => ?_⟩
    obtain ⟨k, hk, e⟩ := liveR_mem.1 hx
    have hkl := (List.getElem?_eq_some_iff.1 hk).1
    split at hy
    · simp at hy
    · simp at hy
      subst hy
      show x.2 < (R.length : Int) + 1
      omega
def dropR (R : List RE) (h : Int) : List RE := R.mapIdx fun i r => if (i : Int) + 1 = h then (r.1, true) else r
theorem dropR_len (R : List RE) (h : Int) : (dropR R h).length = R.length := by simp [dropR]
theorem dropR_take {R : List RE} {h : Int} {k : Nat} {r : RE} (hr : R[k]? = some r) : dropR (R.take (k + 1)) h = dropR (R.take k) h ++ [if (k : Int) + 1 = h then (r.1, true) else r] := by
  have hk := (List.getElem?_eq_some_iff.1 hr).1
  unfold dropR
  rw [take_snoc hr, List.mapIdx_append]
  congr 1
  have e : (R.take k).length = k := by rw [List.length_take]; omega
  simp [e]
theorem liveR_drop (R : List RE) (h : Int) : liveR (dropR R h) = outL h (liveR R) := by
  induction R using snocRec with
  | h0 => rfl
  | h1 R r ih =>
    have e : dropR (R ++ [r]) h = dropR R h ++ [if (R.length : Int) + 1 = h then (r.1, true) else r] := by
      unfold dropR
      rw [List.mapIdx_append]
      congr 1
      simp
    rw [e, liveR_snoc, liveR_snoc, ih, dropR_len]
    unfold outL
    rw [List.filter_append]
    congr 1
    obtain ⟨a, d⟩ := r
    by_cases hh : (R.length : Int) + 1 = h
    · rw [if_pos hh]
      cases d <;> simp [isH, hh]
    · rw [if_neg hh]
      cases d <;> simp [isH, hh]
def livesR (R : List RE) (h : Int) : Bool := decide (1 ≤ h) && (decide (h ≤ (R.length : Int)) && (match R[(h - 1).toNat]? with | some r => !r.2 | none => false))
theorem livesR_yes {R : List RE} {h : Int} (hl : livesR R h = true) : ∃ e, R[(h - 1).toNat]? = some (e, false) ∧ (liveR R).find? (isH h) = some (e, h) ∧ 1 ≤ h ∧ h ≤ R.length := by
  unfold livesR at hl
  simp only [Bool.and_eq_true, decide_eq_true_eq] at hl
  obtain ⟨h1, h2, h3⟩ := hl
  cases hr : R[(h - 1).toNat]? with
  | none => rw [hr] at h3; cases h3
  | some r =>
    rw [hr] at h3
    obtain ⟨e, d⟩ := r
    have hd : d = false := by simpa using h3
    subst hd
    refine ⟨e, rfl, ?_, h1, h2⟩
    have hm : ((e, h) : LV) ∈ liveR R := liveR_mem.2 ⟨(h - 1).toNat, hr, by show h = _; omega⟩
    obtain ⟨x, hx⟩ : ∃ x, (liveR R).find? (isH h) = some x := by
      cases hf : (liveR R).find? (isH h) with
      | some x => exact ⟨x, rfl⟩
      | none =>
        rw [List.find?_eq_none] at hf
        have := hf _ hm
        simp [isH] at this
    have hxm := List.mem_of_find?_eq_some hx
    have hxh := List.find?_some hx
    obtain ⟨k, hk, hk2⟩ := liveR_mem.1 hxm
    have hxe : x.2 = h := by simpa [isH] using hxh
    have : k = (h - 1).toNat := by omega
    rw [this, hr] at hk
    have he : e = x.1 := by simpa using hk
    rw [hx]
    obtain ⟨a, b⟩ := x
    simp at he hxe
    rw [he, hxe]
theorem livesR_no {R : List RE} {h : Int} (hl : livesR R h = false) : (liveR R).find? (isH h) = none := by
  rw [List.find?_eq_none]
  intro x hx he
  have hxe : x.2 = h := by simpa [isH] using he
  obtain ⟨k, hk, hk2⟩ := liveR_mem.1 hx
  have hkl := (List.getElem?_eq_some_iff.1 hk).1
  have : livesR R h = true := by
    unfold livesR
    have e : (h - 1).toNat = k := by omega
    rw [e, hk]
    simp
    omega
  rw [hl] at this
  cases this

/-- adding -/
def addE (c i lim : Int) (L : List LV) : Int := if 0 < findH c i L then 8 else if (L.length : Int) = lim then 5 else 0
theorem findH_pos {c i : Int} {L : List LV} (hg : ∀ x ∈ L, goodV x) : (0 < findH c i L) ↔ findE c i L = 0 := by
  unfold findH findE
  cases h : L.find? (isCI c i) with
  | none => simp
  | some x => simpa using (hg x (List.mem_of_find?_eq_some h)).2.1
theorem findE_or (c i : Int) (L : List LV) : findE c i L = 0 ∨ findE c i L = 6 := by
  unfold findE
  cases L.find? (isCI c i) <;> simp
theorem findH_bd {c i : Int} {L : List LV} (hg : ∀ x ∈ L, goodV x) : 0 ≤ findH c i L ∧ findH c i L ≤ 1000 := by
  unfold findH
  cases h : L.find? (isCI c i) with
  | none => exact ⟨Int.le_refl _, by decide⟩
  | some x => have := hg x (List.mem_of_find?_eq_some h); exact ⟨by have := this.2.1; show 0 ≤ x.2; omega, this.2.2⟩
theorem need1_bd {t n : Int} (x : LV) (h : 0 ≤ n ∧ n ≤ 1099511627776) : 0 ≤ need1 t n x ∧ need1 t n x ≤ 1099511627776 := by
  unfold need1
  split
  · omega
  · exact h
theorem needL_bd (t : Int) (L : List LV) : 0 ≤ needL t L ∧ needL t L ≤ 1099511627776 := by
  unfold needL
  induction L using snocRec with
  | h0 => exact ⟨Int.le_refl _, by show (0 : Int) ≤ 1099511627776; decide⟩
  | h1 L x ih => rw [List.foldl_append]; exact need1_bd x ih
theorem needL_snoc (t : Int) (L : List LV) (x : LV) : needL t (L ++ [x]) = need1 t (needL t L) x := by unfold needL; rw [List.foldl_append]; rfl
theorem hndL_snoc (p : LV → Bool) (L : List LV) (x : LV) : hndL p (L ++ [x]) = hndL p L ++ (if p x then [x.2] else []) := by
  unfold hndL
  rw [List.filter_append, List.map_append]
  congr 1
  cases h : p x <;> simp [h]
theorem hndL_len (p : LV → Bool) (L : List LV) : (hndL p L).length ≤ L.length := by unfold hndL; rw [List.length_map]; exact List.length_filter_le _ _
theorem hndL_ok {p : LV → Bool} {L : List LV} (hg : ∀ x ∈ L, goodV x) : ∀ n ∈ hndL p L, -9223372036854775808 ≤ n ∧ n ≤ 9223372036854775807 := by
  intro n hn
  unfold hndL at hn
  obtain ⟨x, hx, rfl⟩ := List.mem_map.1 hn
  have := (hg x (List.mem_filter.1 hx).1).2
  omega
end Go.Proofs.Ytmgjmpmcadjemaa

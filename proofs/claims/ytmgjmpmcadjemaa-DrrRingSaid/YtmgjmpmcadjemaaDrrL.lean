/- Package drr: plain; what the acts make of a scheduler; no program is named here. -/
import Derived.Test.YtmgjmpmcadjemaaDrrA
namespace Go.Proofs.Ytmgjmpmcadjemaa
open Go.RowKit

/-- the first place with something, or -1 -/
def firstT (p : Nat → Bool) (n : Nat) : Int := match (List.range n).find? p with | some k => (k : Int) | none => -1
theorem firstT_some {p : Nat → Bool} {n k : Nat} (hk : k < n) (hp : p k = true) (hno : ∀ i, i < k → p i = false) : firstT p n = k := by
  have : (List.range n).find? p = some k := by
    rw [List.find?_range_eq_some]
    exact ⟨hp, List.mem_range.2 hk, fun j hj => by rw [hno j hj]; rfl⟩
  unfold firstT
  rw [this]
theorem firstT_none {p : Nat → Bool} {n : Nat} (hno : ∀ i, i < n → p i = false) : firstT p n = -1 := by
  have : (List.range n).find? p = none := by
    rw [List.find?_eq_none]
    intro x hx
    rw [hno x (List.mem_range.1 hx)]
    decide
  unfold firstT
  rw [this]
theorem firstT_cases (p : Nat → Bool) (n : Nat) : (∃ k, k < n ∧ p k = true ∧ (∀ i, i < k → p i = false) ∧ firstT p n = k) ∨ ((∀ i, i < n → p i = false) ∧ firstT p n = -1) := by
  cases h : (List.range n).find? p with
  | some k =>
    left
    rw [List.find?_range_eq_some] at h
    obtain ⟨h1, h2, h3⟩ := h
    have h4 := List.mem_range.1 h2
    have h5 : ∀ i, i < k → p i = false := fun i hi => by have := h3 i hi; simpa using this
    exact ⟨k, h4, h1, h5, firstT_some h4 h1 h5⟩
  | none =>
    right
    rw [List.find?_eq_none] at h
    have h5 : ∀ i, i < n → p i = false := fun i hi => by have := h i (List.mem_range.2 hi); simpa using this
    exact ⟨h5, firstT_none h5⟩

def whoS (s : Sch) (job : Int) : Int := firstT (fun i => hasI (s.J.getD i []) job) s.Q.length
def addS (s : Sch) (i : Nat) (job : Int) : Sch := { s with J := s.J.set i (s.J.getD i [] ++ [job]), R := if hasI s.R (i : Int) then s.R else s.R ++ [(i : Int)] }
def addM (s : Sch) (t job : Int) : Int × Sch := if t < 0 ∨ (s.Q.length : Int) ≤ t then (6, s) else if 0 ≤ whoS s job then (8, s) else (0, addS s t.toNat job)
def outM (s : Sch) (i : Nat) (job : Int) : Sch :=
  if (s.J.getD i []).erase job = [] then { s with C := s.C.set i 0, J := s.J.set i ((s.J.getD i []).erase job), R := s.R.erase (i : Int) }
  else { s with J := s.J.set i ((s.J.getD i []).erase job) }
def remM (s : Sch) (job : Int) : Int × Sch := if whoS s job < 0 then (6, s) else (0, outM s (whoS s job).toNat job)
def fillS (s : Sch) (i : Nat) : Sch := if s.C.getD i 0 = 0 then { s with C := s.C.set i (s.Q.getD i 0) } else s
def skipS (s : Sch) (i : Nat) : Sch := { s with C := s.C.set i 0, R := rotL s.R }
def nextR (left : List Int) (budget : Int) : Nat → Sch → Sch × Option (Int × Int × Int)
  | 0, s => (s, none)
  | k + 1, s =>
    if left.getD (s.R.headD 0).toNat 0 < 1 then nextR left budget k (skipS s (s.R.headD 0).toNat)
    else (fillS s (s.R.headD 0).toNat, some (s.R.headD 0, (s.J.getD (s.R.headD 0).toNat []).headD 0, min (min ((fillS s (s.R.headD 0).toNat).C.getD (s.R.headD 0).toNat 0) budget) (left.getD (s.R.headD 0).toNat 0)))
def nextM (s : Sch) (budget : Int) (left : List Int) : Sch × Option (Int × Int × Int) := if budget < 1 ∨ left.length ≠ s.Q.length then (s, none) else nextR left budget s.R.length s
def useS (s : Sch) (i : Nat) (used : Int) : Sch := { s with C := s.C.set i (s.C.getD i 0 - used) }
def rotS (s : Sch) (i : Nat) : Sch := { s with J := s.J.set i (rotL (s.J.getD i [])) }
def restS (s : Sch) (i : Nat) : Sch := if s.C.getD i 0 = 0 ∧ s.J.getD i [] ≠ [] then { s with R := rotL s.R } else s
def midS (s : Sch) (i : Nat) (job : Int) (stopped : Bool) : Sch := if stopped then outM s i job else if s.C.getD i 0 = 0 then rotS s i else s
def spentM (s : Sch) (job used : Int) (stopped : Bool) : Int × Sch :=
  if s.R = [] then (6, s)
  else if (s.J.getD (s.R.headD 0).toNat []).headD 0 ≠ job then (6, s)
  else if used < 0 ∨ s.C.getD (s.R.headD 0).toNat 0 < used then (1, s)
  else (0, restS (midS (useS s (s.R.headD 0).toNat used) (s.R.headD 0).toNat job stopped) (s.R.headD 0).toNat)

/-- what a scheduler always is; K bounds its rows -/
structure Ok (K : Nat) (s : Sch) : Prop where
  n1 : 1 ≤ s.Q.length
  n16 : s.Q.length ≤ 16
  lc : s.C.length = s.Q.length
  lj : s.J.length = s.Q.length
  q : ∀ i, i < s.Q.length → 1 ≤ s.Q.getD i 0 ∧ s.Q.getD i 0 ≤ 1099511627776
  c : ∀ i, i < s.Q.length → 0 ≤ s.C.getD i 0 ∧ s.C.getD i 0 ≤ s.Q.getD i 0
  r : ∀ t ∈ s.R, ∃ i : Nat, t = i ∧ i < s.Q.length ∧ s.J.getD i [] ≠ []
  jr : ∀ i, i < s.Q.length → s.J.getD i [] ≠ [] → (i : Int) ∈ s.R
  rn : s.R.Nodup
  jn : ∀ i, i < s.Q.length → (s.J.getD i []).Nodup
  jk : ∀ i, i < s.Q.length → (s.J.getD i []).length ≤ K
  rk : s.R.length ≤ K

theorem rotL_mem {l : List Int} {x : Int} : x ∈ rotL l ↔ x ∈ l := by
  cases l with
  | nil => rfl
  | cons y l => simp [rotL, or_comm]
theorem rotL_len (l : List Int) : (rotL l).length = l.length := by
  cases l with
  | nil => rfl
  | cons y l => simp [rotL]
theorem rotL_nodup {l : List Int} (h : l.Nodup) : (rotL l).Nodup := by
  cases l with
  | nil => exact h
  | cons y l =>
    show (l ++ [y]).Nodup
    rw [List.nodup_cons] at h
    rw [List.nodup_append]
    exact ⟨h.2, by simp, fun a ha b hb e => by simp at hb; subst hb; subst e; exact h.1 ha⟩
theorem rotL_ne {l : List Int} (h : l ≠ []) : rotL l ≠ [] := by
  cases l with
  | nil => exact absurd rfl h
  | cons y l => simp [rotL]

theorem Ok.mono {K L : Nat} {s : Sch} (h : Ok K s) (hk : K ≤ L) : Ok L s := { h with jk := fun i hi => Nat.le_trans (h.jk i hi) hk, rk := Nat.le_trans h.rk hk }
/-- a credit turns -/
theorem Ok.setC {K : Nat} {s : Sch} (h : Ok K s) (i : Nat) (c : Int) (hc : 0 ≤ c ∧ c ≤ s.Q.getD i 0) : Ok K { s with C := s.C.set i c } where
  n1 := h.n1
  n16 := h.n16
  lc := by rw [List.length_set]; exact h.lc
  lj := h.lj
  q := h.q
  c := fun j hj => by
    by_cases e : i = j
    · subst e
      rw [getD_set_eq (by rw [h.lc]; exact hj)]
      exact hc
    · rw [getD_set_ne e]; exact h.c j hj
  r := h.r
  jr := h.jr
  rn := h.rn
  jn := h.jn
  jk := h.jk
  rk := h.rk
theorem Ok.rotR {K : Nat} {s : Sch} (h : Ok K s) : Ok K { s with R := rotL s.R } where
  n1 := h.n1
  n16 := h.n16
  lc := h.lc
  lj := h.lj
  q := h.q
  c := h.c
  r := fun t ht => h.r t (rotL_mem.1 ht)
  jr := fun i hi hj => rotL_mem.2 (h.jr i hi hj)
  rn := rotL_nodup h.rn
  jn := h.jn
  jk := h.jk
  rk := by rw [rotL_len]; exact h.rk
theorem Ok.rotJ {K : Nat} {s : Sch} (h : Ok K s) (i : Nat) : Ok K (rotS s i) := by
  by_cases hi : i < s.Q.length
  · have hlj : i < s.J.length := by rw [h.lj]; exact hi
    have key : ∀ j, (rotS s i).J.getD j [] = if i = j then rotL (s.J.getD i []) else s.J.getD j [] := fun j => by
      unfold rotS
      by_cases e : i = j
      · subst e; rw [if_pos rfl]; exact getD_set_eq hlj _ _
      · rw [if_neg e]; exact getD_set_ne e _ _
    have ne : ∀ j, (rotS s i).J.getD j [] ≠ [] ↔ s.J.getD j [] ≠ [] := fun j => by
      rw [key]
      by_cases e : i = j
      · subst e
        rw [if_pos rfl]
        exact ⟨fun h1 h2 => h1 (by rw [h2]; rfl), rotL_ne⟩
      · rw [if_neg e]
    exact {
      n1 := h.n1, n16 := h.n16, lc := h.lc, lj := by unfold rotS; rw [List.length_set]; exact h.lj, q := h.q, c := h.c
      r := fun t ht => by
        obtain ⟨j, h1, h2, h3⟩ := h.r t ht
        exact ⟨j, h1, h2, (ne j).2 h3⟩
      jr := fun j hj hne => h.jr j hj ((ne j).1 hne)
      rn := h.rn
      jn := fun j hj => by
        rw [key]
        by_cases e : i = j
        · rw [if_pos e]; exact rotL_nodup (h.jn i hi)
        · rw [if_neg e]; exact h.jn j hj
      jk := fun j hj => by
        rw [key]
        by_cases e : i = j
        · rw [if_pos e, rotL_len]; exact h.jk i hi
        · rw [if_neg e]; exact h.jk j hj
      rk := h.rk }
  · have : rotS s i = s := by
      have : s.J.set i (rotL (s.J.getD i [])) = s.J := List.set_eq_of_length_le (by rw [h.lj]; omega)
      unfold rotS
      rw [this]
    rw [this]
    exact h
theorem Ok.add {K : Nat} {s : Sch} (h : Ok K s) {i : Nat} (hi : i < s.Q.length) {job : Int} (hno : hasI (s.J.getD i []) job = false) : Ok (K + 1) (addS s i job) := by
  have hlj : i < s.J.length := by rw [h.lj]; exact hi
  have key : ∀ j, (addS s i job).J.getD j [] = if i = j then s.J.getD i [] ++ [job] else s.J.getD j [] := fun j => by
    unfold addS
    by_cases e : i = j
    · subst e; rw [if_pos rfl]; exact getD_set_eq hlj _ _
    · rw [if_neg e]; exact getD_set_ne e _ _
  have hR : ∀ t, t ∈ (addS s i job).R ↔ t ∈ s.R ∨ t = (i : Int) := fun t => by
    unfold addS
    dsimp only
    cases hh : hasI s.R (i : Int) with
    | true => rw [if_pos rfl]; exact ⟨.inl, fun q => q.elim id (fun e => by rw [e]; exact hasI_mem.1 hh)⟩
    | false => rw [if_neg (by decide)]; simp
  exact {
    n1 := h.n1, n16 := h.n16, lc := h.lc, lj := by unfold addS; rw [List.length_set]; exact h.lj, q := h.q, c := h.c
    r := fun t ht => by
      rcases (hR t).1 ht with q | q
      · obtain ⟨j, h1, h2, h3⟩ := h.r t q
        refine ⟨j, h1, h2, ?_⟩
        rw [key]
        by_cases e : i = j
        · rw [if_pos e]; simp
        · rw [if_neg e]; exact h3
      · exact ⟨i, q, hi, by rw [key, if_pos rfl]; simp⟩
    jr := fun j hj hne => by
      rw [hR]
      by_cases e : i = j
      · exact .inr (by rw [e])
      · rw [key, if_neg e] at hne; exact .inl (h.jr j hj hne)
    rn := by
      unfold addS
      dsimp only
      cases hh : hasI s.R (i : Int) with
      | true => rw [if_pos rfl]; exact h.rn
      | false =>
        rw [if_neg (by decide), List.nodup_append]
        refine ⟨h.rn, by simp, fun a ha b hb e => ?_⟩
        simp at hb
        subst hb
        subst e
        rw [hasI_mem.2 ha] at hh
        exact absurd hh (by decide)
    jn := fun j hj => by
      rw [key]
      by_cases e : i = j
      · rw [if_pos e, List.nodup_append]
        refine ⟨h.jn i hi, by simp, fun a ha b hb e => ?_⟩
        simp at hb
        subst hb
        subst e
        rw [hasI_mem.2 ha] at hno
        exact absurd hno (by decide)
      · rw [if_neg e]; exact h.jn j hj
    jk := fun j hj => by
      rw [key]
      by_cases e : i = j
      · rw [if_pos e, List.length_append, List.length_singleton]; have := h.jk i hi; omega
      · rw [if_neg e]; have := h.jk j hj; omega
    rk := by
      unfold addS
      dsimp only
      have := h.rk
      split
      · omega
      · rw [List.length_append, List.length_singleton]; omega }
theorem Ok.out {K : Nat} {s : Sch} (h : Ok K s) {i : Nat} (hi : i < s.Q.length) (job : Int) : Ok K (outM s i job) := by
  have hlj : i < s.J.length := by rw [h.lj]; exact hi
  have hlc : i < s.C.length := by rw [h.lc]; exact hi
  have key : ∀ j, (s.J.set i ((s.J.getD i []).erase job)).getD j [] = if i = j then (s.J.getD i []).erase job else s.J.getD j [] := fun j => by
    by_cases e : i = j
    · subst e; rw [if_pos rfl]; exact getD_set_eq hlj _ _
    · rw [if_neg e]; exact getD_set_ne e _ _
  have hjn : ∀ j, j < s.Q.length → ((s.J.set i ((s.J.getD i []).erase job)).getD j []).Nodup := fun j hj => by
    rw [key]
    by_cases e : i = j
    · rw [if_pos e]; exact (h.jn i hi).erase _
    · rw [if_neg e]; exact h.jn j hj
  have hjk : ∀ j, j < s.Q.length → ((s.J.set i ((s.J.getD i []).erase job)).getD j []).length ≤ K := fun j hj => by
    rw [key]
    by_cases e : i = j
    · rw [if_pos e]; exact Nat.le_trans (List.erase_sublist).length_le (h.jk i hi)
    · rw [if_neg e]; exact h.jk j hj
  unfold outM
  by_cases he : (s.J.getD i []).erase job = []
  · rw [if_pos he]
    exact {
      n1 := h.n1, n16 := h.n16, lc := by rw [List.length_set]; exact h.lc, lj := by rw [List.length_set]; exact h.lj, q := h.q
      c := fun j hj => by
        by_cases e : i = j
        · subst e
          rw [getD_set_eq hlc]
          have := h.q i hi
          dsimp only
          omega
        · rw [getD_set_ne e]; exact h.c j hj
      r := fun t ht => by
        have hm := (h.rn.mem_erase_iff).1 ht
        obtain ⟨j, h1, h2, h3⟩ := h.r t hm.2
        refine ⟨j, h1, h2, ?_⟩
        have hne : ¬ i = j := fun e => hm.1 (by rw [h1, e])
        rw [key, if_neg hne]
        exact h3
      jr := fun j hj hne => by
        by_cases e : i = j
        · rw [key, if_pos e] at hne; exact absurd he hne
        · rw [key, if_neg e] at hne
          exact (h.rn.mem_erase_iff).2 ⟨fun q => e (by omega), h.jr j hj hne⟩
      rn := h.rn.erase _
      jn := hjn
      jk := hjk
      rk := Nat.le_trans (List.erase_sublist).length_le h.rk }
  · rw [if_neg he]
    exact {
      n1 := h.n1, n16 := h.n16, lc := h.lc, lj := by rw [List.length_set]; exact h.lj, q := h.q, c := h.c
      r := fun t ht => by
        obtain ⟨j, h1, h2, h3⟩ := h.r t ht
        refine ⟨j, h1, h2, ?_⟩
        rw [key]
        by_cases e : i = j
        · rw [if_pos e]; exact he
        · rw [if_neg e]; exact h3
      jr := fun j hj hne => by
        by_cases e : i = j
        · subst e
          exact h.jr i hi (fun q => he (by rw [q]; rfl))
        · rw [key, if_neg e] at hne; exact h.jr j hj hne
      rn := h.rn
      jn := hjn
      jk := hjk
      rk := h.rk }
theorem Ok.head {K : Nat} {s : Sch} (h : Ok K s) (hr : s.R ≠ []) : ∃ i : Nat, s.R.headD 0 = i ∧ i < s.Q.length ∧ s.J.getD i [] ≠ [] := by
  cases hc : s.R with
  | nil => exact absurd hc hr
  | cons t l => exact h.r t (by rw [hc]; simp)
theorem Ok.fill {K : Nat} {s : Sch} (h : Ok K s) {i : Nat} (hi : i < s.Q.length) : Ok K (fillS s i) := by
  unfold fillS
  split
  · have := h.q i hi
    exact h.setC i _ ⟨by omega, Int.le_refl _⟩
  · exact h
theorem Ok.skip {K : Nat} {s : Sch} (h : Ok K s) {i : Nat} (hi : i < s.Q.length) : Ok K (skipS s i) := by
  have := h.q i hi
  exact (h.setC i 0 ⟨by omega, by omega⟩).rotR
theorem skipS_R (s : Sch) (i : Nat) : (skipS s i).R = rotL s.R := rfl
theorem Ok.nextR {K : Nat} (left : List Int) (budget : Int) : ∀ (k : Nat) (s : Sch), Ok K s → k ≤ s.R.length → Ok K (nextR left budget k s).1 := by
  intro k
  induction k with
  | zero => intro s h _; exact h
  | succ k ih =>
    intro s h hk
    obtain ⟨i, hi, hi2, -⟩ := h.head (fun e => by rw [e] at hk; simp at hk)
    have e1 : (s.R.headD 0).toNat = i := by rw [hi]; rfl
    rw [Go.Proofs.Ytmgjmpmcadjemaa.nextR, e1]
    split
    · exact ih _ (h.skip hi2) (by rw [skipS_R, rotL_len]; omega)
    · exact h.fill hi2
theorem Ok.next {K : Nat} {s : Sch} (h : Ok K s) (budget : Int) (left : List Int) : Ok K (nextM s budget left).1 := by
  unfold nextM
  split
  · exact h
  · exact Ok.nextR left budget _ s h (Nat.le_refl _)
theorem Ok.addM {K : Nat} {s : Sch} (h : Ok K s) (t job : Int) : Ok (K + 1) (addM s t job).2 := by
  unfold Go.Proofs.Ytmgjmpmcadjemaa.addM
  split
  · exact h.mono (Nat.le_succ _)
  · split
    · exact h.mono (Nat.le_succ _)
    · rename_i h1 h2
      refine h.add (by omega) ?_
      unfold whoS at h2
      rcases firstT_cases (fun i => hasI (s.J.getD i []) job) s.Q.length with ⟨k, _, _, _, q⟩ | ⟨q, _⟩
      · rw [q] at h2; omega
      · exact q _ (by omega)
theorem whoS_at {s : Sch} {job : Int} (h : ¬ whoS s job < 0) : ∃ i : Nat, whoS s job = i ∧ i < s.Q.length ∧ hasI (s.J.getD i []) job = true := by
  unfold whoS at h ⊢
  rcases firstT_cases (fun i => hasI (s.J.getD i []) job) s.Q.length with ⟨k, h1, h2, _, q⟩ | ⟨_, q⟩
  · exact ⟨k, q, h1, h2⟩
  · rw [q] at h; omega
theorem Ok.remM {K : Nat} {s : Sch} (h : Ok K s) (job : Int) : Ok K (remM s job).2 := by
  unfold Go.Proofs.Ytmgjmpmcadjemaa.remM
  split
  · exact h
  · rename_i h1
    obtain ⟨i, q1, q2, -⟩ := whoS_at h1
    rw [q1]
    exact h.out q2 job
theorem Ok.spentM {K : Nat} {s : Sch} (h : Ok K s) (job used : Int) (stopped : Bool) : Ok K (spentM s job used stopped).2 := by
  unfold Go.Proofs.Ytmgjmpmcadjemaa.spentM
  split
  · exact h
  · rename_i hr
    obtain ⟨i, hi, hi2, -⟩ := h.head hr
    have e1 : (s.R.headD 0).toNat = i := by rw [hi]; rfl
    rw [e1]
    split
    · exact h
    · split
      · exact h
      · rename_i h3
        have hc := h.c i hi2
        have h1 : Ok K (useS s i used) := h.setC i _ ⟨by omega, by omega⟩
        have h2 : Ok K (midS (useS s i used) i job stopped) := by
          unfold midS
          split
          · exact h1.out hi2 job
          · split
            · exact h1.rotJ i
            · exact h1
        dsimp only
        unfold restS
        split
        · exact h2.rotR
        · exact h2
end Go.Proofs.Ytmgjmpmcadjemaa

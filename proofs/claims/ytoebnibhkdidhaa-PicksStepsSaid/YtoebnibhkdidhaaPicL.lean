/- Package picks: plain; no program is named here. -/
import Derived.Test.YtoebnibhkdidhaaBitL
import Derived.Test.YtoebnibhkdidhaaMtfL
namespace Go.Proofs.Ytoebnibhkdidhaa
open Go.RowKit

def LET : List UInt8 := [48, 49, 50, 51, 52, 53]
def valU (c : UInt8) : Int := (c.toNat : Int) - 48
def letB (p : Int) : UInt8 := UInt8.ofNat (48 + p.toNat)
theorem letB_nat {p : Int} (h0 : 0 ≤ p) (h5 : p ≤ 5) : (letB p).toNat = 48 + p.toNat := by
  unfold letB
  rw [UInt8.toNat_ofNat']
  exact Nat.mod_eq_of_lt (by omega)
theorem valU_letB {p : Int} (h0 : 0 ≤ p) (h5 : p ≤ 5) : valU (letB p) = p := by
  unfold valU
  rw [letB_nat h0 h5]
  omega
theorem valU_inj {c d : UInt8} (h : valU c = valU d) : c = d := UInt8.toNat_inj.1 (by unfold valU at h; omega)
/-- an order of all tables -/
def OrdP (O : List UInt8) : Prop := O.Perm LET
theorem OrdP.len {O : List UInt8} (h : OrdP O) : O.length = 6 := h.length_eq
theorem OrdP.touch {O : List UInt8} (h : OrdP O) {i : Nat} (hi : i < 6) : OrdP (touchL O i) := (touchL_perm (by rw [h.len]; exact hi)).trans h
theorem LET_val : ∀ c ∈ LET, 0 ≤ valU c ∧ valU c ≤ 5 := by decide
theorem OrdP.val {O : List UInt8} (h : OrdP O) {c : UInt8} (hc : c ∈ O) : 0 ≤ valU c ∧ valU c ≤ 5 := LET_val c (h.mem_iff.1 hc)
theorem letB_mem {p : Int} {t : Nat} (h0 : 0 ≤ p) (h5 : p < t) (ht : t ≤ 6) : letB p ∈ LET.take t := by
  obtain ⟨n, rfl⟩ : ∃ n : Nat, p = n := ⟨p.toNat, by omega⟩
  have : ∀ t, t < 7 → ∀ n, n < t → letB ((n : Nat) : Int) ∈ LET.take t := by decide
  exact this t (by omega) n (by omega)
/-- tables below t stand in the first t places -/
def OrdT (t : Nat) (O : List UInt8) : Prop := OrdP O ∧ (O.take t).Perm (LET.take t)
theorem OrdT.start (t : Nat) : OrdT t LET := ⟨List.Perm.refl _, List.Perm.refl _⟩
theorem touch_take {O : List UInt8} {t i : Nat} (hi : i < t) (ht : t ≤ O.length) : (touchL O i).take t = touchL (O.take t) i := by
  have hc : O[i]? = some O[i] := List.getElem?_eq_getElem (by omega)
  have hc2 : (O.take t)[i]? = some O[i] := by rw [List.getElem?_take, if_pos hi]; exact hc
  rw [touchL_eq hc, touchL_eq hc2]
  obtain ⟨m, rfl⟩ : ∃ m, t = m + 1 := ⟨t - 1, by omega⟩
  rw [List.take_succ_cons, List.take_append, List.length_take, Nat.min_eq_left (by omega), List.take_take, List.take_take, Nat.min_eq_right (by omega), Nat.min_eq_left (by omega), List.drop_take]
  congr 3
  omega
theorem OrdT.touch {t : Nat} {O : List UInt8} (h : OrdT t O) {i : Nat} (hi : i < t) (ht : t ≤ 6) : OrdT t (touchL O i) := by
  refine ⟨h.1.touch (by omega), ?_⟩
  rw [touch_take hi (by rw [h.1.len]; exact ht)]
  exact (touchL_perm (by rw [List.length_take, h.1.len]; omega)).trans h.2
def placeP (O : List UInt8) (p : Int) : Nat := (plc O (letB p)).getD 0
theorem placeP_ok {O : List UInt8} (h : OrdP O) {p : Int} (h0 : 0 ≤ p) (h5 : p ≤ 5) : plc O (letB p) = some (placeP O p) ∧ placeP O p < 6 ∧ O[placeP O p]? = some (letB p) ∧ ∀ (i : Nat) (c : UInt8), i < placeP O p → O[i]? = some c → valU c ≠ p := by
  have hm : letB p ∈ O := h.mem_iff.2 (List.mem_of_mem_take (letB_mem (t := 6) h0 (by omega) (Nat.le_refl _)))
  unfold placeP
  cases hq : plc O (letB p) with
  | none =>
    unfold plc at hq
    rw [List.findIdx?_eq_none_iff] at hq
    have := hq _ hm
    simp at this
  | some k =>
    obtain ⟨h1, h2⟩ := plc_some hq
    refine ⟨rfl, by rw [h.len] at h2; exact h2, h1, fun i c hi hc e => ?_⟩
    unfold plc at hq
    rw [List.findIdx?_eq_some_iff_getElem] at hq
    obtain ⟨_, _, hno⟩ := hq
    have hi' : i < k := hi
    have := hno i hi'
    obtain ⟨hil, hce⟩ := List.getElem?_eq_some_iff.1 hc
    rw [hce] at this
    have e2 : c = letB p := valU_inj (by rw [e, valU_letB h0 h5])
    rw [e2] at this
    simp at this
theorem placeP_lt {t : Nat} {O : List UInt8} (h : OrdT t O) (ht : t ≤ 6) {p : Int} (h0 : 0 ≤ p) (hp : p < t) : placeP O p < t := by
  obtain ⟨h1, h2, h3, h4⟩ := placeP_ok h.1 h0 (by omega)
  have hm := h.2.mem_iff.2 (letB_mem h0 hp ht)
  obtain ⟨i, hi⟩ := List.getElem?_of_mem hm
  have hil := (List.getElem?_eq_some_iff.1 hi).1
  rw [List.length_take] at hil
  rw [List.getElem?_take, if_pos (by omega)] at hi
  by_cases hlt : i < placeP O p
  · exact absurd (valU_letB h0 (by omega)) (h4 i _ hlt hi)
  · omega
def placesP : List UInt8 → List Int → List Nat
  | _, [] => []
  | O, p :: l => placeP O p :: placesP (touchL O (placeP O p)) l
/-- the order behind picks -/
def ordP : List UInt8 → List Int → List UInt8
  | O, [] => O
  | O, p :: l => ordP (touchL O (placeP O p)) l
theorem ordP_snoc (l : List Int) (O : List UInt8) (p : Int) : ordP O (l ++ [p]) = touchL (ordP O l) (placeP (ordP O l) p) := by
  induction l generalizing O with
  | nil => rfl
  | cons x l ih => exact ih _
theorem placesP_snoc (l : List Int) (O : List UInt8) (p : Int) : placesP O (l ++ [p]) = placesP O l ++ [placeP (ordP O l) p] := by
  induction l generalizing O with
  | nil => rfl
  | cons x l ih => rw [List.cons_append, placesP, ih]; rfl
theorem placesP_len (l : List Int) (O : List UInt8) : (placesP O l).length = l.length := by
  induction l generalizing O with
  | nil => rfl
  | cons x l ih => rw [placesP, List.length_cons, ih, List.length_cons]
theorem ordP_ok {l : List Int} {O : List UInt8} (h : OrdP O) (hl : ∀ p ∈ l, 0 ≤ p ∧ p ≤ 5) : OrdP (ordP O l) ∧ ∀ k ∈ placesP O l, k < 6 := by
  induction l generalizing O with
  | nil => exact ⟨h, by simp [placesP]⟩
  | cons x l ih =>
    have hx := hl x (by simp)
    obtain ⟨h1, h2, -, -⟩ := placeP_ok h hx.1 hx.2
    obtain ⟨q1, q2⟩ := ih (h.touch h2) (fun p hp => hl p (by simp [hp]))
    refine ⟨q1, fun k hk => ?_⟩
    rw [placesP, List.mem_cons] at hk
    rcases hk with rfl | hk
    · exact h2
    · exact q2 k hk
def unP (k : Nat) : List Bool := List.replicate k true ++ [false]
theorem unP_len (k : Nat) : (unP k).length = k + 1 := by simp [unP]
theorem unP_field {k : Nat} (h : k < 6) : fieldL (2 ^ (k + 1) - 2) (k + 1) = unP k := by
  have : ∀ k, k < 6 → fieldL (2 ^ (k + 1) - 2) (k + 1) = unP k := by decide
  exact this k h
def headP (n t : Nat) : List Bool := fieldL t 3 ++ fieldL n 15
theorem headP_len (n t : Nat) : (headP n t).length = 18 := by unfold headP; rw [List.length_append, fieldL_len, fieldL_len]
def bitsP (l : List Int) (t : Nat) : List Bool := headP l.length t ++ (placesP LET l).flatMap unP
theorem flatP_len {ks : List Nat} (h : ∀ k ∈ ks, k < 6) : (ks.flatMap unP).length ≤ 6 * ks.length ∧ (ks.flatMap unP).length = (ks.map (· + 1)).sum := by
  induction ks with
  | nil => exact ⟨Nat.le_refl _, rfl⟩
  | cons k ks ih =>
    have h0 := h k (by simp)
    obtain ⟨h1, h2⟩ := ih (fun x hx => h x (by simp [hx]))
    rw [List.flatMap_cons, List.length_append, unP_len, List.length_cons, List.map_cons, List.sum_cons]
    omega
def tabP (t : Int) : Bool := decide (2 ≤ t) && decide (t ≤ 6)
def inP (t p : Int) : Bool := decide (p < 0) || decide (t ≤ p)
def mayP (l : List Int) (t : Int) : Bool := tabP t && (decide (l.length ≠ 0) && (decide (l.length ≤ 32767) && !l.any (inP t)))
theorem tabP_iff {t : Int} : tabP t = true ↔ 2 ≤ t ∧ t ≤ 6 := by simp [tabP]
theorem mayP_iff {l : List Int} {t : Int} : mayP l t = true ↔ (2 ≤ t ∧ t ≤ 6) ∧ 0 < l.length ∧ l.length ≤ 32767 ∧ ∀ p ∈ l, 0 ≤ p ∧ p < t := by
  unfold mayP
  simp only [Bool.and_eq_true, tabP_iff, decide_eq_true_eq, Bool.not_eq_true', List.any_eq_false, inP, Bool.or_eq_true, not_or]
  constructor
  · rintro ⟨h1, h2, h3, h4⟩
    exact ⟨h1, by omega, h3, fun p hp => by have := h4 p hp; omega⟩
  · rintro ⟨h1, h2, h3, h4⟩
    exact ⟨h1, by omega, h3, fun p hp => by have := h4 p hp; omega⟩
theorem bitsP_len {l : List Int} {t : Int} (h : mayP l t = true) : 18 ≤ (bitsP l t.toNat).length ∧ (bitsP l t.toNat).length ≤ 18 + 6 * l.length := by
  obtain ⟨h1, h2, h3, h4⟩ := mayP_iff.1 h
  have hk := (ordP_ok (l := l) (List.Perm.refl LET) (fun p hp => by have := h4 p hp; omega)).2
  have := (flatP_len hk).1
  rw [placesP_len] at this
  unfold bitsP
  rw [List.length_append, headP_len]
  omega

def onesL : List Bool → Nat
  | true :: r => onesL r + 1
  | _ => 0
theorem onesL_le (r : List Bool) : onesL r ≤ r.length := by
  induction r with
  | nil => exact Nat.le_refl _
  | cons b r ih => cases b <;> simp [onesL]; exact ih
theorem onesL_un (k : Nat) (r : List Bool) : onesL (unP k ++ r) = k := by
  induction k with
  | zero => rfl
  | succ k ih =>
    have : unP (k + 1) = true :: unP k := rfl
    rw [this, List.cons_append, onesL, ih]
theorem onesL_more (r t : List Bool) : (onesL r < r.length → onesL (r ++ t) = onesL r) ∧ onesL r ≤ onesL (r ++ t) := by
  induction r with
  | nil => exact ⟨fun h => absurd h (Nat.lt_irrefl _), Nat.zero_le _⟩
  | cons b r ih =>
    cases b with
    | false => exact ⟨fun _ => rfl, Nat.le_refl _⟩
    | true =>
      rw [List.cons_append, onesL, onesL, List.length_cons]
      exact ⟨fun h => by rw [ih.1 (by omega)], by have := ih.2; omega⟩
abbrev ResP := List Int × Nat × Nat × Nat × Int
/-- reading on: m picks are left -/
def loopP (t : Nat) : Nat → List UInt8 → List Int → Nat → List Bool → ResP
  | 0, _, l, a, _ => (l, t, a, a, 0)
  | m + 1, O, l, a, r => if t ≤ onesL r then ([], 0, 0, a + t, 25) else if onesL r = r.length then ([], 0, 0, 0, 3) else loopP t m (touchL O (onesL r)) (l ++ [valU (O.getD (onesL r) 0)]) (a + (onesL r + 1)) (r.drop (onesL r + 1))
def goP (t count : Nat) (O : List UInt8) (l : List Int) (a : Nat) (r : List Bool) : ResP :=
  if count = 0 then (if r.length < 18 then ([], 0, 0, 0, 3) else if 2 ≤ numL (r.take 3) ∧ numL (r.take 3) ≤ 6 ∧ numL ((r.drop 3).take 15) ≠ 0 then loopP (numL (r.take 3)) (numL ((r.drop 3).take 15) - l.length) O l (a + 18) (r.drop 18) else ([], 0, 0, a + 18, 25))
  else loopP t (count - l.length) O l a r
def refP (all : List Bool) : ResP := goP 0 0 LET [] 0 all
theorem goP_done {t count : Nat} {O : List UInt8} {l : List Int} {a : Nat} (r : List Bool) (h : l.length = count) (hn : count ≠ 0) : goP t count O l a r = (l, t, a, a, 0) := by
  unfold goP
  rw [if_neg hn, h, Nat.sub_self, loopP]
/-- a step: an error, how many bits it took, tables, picks, the order, and what was taken in -/
def stepP (t count : Nat) (O : List UInt8) (r : List Bool) : Int × Nat × Nat × Nat × List UInt8 × List Int :=
  if count = 0 then (if r.length < 18 then (3, 0, t, count, O, []) else if 2 ≤ numL (r.take 3) ∧ numL (r.take 3) ≤ 6 ∧ numL ((r.drop 3).take 15) ≠ 0 then (0, 18, numL (r.take 3), numL ((r.drop 3).take 15), O, []) else (25, 18, t, count, O, []))
  else if t ≤ onesL r then (25, t, t, count, O, []) else if onesL r = r.length then (3, 0, t, count, O, []) else (0, onesL r + 1, t, count, touchL O (onesL r), [valU (O.getD (onesL r) 0)])
theorem stepP_more {t count : Nat} {O : List UInt8} {r : List Bool} (tl : List Bool) (h : (stepP t count O r).1 ≠ 3) : stepP t count O (r ++ tl) = stepP t count O r := by
  unfold stepP at h ⊢
  by_cases h0 : count = 0
  · rw [if_pos h0] at h ⊢
    rw [if_pos h0]
    by_cases h1 : r.length < 18
    · rw [if_pos h1] at h; exact absurd rfl h
    · rw [if_neg h1, if_neg (by rw [List.length_append]; omega), List.take_append_of_le_length (by omega), List.drop_append_of_le_length (by omega), List.take_append_of_le_length (by rw [List.length_drop]; omega)]
  · rw [if_neg h0] at h ⊢
    rw [if_neg h0]
    by_cases h1 : t ≤ onesL r
    · rw [if_pos h1, if_pos (Nat.le_trans h1 (onesL_more r tl).2)]
    · rw [if_neg h1] at h ⊢
      by_cases h2 : onesL r = r.length
      · rw [if_pos h2] at h; exact absurd rfl h
      · have hlt : onesL r < r.length := by have := onesL_le r; omega
        rw [(onesL_more r tl).1 hlt, if_neg h1, if_neg h2, if_neg (by rw [List.length_append]; omega)]
theorem stepP_cases (t count : Nat) (O : List UInt8) (r : List Bool) : (stepP t count O r).1 = 0 ∨ stepP t count O r = (3, 0, t, count, O, []) ∨ ∃ u, stepP t count O r = (25, u, t, count, O, []) := by
  unfold stepP
  split
  · split
    · exact .inr (.inl rfl)
    · split
      · exact .inl rfl
      · exact .inr (.inr ⟨_, rfl⟩)
  · split
    · exact .inr (.inr ⟨_, rfl⟩)
    · split
      · exact .inr (.inl rfl)
      · exact .inl rfl
/-- what is known of a state -/
structure StP (t count : Nat) (O : List UInt8) (l : List Int) : Prop where
  ord : OrdP O
  tab : count ≠ 0 → 2 ≤ t ∧ t ≤ 6
  nil : count = 0 → l = [] ∧ t = 0
  le : l.length ≤ count
  cnt : count < 32768
  val : ∀ p ∈ l, 0 ≤ p ∧ p ≤ 5
theorem StP.start : StP 0 0 LET [] := ⟨List.Perm.refl _, fun h => absurd rfl h, fun _ => ⟨rfl, rfl⟩, Nat.le_refl _, by decide, by simp⟩
theorem goP_step {t count : Nat} {O : List UInt8} {l : List Int} (a : Nat) {r : List Bool} {e : Int} {u t' c' : Nat} {O' : List UInt8} {app : List Int} (h : stepP t count O r = (e, u, t', c', O', app)) (hs : StP t count O l) (hd : ¬ (count ≠ 0 ∧ l.length = count)) :
    (e = 0 ∧ StP t' c' O' (l ++ app) ∧ c' ≠ 0 ∧ u ≤ r.length ∧ 0 < u ∧ goP t count O l a r = goP t' c' O' (l ++ app) (a + u) (r.drop u)) ∨
    (e = 3 ∧ u = 0 ∧ t' = t ∧ c' = count ∧ O' = O ∧ app = [] ∧ goP t count O l a r = ([], 0, 0, 0, 3)) ∨ (e = 25 ∧ u ≤ r.length ∧ t' = t ∧ c' = count ∧ O' = O ∧ app = [] ∧ goP t count O l a r = ([], 0, 0, a + u, 25)) := by
  unfold stepP at h
  by_cases h0 : count = 0
  · obtain ⟨hl, ht⟩ := hs.nil h0
    subst hl
    rw [if_pos h0] at h
    by_cases h1 : r.length < 18
    · rw [if_pos h1] at h
      simp only [Prod.mk.injEq] at h
      obtain ⟨rfl, rfl, rfl, rfl, rfl, rfl⟩ := h
      refine .inr (.inl ⟨rfl, rfl, rfl, rfl, rfl, rfl, ?_⟩)
      unfold goP
      rw [if_pos h0, if_pos h1]
    · rw [if_neg h1] at h
      have hn := numL_lt ((r.drop 3).take 15)
      rw [List.length_take, List.length_drop, Nat.min_eq_left (by omega)] at hn
      by_cases h2 : 2 ≤ numL (r.take 3) ∧ numL (r.take 3) ≤ 6 ∧ numL ((r.drop 3).take 15) ≠ 0
      · rw [if_pos h2] at h
        simp only [Prod.mk.injEq] at h
        obtain ⟨rfl, rfl, rfl, rfl, rfl, rfl⟩ := h
        refine .inl ⟨rfl, ⟨hs.ord, fun _ => ⟨h2.1, h2.2.1⟩, fun h => absurd h h2.2.2, Nat.zero_le _, hn, by simp⟩, h2.2.2, by omega, by decide, ?_⟩
        unfold goP
        rw [if_pos h0, if_neg h1, if_pos h2, if_neg h2.2.2]
        rfl
      · rw [if_neg h2] at h
        simp only [Prod.mk.injEq] at h
        obtain ⟨rfl, rfl, rfl, rfl, rfl, rfl⟩ := h
        refine .inr (.inr ⟨rfl, by omega, rfl, rfl, rfl, rfl, ?_⟩)
        unfold goP
        rw [if_pos h0, if_neg h1, if_neg h2]
  · have hlt : l.length < count := by have := hs.le; have : l.length ≠ count := fun e => hd ⟨h0, e⟩; omega
    obtain ⟨m, hm⟩ : ∃ m, count - l.length = m + 1 := ⟨count - l.length - 1, by omega⟩
    have hg : goP t count O l a r = loopP t (m + 1) O l a r := by unfold goP; rw [if_neg h0, hm]
    rw [hg, loopP]
    have ht := hs.tab h0
    rw [if_neg h0] at h
    by_cases h1 : t ≤ onesL r
    · rw [if_pos h1] at h ⊢
      simp only [Prod.mk.injEq] at h
      obtain ⟨rfl, rfl, rfl, rfl, rfl, rfl⟩ := h
      exact .inr (.inr ⟨rfl, Nat.le_trans h1 (onesL_le r), rfl, rfl, rfl, rfl, rfl⟩)
    · rw [if_neg h1] at h ⊢
      by_cases h2 : onesL r = r.length
      · rw [if_pos h2] at h ⊢
        simp only [Prod.mk.injEq] at h
        obtain ⟨rfl, rfl, rfl, rfl, rfl, rfl⟩ := h
        exact .inr (.inl ⟨rfl, rfl, rfl, rfl, rfl, rfl, rfl⟩)
      · rw [if_neg h2] at h ⊢
        simp only [Prod.mk.injEq] at h
        obtain ⟨rfl, rfl, rfl, rfl, rfl, rfl⟩ := h
        have hr := onesL_le r
        have hO := hs.ord.len
        refine .inl ⟨rfl, ⟨hs.ord.touch (by omega), fun _ => ht, fun h => absurd h h0, by rw [List.length_append]; exact hlt, hs.cnt, fun p hp => ?_⟩, h0, by omega, by omega, ?_⟩
        · rcases List.mem_append.1 hp with hp | hp
          · exact hs.val p hp
          · rw [List.mem_singleton.1 hp, List.getD_eq_getElem?_getD, List.getElem?_eq_getElem (by omega)]
            exact hs.ord.val (List.getElem_mem _)
        · unfold goP
          rw [if_neg h0, List.length_append, List.length_singleton]
          congr 1
          omega
theorem loopP_run {t : Nat} (ht : t ≤ 6) (ps : List Int) {O : List UInt8} {l : List Int} {a : Nat} (r : List Bool) (h : OrdT t O) (hp : ∀ p ∈ ps, 0 ≤ p ∧ p < t) :
    loopP t ps.length O l a ((placesP O ps).flatMap unP ++ r) = (l ++ ps, t, a + ((placesP O ps).flatMap unP).length, a + ((placesP O ps).flatMap unP).length, 0) := by
  induction ps generalizing O l a with
  | nil => simp [placesP, loopP]
  | cons p ps ih =>
    have h0 := hp p (by simp)
    obtain ⟨-, -, h3, -⟩ := placeP_ok h.1 h0.1 (by omega)
    have hlt := placeP_lt h ht h0.1 h0.2
    have hv : valU (O.getD (placeP O p) 0) = p := by rw [List.getD_eq_getElem?_getD, h3]; exact valU_letB h0.1 (by omega)
    rw [placesP, List.flatMap_cons, List.append_assoc, List.length_cons, loopP, onesL_un, if_neg (by omega), if_neg (by rw [List.length_append, unP_len]; omega), hv]
    have hd : (unP (placeP O p) ++ ((placesP (touchL O (placeP O p)) ps).flatMap unP ++ r)).drop (placeP O p + 1) = (placesP (touchL O (placeP O p)) ps).flatMap unP ++ r := by
      rw [← unP_len, List.drop_left]
    rw [hd, ih (h.touch hlt ht) (fun q hq => hp q (by simp [hq])), List.append_assoc, List.length_append, unP_len]
    simp
    omega
theorem refP_bits {l : List Int} {t : Int} (h : mayP l t = true) (r : List Bool) : refP (bitsP l t.toNat ++ r) = (l, t.toNat, (bitsP l t.toNat).length, (bitsP l t.toNat).length, 0) := by
  obtain ⟨h1, h2, h3, h4⟩ := mayP_iff.1 h
  unfold refP goP bitsP
  have hh : (headP l.length t.toNat).length = 18 := headP_len _ _
  have e3 : (headP l.length t.toNat ++ (placesP LET l).flatMap unP ++ r).take 3 = fieldL t.toNat 3 := by
    unfold headP
    rw [List.append_assoc, List.append_assoc, List.take_append_of_le_length (by rw [fieldL_len]; omega), List.take_of_length_le (by rw [fieldL_len]; omega)]
  have e15 : ((headP l.length t.toNat ++ (placesP LET l).flatMap unP ++ r).drop 3).take 15 = fieldL l.length 15 := by
    unfold headP
    rw [List.append_assoc, List.append_assoc, List.drop_append_of_le_length (by rw [fieldL_len]; omega), List.drop_of_length_le (by rw [fieldL_len]; omega), List.nil_append, List.take_append_of_le_length (by rw [fieldL_len]; omega), List.take_of_length_le (by rw [fieldL_len]; omega)]
  have e18 : (headP l.length t.toNat ++ (placesP LET l).flatMap unP ++ r).drop 18 = (placesP LET l).flatMap unP ++ r := by
    rw [List.append_assoc, ← hh, List.drop_left]
  have n3 : numL (fieldL t.toNat 3) = t.toNat := numL_field_of (by omega)
  have n15 : numL (fieldL l.length 15) = l.length := numL_field_of (by omega)
  rw [if_pos rfl, if_neg (by rw [List.length_append, List.length_append, hh]; omega), e3, e15, e18, n3, n15, if_pos ⟨by omega, by omega, by omega⟩]
  show loopP t.toNat (l.length - 0) LET [] (0 + 18) _ = _
  rw [Nat.sub_zero, loopP_run (by omega) l r (OrdT.start _) (fun p hp => by have := h4 p hp; omega), List.length_append, hh]
  simp
theorem refP_pad {l : List Int} {t : Int} (h : mayP l t = true) (M : List UInt8) : refP ((bitsL (bytesL (padL (bitsP l t.toNat)) ++ M)).drop 0) = (l, t.toNat, (bitsP l t.toNat).length, (bitsP l t.toNat).length, 0) := by
  obtain ⟨m, hm, -⟩ := padL_pre (bitsP l t.toNat)
  rw [List.drop_zero, bitsL_append, bitsL_pack, hm, List.append_assoc]
  exact refP_bits h _
theorem loopP_bd (t : Nat) (m : Nat) (O : List UInt8) (l : List Int) (a : Nat) (r : List Bool) (ht : t ≤ 6) (hO : OrdP O) (hl : ∀ p ∈ l, 0 ≤ p ∧ p ≤ 5) :
    (loopP t m O l a r).2.2.1 ≤ a + r.length ∧ (loopP t m O l a r).2.2.2.1 ≤ a + r.length ∧ (loopP t m O l a r).2.1 ≤ 6 ∧ ∀ p ∈ (loopP t m O l a r).1, 0 ≤ p ∧ p ≤ 5 := by
  induction m generalizing O l a r with
  | zero => exact ⟨by simp [loopP], by simp [loopP], ht, hl⟩
  | succ m ih =>
    rw [loopP]
    have h0 := onesL_le r
    split
    · refine ⟨Nat.zero_le _, ?_, Nat.zero_le _, by simp⟩
      show a + t ≤ _
      omega
    · split
      · exact ⟨Nat.zero_le _, Nat.zero_le _, Nat.zero_le _, by simp⟩
      · have hx := ih (touchL O (onesL r)) (l ++ [valU (O.getD (onesL r) 0)]) (a + (onesL r + 1)) (r.drop (onesL r + 1)) (hO.touch (by omega)) (fun p hp => by
          rcases List.mem_append.1 hp with hp | hp
          · exact hl p hp
          · rw [List.mem_singleton.1 hp, List.getD_eq_getElem?_getD, List.getElem?_eq_getElem (by rw [hO.len]; omega)]
            exact hO.val (List.getElem_mem _))
        rw [List.length_drop] at hx
        exact ⟨by omega, by omega, hx.2.2.1, hx.2.2.2⟩
theorem refP_bd (all : List Bool) : (refP all).2.2.1 ≤ all.length ∧ (refP all).2.2.2.1 ≤ all.length + 18 ∧ (refP all).2.1 ≤ 6 ∧ ∀ p ∈ (refP all).1, 0 ≤ p ∧ p ≤ 5 := by
  unfold refP goP
  rw [if_pos rfl]
  split
  · exact ⟨Nat.zero_le _, Nat.zero_le _, Nat.zero_le _, by simp⟩
  · split
    · rename_i h2
      have hx := loopP_bd (numL (all.take 3)) (numL ((all.drop 3).take 15) - ([] : List Int).length) LET [] (0 + 18) (all.drop 18) h2.2.1 (List.Perm.refl _) (by simp)
      rw [List.length_drop] at hx
      exact ⟨by omega, by omega, hx.2.2.1, hx.2.2.2⟩
    · refine ⟨Nat.zero_le _, ?_, Nat.zero_le _, by simp⟩
      show 0 + 18 ≤ _
      omega
end Go.Proofs.Ytoebnibhkdidhaa

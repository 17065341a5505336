/- Package drr: plain; the turns are fair; no program is named here. -/
import Derived.Test.YtmgjmpmcadjemaaDrrL
namespace Go.Proofs.Ytmgjmpmcadjemaa
open Go.RowKit

/-- tenants with a round number: those of a are to come, those of b have been -/
structure FairAt (r : Nat) (a b : List Int) (s : Sch) (U : List Int) : Prop where
  ring : s.R = a ++ b
  ne : a ≠ []
  lu : U.length = s.Q.length
  all : ∀ i : Nat, i < s.Q.length → (i : Int) ∈ s.R
  rest : ∀ i : Nat, i < s.Q.length → (i : Int) ≠ a.headD 0 → s.C.getD i 0 = 0
  todo : ∀ i : Nat, i < s.Q.length → (i : Int) ∈ a → (i : Int) ≠ a.headD 0 → U.getD i 0 = (r : Int) * s.Q.getD i 0
  done : ∀ i : Nat, i < s.Q.length → (i : Int) ∈ b → U.getD i 0 = ((r : Int) + 1) * s.Q.getD i 0
  now : ∀ i : Nat, i < s.Q.length → (i : Int) = a.headD 0 → (s.C.getD i 0 = 0 ∧ U.getD i 0 = (r : Int) * s.Q.getD i 0) ∨ (0 < s.C.getD i 0 ∧ U.getD i 0 = ((r : Int) + 1) * s.Q.getD i 0 - s.C.getD i 0)

theorem FairAt.between {r K : Nat} {a b : List Int} {s : Sch} {U : List Int} (h : FairAt r a b s U) (ok : Ok K s) {i : Nat} (hi : i < s.Q.length) : (r : Int) * s.Q.getD i 0 ≤ U.getD i 0 ∧ U.getD i 0 ≤ ((r : Int) + 1) * s.Q.getD i 0 := by
  have hq := (ok.q i hi).1
  have hc := ok.c i hi
  have e : ((r : Int) + 1) * s.Q.getD i 0 = (r : Int) * s.Q.getD i 0 + s.Q.getD i 0 := by rw [Int.add_mul, Int.one_mul]
  have hm := h.all i hi
  rw [h.ring] at hm
  rcases List.mem_append.1 hm with q | q
  · by_cases e2 : (i : Int) = a.headD 0
    · rcases h.now i hi e2 with ⟨_, q2⟩ | ⟨_, q2⟩ <;> omega
    · have := h.todo i hi q e2
      omega
  · have := h.done i hi q
    omega
/-- any two differ by one quantum at most -/
theorem FairAt.fair {r K : Nat} {a b : List Int} {s : Sch} {U : List Int} (h : FairAt r a b s U) (ok : Ok K s) {i j : Nat} (hi : i < s.Q.length) (hj : j < s.Q.length) :
    U.getD i 0 * s.Q.getD j 0 - U.getD j 0 * s.Q.getD i 0 ≤ s.Q.getD i 0 * s.Q.getD j 0 := by
  have h1 := (h.between ok hi).2
  have h2 := (h.between ok hj).1
  have hqi := (ok.q i hi).1
  have hqj := (ok.q j hj).1
  have h3 := Int.mul_le_mul_of_nonneg_right h1 (show 0 ≤ s.Q.getD j 0 by omega)
  have h4 := Int.mul_le_mul_of_nonneg_right h2 (show 0 ≤ s.Q.getD i 0 by omega)
  have e1 : ((r : Int) + 1) * s.Q.getD i 0 * s.Q.getD j 0 = (r : Int) * (s.Q.getD i 0 * s.Q.getD j 0) + s.Q.getD i 0 * s.Q.getD j 0 := by rw [Int.mul_assoc, Int.add_mul, Int.one_mul]
  have e2 : (r : Int) * s.Q.getD j 0 * s.Q.getD i 0 = (r : Int) * (s.Q.getD i 0 * s.Q.getD j 0) := by rw [Int.mul_assoc, Int.mul_comm (s.Q.getD j 0)]
  omega
/-- steps a turn may take -/
def credF (s : Sch) (i : Nat) : Int := if s.C.getD i 0 = 0 then s.Q.getD i 0 else s.C.getD i 0
theorem fillS_C {s : Sch} {i : Nat} (hi : i < s.C.length) : (fillS s i).C.getD i 0 = credF s i := by
  unfold fillS credF
  split
  · exact getD_set_eq hi _ _
  · rfl
theorem fillS_J (s : Sch) (i : Nat) : (fillS s i).J = s.J := by unfold fillS; split <;> rfl
theorem fillS_Q (s : Sch) (i : Nat) : (fillS s i).Q = s.Q := by unfold fillS; split <;> rfl
theorem fillS_R (s : Sch) (i : Nat) : (fillS s i).R = s.R := by unfold fillS; split <;> rfl
theorem fillS_ne {s : Sch} {i j : Nat} (h : i ≠ j) : (fillS s i).C.getD j 0 = s.C.getD j 0 := by
  unfold fillS
  split
  · exact getD_set_ne h _ _
  · rfl

/-- a turn that is used -/
structure TurnF (s : Sch) (bud : Int) (left : List Int) (i : Nat) (jb st : Int) (s2 : Sch) : Prop where
  next : nextM s bud left = (fillS s i, some ((i : Int), jb, st))
  hi : i < s.Q.length
  s1 : 1 ≤ st
  sb : st ≤ bud
  sc : st ≤ 1000
  sp : spentM (fillS s i) jb st false = (0, s2)

theorem fair_step {r K : Nat} {a b : List Int} {s : Sch} {U left : List Int} {bud : Int} (h : FairAt r a b s U) (ok : Ok K s) (hq : ∀ i, i < s.Q.length → s.Q.getD i 0 ≤ 1000) (hb : 1 ≤ bud) (hl : left.length = s.Q.length) (hle : ∀ i, i < left.length → left.getD i 0 = 1099511627776) :
    ∃ i jb st s2, TurnF s bud left i jb st s2 ∧ s2.Q = s.Q ∧ ∃ r2 a2 b2, r2 ≤ r + 1 ∧ FairAt r2 a2 b2 s2 (U.set i (U.getD i 0 + st)) := by
  obtain ⟨t, a', rfl⟩ : ∃ t a', a = t :: a' := by
    cases a with
    | nil => exact absurd rfl h.ne
    | cons t a' => exact ⟨t, a', rfl⟩
  have hR : s.R = t :: (a' ++ b) := h.ring
  obtain ⟨i, rfl, hi, hne⟩ := ok.r t (by rw [hR]; simp)
  have hhd : s.R.headD 0 = (i : Int) := by rw [hR]; rfl
  have htn : (s.R.headD 0).toNat = i := by rw [hhd]; rfl
  have hli : left.getD i 0 = 1099511627776 := hle i (by rw [hl]; exact hi)
  have hcl : i < s.C.length := by rw [ok.lc]; exact hi
  have hqi := ok.q i hi
  have hqk := hq i hi
  have hci := ok.c i hi
  have hcf : 1 ≤ credF s i ∧ credF s i ≤ 1000 := by
    unfold credF
    split <;> omega
  obtain ⟨x, l', hJ⟩ : ∃ x l', s.J.getD i [] = x :: l' := by
    cases hc : s.J.getD i [] with
    | nil => exact absurd hc hne
    | cons x l' => exact ⟨x, l', rfl⟩
  have hU : i < U.length := by rw [h.lu]; exact hi
  -- the turn
  have hnext : nextM s bud left = (fillS s i, some ((i : Int), x, min (min (credF s i) bud) 1099511627776)) := by
    unfold nextM
    rw [if_neg (fun e => e.elim (fun q => by omega) (fun q => q hl)), hR]
    show nextR left bud ((a' ++ b).length + 1) s = _
    rw [nextR, htn, hli, if_neg (by decide), hhd, fillS_C hcl, hJ]
    rfl
  obtain ⟨st, hst⟩ : ∃ st, min (min (credF s i) bud) 1099511627776 = st := ⟨_, rfl⟩
  rw [hst] at hnext
  have hst1 : 1 ≤ st ∧ st ≤ bud ∧ st ≤ credF s i := by omega
  -- the end of the turn
  have hfi : i < (fillS s i).C.length := by
    unfold fillS
    split
    · rw [List.length_set]; exact hcl
    · exact hcl
  have hspent : spentM (fillS s i) x st false = (0, restS (midS (useS (fillS s i) i st) i x false) i) := by
    unfold spentM
    rw [if_neg (by rw [fillS_R, hR]; simp), fillS_R, htn, fillS_J, hJ]
    show (if x ≠ x then _ else _) = _
    rw [if_neg (fun e => e rfl), fillS_C hcl, if_neg (fun e => by rcases e with e | e <;> omega)]
  obtain ⟨c2, hc2⟩ : ∃ c2, credF s i - st = c2 := ⟨_, rfl⟩
  have hu1 : (useS (fillS s i) i st).C.getD i 0 = c2 := by
    unfold useS
    rw [getD_set_eq hfi, fillS_C hcl, hc2]
  have hu2 : ∀ j, i ≠ j → (useS (fillS s i) i st).C.getD j 0 = s.C.getD j 0 := fun j hj => by
    unfold useS
    rw [getD_set_ne hj, fillS_ne hj]
  have hJu : (useS (fillS s i) i st).J = s.J := fillS_J s i
  have hRu : (useS (fillS s i) i st).R = s.R := fillS_R s i
  have hQu : (useS (fillS s i) i st).Q = s.Q := fillS_Q s i
  have hlj : i < s.J.length := by rw [ok.lj]; exact hi
  have eU : ∀ j, i ≠ j → (U.set i (U.getD i 0 + st)).getD j 0 = U.getD j 0 := fun j hj => getD_set_ne hj _ _
  have eUi : (U.set i (U.getD i 0 + st)).getD i 0 = U.getD i 0 + st := getD_set_eq hU _ _
  have hnow := h.now i hi rfl
  have hUi : U.getD i 0 + st = ((r : Int) + 1) * s.Q.getD i 0 - c2 := by
    have e : ((r : Int) + 1) * s.Q.getD i 0 = (r : Int) * s.Q.getD i 0 + s.Q.getD i 0 := by rw [Int.add_mul, Int.one_mul]
    unfold credF at hc2
    rcases hnow with ⟨q1, q2⟩ | ⟨q1, q2⟩
    · rw [if_pos q1] at hc2; omega
    · rw [if_neg (by omega)] at hc2; omega
  have hnd : ((i : Int) :: (a' ++ b)).Nodup := by have := ok.rn; rwa [hR] at this
  have hni : (i : Int) ∉ a' ++ b := (List.nodup_cons.1 hnd).1
  refine ⟨i, x, st, _, ⟨hnext, hi, hst1.1, hst1.2.1, by omega, hspent⟩, ?_, ?_⟩
  · unfold restS midS rotS
    rw [if_neg Bool.false_ne_true]
    split <;> split <;> exact hQu
  · by_cases e0 : c2 = 0
    · -- the quantum is used up
      have hs2 : restS (midS (useS (fillS s i) i st) i x false) i = { rotS (useS (fillS s i) i st) i with R := rotL (useS (fillS s i) i st).R } := by
        unfold midS
        rw [if_neg Bool.false_ne_true, hu1, if_pos e0]
        unfold restS
        have e1 : (rotS (useS (fillS s i) i st) i).C.getD i 0 = 0 := hu1.trans e0
        have e2 : (rotS (useS (fillS s i) i st) i).J.getD i [] ≠ [] := by
          unfold rotS
          dsimp only
          rw [getD_set_eq (by rw [hJu]; exact hlj), hJu, hJ]
          simp [rotL]
        rw [if_pos ⟨e1, e2⟩]
        rfl
      rw [hs2]
      have hR2 : rotL (useS (fillS s i) i st).R = a' ++ (b ++ [(i : Int)]) := by rw [hRu, hR, ← List.append_assoc]; rfl
      have hin : ∀ j : Nat, i ≠ j → ((j : Int) ∈ a' ++ (b ++ [(i : Int)]) ↔ (j : Int) ∈ a' ∨ (j : Int) ∈ b) := fun j hj => by
        have : (j : Int) ≠ (i : Int) := fun e => hj (by omega)
        simp [this]
      have hall : ∀ j : Nat, j < s.Q.length → (j : Int) ∈ a' ++ (b ++ [(i : Int)]) := fun j hj => by
        by_cases e : i = j
        · subst e; simp
        · rw [hin j e]
          have hm := h.all j hj
          rw [hR] at hm
          have : (j : Int) ≠ (i : Int) := fun q => e (by omega)
          simpa [this] using hm
      cases ha : a' with
      | cons y a2 =>
        refine ⟨r, a', b ++ [(i : Int)], by omega, ?_⟩
        refine { ring := hR2, ne := by rw [ha]; simp, lu := by rw [List.length_set]; exact h.lu.trans (congrArg List.length hQu).symm, all := fun j hj => ?_, rest := fun j hj hj2 => ?_, todo := fun j hj hj1 hj2 => ?_, done := fun j hj hj1 => ?_, now := fun j hj hj1 => ?_ }
        · have hj' : j < s.Q.length := by rw [← hQu]; exact hj
          show (j : Int) ∈ rotL (useS (fillS s i) i st).R
          rw [hR2]; exact hall j hj'
        · have hj' : j < s.Q.length := by rw [← hQu]; exact hj
          show (useS (fillS s i) i st).C.getD j 0 = 0
          by_cases e : i = j
          · subst e; rw [hu1, e0]
          · rw [hu2 j e]
            exact h.rest j hj' (fun q => e (by have q' : (j : Int) = (i : Int) := q; omega))
        · have hj' : j < s.Q.length := by rw [← hQu]; exact hj
          have e : i ≠ j := fun q => hni (by rw [q]; exact List.mem_append_left _ hj1)
          show (U.set i (U.getD i 0 + st)).getD j 0 = (r : Int) * (useS (fillS s i) i st).Q.getD j 0
          rw [eU j e, hQu]
          exact h.todo j hj' (List.mem_cons_of_mem _ hj1) (fun q => e (by have q' : (j : Int) = (i : Int) := q; omega))
        · have hj' : j < s.Q.length := by rw [← hQu]; exact hj
          show (U.set i (U.getD i 0 + st)).getD j 0 = ((r : Int) + 1) * (useS (fillS s i) i st).Q.getD j 0
          rw [hQu]
          by_cases e : i = j
          · subst e; rw [eUi, hUi, e0, Int.sub_zero]
          · rw [eU j e]
            have : (j : Int) ≠ (i : Int) := fun q => e (by omega)
            exact h.done j hj' (by simpa [this] using hj1)
        · have hj' : j < s.Q.length := by rw [← hQu]; exact hj
          have hja : (j : Int) ∈ a' := by rw [hj1, ha]; simp
          have e : i ≠ j := fun q => hni (by rw [q]; exact List.mem_append_left _ hja)
          have e3 : (j : Int) ≠ ((i : Int) :: a').headD 0 := fun q => e (by have q' : (j : Int) = (i : Int) := q; omega)
          left
          refine ⟨?_, ?_⟩
          · show (useS (fillS s i) i st).C.getD j 0 = 0
            rw [hu2 j e]
            exact h.rest j hj' e3
          · show (U.set i (U.getD i 0 + st)).getD j 0 = (r : Int) * (useS (fillS s i) i st).Q.getD j 0
            rw [eU j e, hQu]
            exact h.todo j hj' (List.mem_cons_of_mem _ hja) e3
      | nil =>
        rw [ha] at hR2 hin hall hni
        refine ⟨r + 1, b ++ [(i : Int)], [], by omega, ?_⟩
        have hval : ∀ j : Nat, j < s.Q.length → (U.set i (U.getD i 0 + st)).getD j 0 = ((r + 1 : Nat) : Int) * s.Q.getD j 0 := fun j hj => by
          have er : ((r + 1 : Nat) : Int) = (r : Int) + 1 := by omega
          rw [er]
          by_cases e : i = j
          · subst e; rw [eUi, hUi, e0, Int.sub_zero]
          · rw [eU j e]
            have := hall j hj
            rw [hin j e] at this
            exact h.done j hj (this.elim (fun q => by cases q) id)
        have hzero : ∀ j : Nat, j < s.Q.length → (useS (fillS s i) i st).C.getD j 0 = 0 := fun j hj => by
          by_cases e : i = j
          · subst e; rw [hu1, e0]
          · rw [hu2 j e]
            exact h.rest j hj (fun q => e (by have q' : (j : Int) = (i : Int) := q; omega))
        refine { ring := by show rotL (useS (fillS s i) i st).R = _; rw [hR2]; simp, ne := by simp, lu := by rw [List.length_set]; exact h.lu.trans (congrArg List.length hQu).symm, all := fun j hj => ?_, rest := fun j hj hj2 => ?_, todo := fun j hj hj1 hj2 => ?_, done := fun j hj hj1 => (by cases hj1), now := fun j hj hj1 => ?_ }
        · have hj' : j < s.Q.length := by rw [← hQu]; exact hj
          show (j : Int) ∈ rotL (useS (fillS s i) i st).R
          rw [hR2]; exact hall j hj'
        · have hj' : j < s.Q.length := by rw [← hQu]; exact hj
          exact hzero j hj'
        · have hj' : j < s.Q.length := by rw [← hQu]; exact hj
          show (U.set i (U.getD i 0 + st)).getD j 0 = ((r + 1 : Nat) : Int) * (useS (fillS s i) i st).Q.getD j 0
          rw [hQu]
          exact hval j hj'
        · have hj' : j < s.Q.length := by rw [← hQu]; exact hj
          left
          refine ⟨hzero j hj', ?_⟩
          show (U.set i (U.getD i 0 + st)).getD j 0 = ((r + 1 : Nat) : Int) * (useS (fillS s i) i st).Q.getD j 0
          rw [hQu]
          exact hval j hj'
    · -- some of it is left
      have hs2 : restS (midS (useS (fillS s i) i st) i x false) i = useS (fillS s i) i st := by
        unfold midS
        rw [if_neg Bool.false_ne_true, hu1, if_neg e0]
        unfold restS
        rw [if_neg (fun q => e0 (by rw [← hu1]; exact q.1))]
      rw [hs2]
      refine ⟨r, (i : Int) :: a', b, by omega, ?_⟩
      refine { ring := by rw [hRu]; exact h.ring, ne := by simp, lu := by rw [List.length_set]; exact h.lu.trans (congrArg List.length hQu).symm, all := fun j hj => ?_, rest := fun j hj hj2 => ?_, todo := fun j hj hj1 hj2 => ?_, done := fun j hj hj1 => ?_, now := fun j hj hj1 => ?_ }
      · have hj' : j < s.Q.length := by rw [← hQu]; exact hj
        rw [hRu]; exact h.all j hj'
      · have hj' : j < s.Q.length := by rw [← hQu]; exact hj
        have e : i ≠ j := fun q => hj2 (by rw [← q]; rfl)
        rw [hu2 j e]
        exact h.rest j hj' hj2
      · have hj' : j < s.Q.length := by rw [← hQu]; exact hj
        have e : i ≠ j := fun q => hj2 (by rw [← q]; rfl)
        rw [eU j e, hQu]
        exact h.todo j hj' hj1 hj2
      · have hj' : j < s.Q.length := by rw [← hQu]; exact hj
        have e : i ≠ j := fun q => hni (by rw [q]; exact List.mem_append_right _ hj1)
        rw [eU j e, hQu]
        exact h.done j hj' hj1
      · have e : i = j := by have q : (j : Int) = (i : Int) := hj1; omega
        subst e
        right
        refine ⟨by rw [hu1]; omega, ?_⟩
        rw [eUi, hUi, hQu, hu1]
end Go.Proofs.Ytmgjmpmcadjemaa

/- Package drr: the program's scheduler and the reference's state side by side; plain facts of an act. -/
import Derived.Test.YtmgjmpmcadjemaaDrrS
namespace Go.Proofs.Ytmgjmpmcadjemaa
open Go.RowKit

/-- the program's scheduler and the reference's state -/
structure LS (B : Nat) (X : Nat → Prop) (p rq : Nat) (vt : Value) (tb qb : Nat → Nat) (vq vc vj vr : Value) (s sr : Sch) (ow : Nat → Nat) (w : World) : Prop where
  d : DAt ow B w p rq vt tb qb s
  g : GS (fun j => ow j = 0 ∧ X j) w vq vc vj vr sr
  z : ∀ j, w.heap.size ≤ j → ow j = 0
  x : ∀ j, w.heap.size ≤ j → X j
section
variable {B : Nat} {X : Nat → Prop} {p rq : Nat} {vt : Value} {tb qb : Nat → Nat} {vq vc vj vr : Value} {s sr : Sch} {ow : Nat → Nat} {w w' : World}
theorem LS.ref {vc' vj' vr' : Value} {sr' : Sch} (h : LS B X p rq vt tb qb vq vc vj vr s sr ow w) (k : Below w.heap.size w w') (g : GS (fun j => ow j = 0 ∧ X j) w' vq vc' vj' vr' sr') : LS B X p rq vt tb qb vq vc' vj' vr' s sr' ow w' :=
  ⟨h.d.below k, g, fun j hj => h.z j (Nat.le_trans k.size hj), fun j hj => h.x j (Nat.le_trans k.size hj)⟩
theorem LS.below (h : LS B X p rq vt tb qb vq vc vj vr s sr ow w) (k : Below w.heap.size w w') : LS B X p rq vt tb qb vq vc vj vr s sr ow w' :=
  h.ref k (h.g.below k)
theorem LS.act {s' : Sch} (h : LS B X p rq vt tb qb vq vc vj vr s sr ow w) (hd : DDid ow B p rq vt tb qb s' w w') : ∃ ow', LS B X p rq vt tb qb vq vc vj vr s' sr ow' w' ∧ Fr ow ow' w w' := by
  obtain ⟨ow', d, f⟩ := hd
  refine ⟨frO ow' w'.heap.size 0, ⟨d.keep (Keep.refl (fun _ => False) _) (fun _ e => e.elim) (fun j hj => frO_old hj) (fun j hj => ?_), ?_, fun j hj => frO_new hj, fun j hj => h.x j (Nat.le_trans f.1.size hj)⟩, ⟨f.1, fun j hj => ?_⟩⟩
  · by_cases e : j < w'.heap.size
    · rw [frO_old e] at hj; exact d.lo j hj
    · rw [frO_new (by omega)] at hj; exact absurd rfl hj
  · refine (h.g.live.keep f.1 (fun j e q => e q.1.1)).imp (fun j hj => ⟨?_, hj.1.2⟩)
    rw [frO_old (Nat.lt_of_lt_of_le hj.2 f.1.size), f.2 j hj.2]
    exact hj.1.1
  · rw [frO_old (Nat.lt_of_lt_of_le hj f.1.size)]
    exact f.2 j hj
theorem LS.keep {S : Nat → Prop} (h : LS B X p rq vt tb qb vq vc vj vr s sr ow w) (k : Keep S w w') (hs : ∀ j, S j → ow j = 0 ∧ ¬ X j) : LS B X p rq vt tb qb vq vc vj vr s sr ow w' :=
  ⟨h.d.keep k (fun j e => (hs j e).1) (fun _ _ => rfl) h.d.lo, h.g.keep k (fun j e q => (hs j e).2 q.2), fun j hj => h.z j (Nat.le_trans k.size hj), fun j hj => h.x j (Nat.le_trans k.size hj)⟩
theorem LS.imp {X' : Nat → Prop} (h : LS B X p rq vt tb qb vq vc vj vr s sr ow w) (hi : ∀ j, X j → X' j) : LS B X' p rq vt tb qb vq vc vj vr s sr ow w :=
  ⟨h.d, h.g.imp (fun j hj => ⟨hj.1, hi j hj.2⟩), h.z, fun j hj => hi j (h.x j hj)⟩
/-- the blocks that are new are none of the state's -/
theorem LS.off (h : LS B X p rq vt tb qb vq vc vj vr s sr ow w) (k : Below w.heap.size w w') : LS B (fun j => X j ∧ (j < w.heap.size ∨ w'.heap.size ≤ j)) p rq vt tb qb vq vc vj vr s sr ow w' :=
  ⟨h.d.below k, (h.g.live.below k).imp (fun j hj => ⟨hj.1.1, hj.1.2, .inl hj.2⟩), fun j hj => h.z j (Nat.le_trans k.size hj), fun j hj => ⟨h.x j (Nat.le_trans k.size hj), .inr hj⟩⟩
theorem LS.hG (h : LS B X p rq vt tb qb vq vc vj vr s sr ow w) : ∀ j, w.heap.size ≤ j → ow j = 0 ∧ X j := fun j hj => ⟨h.z j hj, h.x j hj⟩
end

/-- what an act leaves -/
def Acted30 (B : Nat) (X : Nat → Prop) (p rq : Nat) (vt : Value) (tb qb : Nat → Nat) (vq : Value) (s : Sch) (K : Nat) (ow : Nat → Nat) (w : World) (e : Ending) (w' : World) : Prop :=
  ∃ vc' vj' vr' s' ow', e = .returned (.agg #[vq, vc', vj', vr', .bool true]) ∧ LS B X p rq vt tb qb vq vc' vj' vr' s' s' ow' w' ∧ Ok (K + 1) s' ∧ s'.Q = s.Q ∧ Fr ow ow' w w'

/-- the locals of an act: the state, the act, the result -/
def Z5 : List Value := [.slice none 0 0, .slice none 0 0, .slice none 0 0, .slice none 0 0, .bool false]
structure AB (w : World) (vq vc vj vr : Value) (x : DA) (ow : Nat → Nat) (w2 : World) : Prop where
  st : Blk w2 w.heap.size [vq, vc, vj, vr] 67
  ac : Blk w2 (w.heap.size + 1) (encD x) 70
  rs : Blk w2 (w.heap.size + 1 + 1) Z5 72
  o0 : ow w.heap.size = 0
  o1 : ow (w.heap.size + 1) = 0
  o2 : ow (w.heap.size + 1 + 1) = 0
  sz : w.heap.size + 3 ≤ w2.heap.size
theorem AB.below {w w2 w3 : World} {vq vc vj vr : Value} {x : DA} {ow : Nat → Nat} (h : AB w vq vc vj vr x ow w2) (k : Below w2.heap.size w2 w3) : AB w vq vc vj vr x ow w3 :=
  ⟨h.st.below k, h.ac.below k, h.rs.below k, h.o0, h.o1, h.o2, Nat.le_trans h.sz k.size⟩
theorem AB.act {w w2 w3 : World} {vq vc vj vr : Value} {x : DA} {ow ow' : Nat → Nat} (h : AB w vq vc vj vr x ow w2) (f : Fr ow ow' w2 w3) : AB w vq vc vj vr x ow' w3 :=
  ⟨(f.blk h.st h.o0).1, (f.blk h.ac h.o1).1, (f.blk h.rs h.o2).1, (f.blk h.st h.o0).2, (f.blk h.ac h.o1).2, (f.blk h.rs h.o2).2, Nat.le_trans h.sz f.1.size⟩

theorem addM_Q (s : Sch) (t job : Int) : (addM s t job).2.Q = s.Q := by unfold addM addS; split <;> (try rfl); split <;> rfl
theorem outM_Q (s : Sch) (i : Nat) (job : Int) : (outM s i job).Q = s.Q := by unfold outM; split <;> rfl
theorem remM_Q (s : Sch) (job : Int) : (remM s job).2.Q = s.Q := by unfold remM; split; · rfl
                                                                    · exact outM_Q _ _ _
theorem fillS_Qt (s : Sch) (i : Nat) : (fillS s i).Q = s.Q := by unfold fillS; split <;> rfl
theorem nextR_Q (left : List Int) (b : Int) : ∀ (k : Nat) (s : Sch), (nextR left b k s).1.Q = s.Q := by
  intro k
  induction k with
  | zero => intro s; rfl
  | succ k ih =>
    intro s
    rw [nextR]
    split
    · rw [ih]; rfl
    · exact fillS_Qt _ _
theorem nextM_Q (s : Sch) (b : Int) (left : List Int) : (nextM s b left).1.Q = s.Q := by
  unfold nextM
  split
  · rfl
  · exact nextR_Q _ _ _ _
theorem spentM_Q (s : Sch) (job used : Int) (st : Bool) : (spentM s job used st).2.Q = s.Q := by
  have hm : ∀ (t : Sch) (i : Nat), (midS t i job st).Q = t.Q := fun t i => by
    unfold midS
    split
    · exact outM_Q _ _ _
    · split <;> rfl
  have hr : ∀ (t : Sch) (i : Nat), (restS t i).Q = t.Q := fun t i => by unfold restS; split <;> rfl
  unfold spentM
  split
  · rfl
  · split
    · rfl
    · split
      · rfl
      · rw [hr, hm]; rfl
/-- a turn's end is told -/
theorem turn_spent {K : Nat} {s : Sch} (ok : Ok K s) (b : Int) (left : List Int) {i j n : Int} (h : (nextM s b left).2 = some (i, j, n)) (st : Bool) :
    0 ≤ n ∧ n ≤ 1099511627776 ∧ ∀ used, 0 ≤ used → used ≤ n → (spentM (nextM s b left).1 j used st).1 = 0 := by
  have key : ∀ (k : Nat) (s : Sch), Ok K s → k ≤ s.R.length → 1 ≤ b → (nextR left b k s).2 = some (i, j, n) → 0 ≤ n ∧ n ≤ 1099511627776 ∧ ∀ used, 0 ≤ used → used ≤ n → (spentM (nextR left b k s).1 j used st).1 = 0 := by
    intro k
    induction k with
    | zero => intro s _ _ _ h; cases h
    | succ k ih =>
      intro s ok hk hb h
      have hne : s.R ≠ [] := fun e => by rw [e] at hk; simp at hk
      obtain ⟨m, hm, hm2, hmj⟩ := ok.head hne
      have e1 : (s.R.headD 0).toNat = m := by rw [hm]; rfl
      rw [nextR, e1] at h ⊢
      by_cases hl : left.getD m 0 < 1
      · rw [if_pos hl] at h ⊢
        exact ih _ (ok.skip hm2) (by rw [skipS_R, rotL_len]; omega) hb h
      · rw [if_neg hl] at h ⊢
        injection h with h
        injection h with h1 h
        injection h with h2 h3
        have okf := ok.fill hm2
        have hQ := fillS_Qt s m
        have hR : (fillS s m).R = s.R := by unfold fillS; split <;> rfl
        have hJ : (fillS s m).J = s.J := by unfold fillS; split <;> rfl
        have hc := okf.c m (by rw [hQ]; exact hm2)
        have hq := okf.q m (by rw [hQ]; exact hm2)
        refine ⟨by omega, by omega, fun used hu1 hu2 => ?_⟩
        unfold spentM
        dsimp only
        rw [hR, e1, hJ, if_neg hne, if_neg (fun e => e h2), if_neg (by omega)]
  unfold nextM at h ⊢
  by_cases hg : b < 1 ∨ left.length ≠ s.Q.length
  · rw [if_pos hg] at h; cases h
  · rw [if_neg hg] at h ⊢
    exact key _ _ ok (Nat.le_refl _) (by omega) h
theorem turnV_eq (o : Option (Int × Int × Int)) : turnV o = .agg #[.int .i64 (o.getD (0, 0, 0)).1, .int .i64 (o.getD (0, 0, 0)).2.1, .int .i64 (o.getD (0, 0, 0)).2.2] := by
  cases o <;> rfl
end Go.Proofs.Ytmgjmpmcadjemaa

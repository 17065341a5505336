/- Package drr: the law's turn and act, parts of both. -/
import Derived.Test.YtmgjmpmcadjemaaDrrT
namespace Go.Proofs.Ytmgjmpmcadjemaa
open Go.RowKit

theorem rints_off {S : Nat → Prop} {w w' : World} {v : Value} {l : List Int} (h : RInts w v l) (k : Keep S w w') (hs : 0 < l.length → ∀ b, v.ownBlock = some b → ¬ S b) : RInts w' v l := by
  cases l with
  | nil => exact rints_none h
  | cons x l => exact h.keep k (hs (by simp))
theorem act_fin {B : Nat} {X X' : Nat → Prop} {p rq : Nat} {vt : Value} {tb qb : Nat → Nat} {vq vc vj vr : Value} {s sr : Sch} {ow ow' : Nat → Nat} {w y y5 : World} {rb : Nat}
    (h : LS B X' p rq vt tb qb vq vc vj vr s sr ow' y) (hX : ∀ j, X' j → X j ∧ j ≠ rb) (hr : w.heap.size ≤ rb) (hz : ow' rb = 0) (f : Fr ow ow' w y) (k : Keep (fun j => j = rb) y y5) : LS B X p rq vt tb qb vq vc vj vr s sr ow' y5 ∧ Fr ow ow' w y5 :=
  ⟨(h.keep k (fun j e => by have e' : j = rb := e; subst e'; exact ⟨hz, fun q => (hX _ q).2 rfl⟩)).imp (fun j hj => (hX j hj).1), f.more hr k⟩
end Go.Proofs.Ytmgjmpmcadjemaa

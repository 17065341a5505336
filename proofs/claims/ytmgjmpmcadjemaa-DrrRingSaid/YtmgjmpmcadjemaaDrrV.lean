/- Package drr: plain; the ring has as many as have jobs. -/
import Derived.Test.YtmgjmpmcadjemaaDrrT
namespace Go.Proofs.Ytmgjmpmcadjemaa
open Go.RowKit

def cntS (s : Sch) (k : Nat) : Nat := ((List.range k).filter fun t => decide (0 < (s.J.getD t []).length)).length
theorem cntS_succ (s : Sch) (k : Nat) : cntS s (k + 1) = cntS s k + if 0 < (s.J.getD k []).length then 1 else 0 := by
  unfold cntS
  rw [List.range_succ, List.filter_append, List.length_append]
  congr 1
  by_cases h : 0 < (s.J.getD k []).length
  · rw [if_pos h, List.filter_cons_of_pos (by simpa using h)]; rfl
  · rw [if_neg h, List.filter_cons_of_neg (by simpa using h)]; rfl
theorem cntS_ring {K : Nat} {s : Sch} (ok : Ok K s) : s.R.length = cntS s s.Q.length := by
  have hp : s.R.Perm (((List.range s.Q.length).filter fun t => decide (0 < (s.J.getD t []).length)).map fun (t : Nat) => (t : Int)) := by
    rw [List.perm_ext_iff_of_nodup ok.rn]
    · intro a
      rw [List.mem_map]
      constructor
      · intro ha
        obtain ⟨i, h1, h2, h3⟩ := ok.r a ha
        refine ⟨i, List.mem_filter.2 ⟨List.mem_range.2 h2, ?_⟩, h1.symm⟩
        exact decide_eq_true (List.length_pos_iff.2 h3)
      · rintro ⟨i, h1, h2⟩
        obtain ⟨h3, h4⟩ := List.mem_filter.1 h1
        rw [← h2]
        exact ok.jr i (List.mem_range.1 h3) (List.length_pos_iff.1 (of_decide_eq_true h4))
    · have h1 : ((List.range s.Q.length).filter fun t => decide (0 < (s.J.getD t []).length)).Nodup := List.Pairwise.filter _ List.nodup_range
      exact List.Pairwise.map _ (fun a b hab e => hab (by omega)) h1
  rw [hp.length_eq, List.length_map]
  rfl
theorem place_ring {K : Nat} {s : Sch} (ok : Ok K s) {t : Nat} (ht : t < s.Q.length) : decide (0 ≤ placeI s.R (t : Int)) = decide ((0 : Int) < ((s.J.getD t []).length : Int)) := by
  apply decide_eq_decide.2
  rw [placeI_has, hasI_mem]
  constructor
  · intro h
    obtain ⟨i, h1, h2, h3⟩ := ok.r _ h
    obtain rfl : t = i := by omega
    have := List.length_pos_iff.2 h3
    omega
  · intro h
    exact ok.jr t ht (fun e => by rw [e] at h; simp at h)
end Go.Proofs.Ytmgjmpmcadjemaa

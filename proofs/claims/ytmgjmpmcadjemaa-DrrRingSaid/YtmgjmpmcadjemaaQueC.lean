/- Package queue: all acts as one word each; the small case; the reference; QueueNil. -/
import Derived.Test.YtmgjmpmcadjemaaQueB
namespace Go.Proofs.Ytmgjmpmcadjemaa
open Go.RowKit

structure QLive (B b : Nat) (lim : Int) (l : List Int) (w : World) : Prop where
  ex : ∃ vq, QueueAt w b lim vq l ∧ FreshV B vq
  hb : B ≤ b

theorem QLive.below {B b : Nat} {lim : Int} {l : List Int} {w w' : World} (h : QLive B b lim l w) (k : Below w.heap.size w w') : QLive B b lim l w' := by
  obtain ⟨vq, h1, h2⟩ := h.ex
  exact ⟨⟨vq, h1.below k, h2⟩, h.hb⟩
theorem QLive.did {B b : Nat} {lim : Int} {vq : Value} {l' : List Int} {w w' : World} (hb : B ≤ b) (hf : FreshV B vq) (hB : B ≤ w.heap.size) (h : QDid b lim vq l' w w') : QLive B b lim l' w' ∧ Below B w w' := by
  obtain ⟨vq', q, k, f⟩ := h
  refine ⟨⟨⟨vq', q, fun g hg => ?_⟩, hb⟩, k.below hB fun j hj hs => ?_⟩
  · rcases f g hg with h | h
    · exact hf g h
    · exact Nat.le_trans hB h
  · rcases hs with rfl | hs
    · omega
    · have := hf j hs; omega

def pushE (lim : Int) (l : List Int) (n : Int) : Int := if hasI l n = true then 8 else if (l.length : Int) = lim then 5 else 0
def pushL (lim : Int) (l : List Int) (n : Int) : List Int := if pushE lim l n = 0 then l ++ [n] else l
def popE (l : List Int) : Int := if l.length = 0 then 6 else 0
def rotL (l : List Int) : List Int := match l with
  | [] => []
  | x :: l => l ++ [x]
def remE (l : List Int) (n : Int) : Int := if hasI l n = true then 0 else 6

theorem pushE_has {lim : Int} {l : List Int} {n : Int} (h : hasI l n = true) : pushE lim l n = 8 := by unfold pushE; rw [if_pos h]
theorem pushE_full {lim : Int} {l : List Int} {n : Int} (h : hasI l n = false) (h2 : (l.length : Int) = lim) : pushE lim l n = 5 := by unfold pushE; rw [if_neg (by rw [h]; decide), if_pos h2]
theorem pushE_ok {lim : Int} {l : List Int} {n : Int} (h : hasI l n = false) (h2 : (l.length : Int) ≠ lim) : pushE lim l n = 0 := by unfold pushE; rw [if_neg (by rw [h]; decide), if_neg h2]

theorem lpush_any (B b : Nat) (lim : Int) (l : List Int) (n : Int) (w : World) (h : QLive B b lim l w) (hB : B ≤ w.heap.size) (hl : l.length ≤ 1000) (hn1 : -9223372036854775808 ≤ n) (hn2 : n ≤ 9223372036854775807) :
    Calls Try.prog 59 #[.pointer (some ⟨b, 0, none⟩), .int .i64 n] w fun e w' => e = .returned (.int .i64 (pushE lim l n)) ∧ QLive B b lim (pushL lim l n) w' ∧ Below B w w' := by
  obtain ⟨vq, q, f⟩ := h.ex
  cases hh : hasI l n with
  | true =>
    refine (qpush_same b lim vq l n w q hh).mono ?_
    rintro e w' ⟨rfl, rfl⟩
    rw [pushL, pushE_has hh, if_neg (by decide)]
    exact ⟨rfl, h, Below.refl _ _⟩
  | false =>
    by_cases h2 : (l.length : Int) = lim
    · refine (qpush_full b lim vq l n w q hh h2).mono ?_
      rintro e w' ⟨rfl, hb⟩
      rw [pushL, pushE_full hh h2, if_neg (by decide)]
      exact ⟨rfl, h.below hb, below_of hb hB⟩
    · refine (qpush_ok b lim vq l n w q (by omega) hn1 hn2 hh h2).mono ?_
      rintro e w' ⟨rfl, hd⟩
      rw [pushL, pushE_ok hh h2, if_pos rfl]
      exact ⟨rfl, QLive.did h.hb f hB hd⟩

theorem lpop_any (B b : Nat) (lim : Int) (l : List Int) (w : World) (h : QLive B b lim l w) (hB : B ≤ w.heap.size) (hl : l.length ≤ 1000) :
    Calls Try.prog 76 #[.pointer (some ⟨b, 0, none⟩)] w fun e w' => e = .returned (.tuple #[.int .i64 (l.headD 0), .int .i64 (popE l)]) ∧ QLive B b lim l.tail w' ∧ Below B w w' := by
  obtain ⟨vq, q, f⟩ := h.ex
  cases l with
  | nil =>
    refine (qpop_none b lim vq w q).mono ?_
    rintro e w' ⟨rfl, rfl⟩
    exact ⟨rfl, h, Below.refl _ _⟩
  | cons x l =>
    refine (qpop_ok b lim vq x l w q (by simp at hl; omega)).mono ?_
    rintro e w' ⟨rfl, hd⟩
    exact ⟨rfl, QLive.did h.hb f hB hd⟩

theorem lfront_any (B b : Nat) (lim : Int) (l : List Int) (w : World) (h : QLive B b lim l w) (hl : l.length ≤ 1000) :
    Calls Try.prog 61 #[.pointer (some ⟨b, 0, none⟩)] w fun e w' => e = .returned (.tuple #[.int .i64 (l.headD 0), .int .i64 (popE l)]) ∧ w = w' := by
  obtain ⟨vq, q, f⟩ := h.ex
  cases l with
  | nil => exact qfront_none b lim vq w q
  | cons x l => exact qfront_any b lim vq x l w q (by simp at hl; omega)

theorem erase_of_find (l : List Int) (n : Int) (k : Nat) (h : l.findIdx? (fun x => n == x) = some k) : l.eraseIdx k = l.erase n := by
  induction l generalizing k with
  | nil => simp at h
  | cons y t ih =>
    rw [List.findIdx?_cons] at h
    by_cases e : n = y
    · subst e
      simp at h
      subst h
      simp
    · have h1 : (n == y) = false := beq_eq_false_iff_ne.2 e
      rw [h1] at h
      simp at h
      obtain ⟨j, hj, rfl⟩ := h
      have : (y == n) = false := beq_eq_false_iff_ne.2 (fun h => e h.symm)
      rw [List.erase_cons_tail (by simpa using fun h => e h.symm), List.eraseIdx_cons_succ, ih j hj]
theorem erase_filter {l : List Int} {n : Int} (h : l.Nodup) : l.erase n = l.filter (fun x => !(x == n)) := by
  rw [List.Nodup.erase_eq_filter h]
  rfl
theorem filter_head {x : Int} {l : List Int} (h : (x :: l).Nodup) : (x :: l).filter (fun y => !(y == x)) = l := by
  rw [← erase_filter h]; simp

theorem hasI_place {l : List Int} {n : Int} (h : hasI l n = true) : ∃ k : Nat, placeI l n = k ∧ k < l.length ∧ l.eraseIdx k = l.erase n := by
  have h0 := (placeI_has l n).2 h
  unfold placeI findI at h0 ⊢
  cases hf : l.findIdx? (eqI n) with
  | none => rw [hf] at h0; simp at h0
  | some k =>
    refine ⟨k, rfl, ?_, erase_of_find l n k hf⟩
    obtain ⟨hk, _⟩ := List.findIdx?_eq_some_iff_getElem.1 hf
    exact hk
theorem hasI_mem {l : List Int} {n : Int} : hasI l n = true ↔ n ∈ l := by
  unfold hasI eqI
  simp
theorem erase_no {l : List Int} {n : Int} (h : hasI l n = false) : l.erase n = l := List.erase_of_not_mem (fun hm => by rw [hasI_mem.2 hm] at h; cases h)

theorem lrem_any (B b : Nat) (lim : Int) (l : List Int) (n : Int) (w : World) (h : QLive B b lim l w) (hB : B ≤ w.heap.size) (hl : l.length ≤ 1000) :
    Calls Try.prog 77 #[.pointer (some ⟨b, 0, none⟩), .int .i64 n] w fun e w' => e = .returned (.int .i64 (remE l n)) ∧ QLive B b lim (l.erase n) w' ∧ Below B w w' := by
  obtain ⟨vq, q, f⟩ := h.ex
  cases hh : hasI l n with
  | true =>
    obtain ⟨k, hk1, hk2, hk3⟩ := hasI_place hh
    refine (qrem_ok b lim vq l n k w q hk1 hk2 (by omega)).mono ?_
    rintro e w' ⟨rfl, hd⟩
    rw [remE, if_pos hh, ← hk3]
    exact ⟨rfl, QLive.did h.hb f hB hd⟩
  | false =>
    refine (qrem_none b lim vq l n w q hh).mono ?_
    rintro e w' ⟨rfl, rfl⟩
    rw [remE, if_neg (by rw [hh]; decide), erase_no hh]
    exact ⟨rfl, h, Below.refl _ _⟩

theorem lrot_any (B b : Nat) (lim : Int) (l : List Int) (w : World) (h : QLive B b lim l w) (hB : B ≤ w.heap.size) (hl : l.length ≤ 1000) :
    Calls Try.prog 62 #[.pointer (some ⟨b, 0, none⟩)] w fun e w' => e = .returned (.tuple #[]) ∧ QLive B b lim (rotL l) w' ∧ Below B w w' := by
  obtain ⟨vq, q, f⟩ := h.ex
  cases l with
  | nil =>
    refine (qrot_none b lim vq w q).mono ?_
    rintro e w' ⟨rfl, rfl⟩
    exact ⟨rfl, h, Below.refl _ _⟩
  | cons x l =>
    refine (qrot_ok b lim vq x l w q (by simp at hl; omega)).mono ?_
    rintro e w' ⟨rfl, hd⟩
    exact ⟨rfl, QLive.did h.hb f hB hd⟩

theorem lhas_any (B b : Nat) (lim : Int) (l : List Int) (n : Int) (w : World) (h : QLive B b lim l w) :
    Calls Try.prog 75 #[.pointer (some ⟨b, 0, none⟩), .int .i64 n] w fun e w' => e = .returned (.bool (hasI l n)) ∧ w = w' := by
  obtain ⟨vq, q, f⟩ := h.ex
  exact qhas_any b lim vq l n w q
theorem llen_any (B b : Nat) (lim : Int) (l : List Int) (w : World) (h : QLive B b lim l w) :
    Calls Try.prog 60 #[.pointer (some ⟨b, 0, none⟩)] w fun e w' => e = .returned (.int .i64 l.length) ∧ w = w' := by
  obtain ⟨vq, q, f⟩ := h.ex
  exact qlen_any b lim vq l w q
theorem lall_any (B b : Nat) (lim : Int) (l : List Int) (w : World) (h : QLive B b lim l w) (hl : l.length ≤ 1000) :
    Calls Try.prog 69 #[.pointer (some ⟨b, 0, none⟩)] w fun e w' => ∃ v', e = .returned v' ∧ RInts w' v' l ∧ FreshV w.heap.size v' ∧ Below w.heap.size w w' := by
  obtain ⟨vq, q, f⟩ := h.ex
  exact qall_any b lim vq l w q (by omega)

theorem lnew_q (lim : Int) (w : World) (h1 : 1 ≤ lim) (h2 : lim ≤ 1099511627776) :
    Calls Try.prog 72 #[.int .i64 lim] w fun e w' => ∃ b, e = .returned (.tuple #[.pointer (some ⟨b, 0, none⟩), .int .i64 0]) ∧ QLive w.heap.size b lim [] w' ∧ Below w.heap.size w w' := by
  refine (qnew_ok lim w h1 h2).mono ?_
  rintro e w' ⟨b, rfl, q, hb, hs⟩
  exact ⟨b, rfl, ⟨⟨_, q, FreshV.nil _⟩, hs⟩, hb⟩
end Go.Proofs.Ytmgjmpmcadjemaa

/- Package queue: a queue among others' blocks. -/
import Derived.Test.YtfphdcfbkknpbaaQueC
namespace Go.Proofs.Ytfphdcfbkknpbaa
open Go.RowKit

/-- the blocks at B or beyond that are no others' -/
def Zone (B : Nat) (G : Nat → Prop) (j : Nat) : Prop := B ≤ j ∧ ¬ G j
theorem zone_below {B : Nat} {G : Nat → Prop} {w w' : World} (h : Keep (Zone B G) w w') (hB : B ≤ w.heap.size) : Below B w w' := h.below hB fun k hk hz => by have := hz.1; omega

/-- a queue that lives: at B or beyond, off the blocks G -/
structure QZ (G : Nat → Prop) (B b : Nat) (lim : Int) (l : List Int) (w : World) : Prop where
  ex : ∃ vq, QueueAt w b lim vq l ∧ ∀ j, (j = b ∨ vq.ownBlock = some j) → Zone B G j
  gl : ∀ j, G j → j < w.heap.size
  hb : B ≤ w.heap.size

theorem QueueAt.lt {w : World} {b : Nat} {lim : Int} {vq : Value} {l : List Int} (h : QueueAt w b lim vq l) : ∀ j, (j = b ∨ vq.ownBlock = some j) → j < w.heap.size := by
  intro j hj
  rcases hj with rfl | hj
  · exact h.box.lt
  · exact Own.lt h.row j hj

/-- an act on it -/
def QActs (G : Nat → Prop) (B b : Nat) (lim : Int) (l' : List Int) (w w' : World) : Prop := QZ G B b lim l' w' ∧ Keep (Zone B G) w w'

theorem QZ.did {G : Nat → Prop} {B b : Nat} {lim : Int} {vq : Value} {l' : List Int} {w w' : World} (hz : ∀ j, (j = b ∨ vq.ownBlock = some j) → Zone B G j) (gl : ∀ j, G j → j < w.heap.size) (hb : B ≤ w.heap.size) (h : QDid b lim vq l' w w') : QActs G B b lim l' w w' := by
  obtain ⟨vq', q, kp, f⟩ := h
  refine ⟨⟨⟨vq', q, fun j hj => ?_⟩, fun j hj => Nat.lt_of_lt_of_le (gl j hj) kp.size, Nat.le_trans hb kp.size⟩, kp.mono fun j _ hj => hz j hj⟩
  rcases hj with rfl | hj
  · exact hz _ (.inl rfl)
  · rcases f j hj with h | h
    · exact hz j (.inr h)
    · exact ⟨Nat.le_trans hb h, fun hg => by have := gl j hg; omega⟩
theorem QZ.keep {G S : Nat → Prop} {B b : Nat} {lim : Int} {l : List Int} {w w' : World} (h : QZ G B b lim l w) (kp : Keep S w w') (hs : ∀ j, S j → ¬ Zone B G j) : QZ G B b lim l w' := by
  obtain ⟨vq, h1, h2⟩ := h.ex
  exact ⟨⟨vq, h1.keep kp (fun hS => hs _ hS (h2 _ (.inl rfl))) (fun g hg hS => hs _ hS (h2 _ (.inr hg))), h2⟩, fun j hj => Nat.lt_of_lt_of_le (h.gl j hj) kp.size, Nat.le_trans h.hb kp.size⟩
theorem QZ.below {G : Nat → Prop} {B b : Nat} {lim : Int} {l : List Int} {w w' : World} (h : QZ G B b lim l w) (kp : Below w.heap.size w w') : QZ G B b lim l w' :=
  h.keep (Keep.of_below kp (fun _ => False)) (fun _ h => h.elim)
/-- others are made beside it -/
theorem QZ.more {G G' : Nat → Prop} {B b : Nat} {lim : Int} {l : List Int} {w w' : World} (h : QZ G B b lim l w) (kp : Below w.heap.size w w') (hg : ∀ j, G' j → G j ∨ (w.heap.size ≤ j ∧ j < w'.heap.size)) : QZ G' B b lim l w' := by
  obtain ⟨vq, h1, h2⟩ := h.ex
  refine ⟨⟨vq, h1.below kp, fun j hj => ⟨(h2 j hj).1, fun hj' => ?_⟩⟩, fun j hj => ?_, Nat.le_trans h.hb kp.size⟩
  · rcases hg j hj' with h3 | h3
    · exact (h2 j hj).2 h3
    · have := h1.lt j hj; omega
  · rcases hg j hj with h3 | h3
    · exact Nat.lt_of_lt_of_le (h.gl j h3) kp.size
    · exact h3.2
/-- fewer others -/
theorem QZ.less {G G' : Nat → Prop} {B b : Nat} {lim : Int} {l : List Int} {w : World} (h : QZ G B b lim l w) (hg : ∀ j, G' j → G j) : QZ G' B b lim l w := by
  obtain ⟨vq, h1, h2⟩ := h.ex
  exact ⟨⟨vq, h1, fun j hj => ⟨(h2 j hj).1, fun hj' => (h2 j hj).2 (hg j hj')⟩⟩, fun j hj => h.gl j (hg j hj), h.hb⟩

theorem zpush_any (G : Nat → Prop) (B b : Nat) (lim : Int) (l : List Int) (n : Int) (w : World) (h : QZ G B b lim l w) (hl : l.length ≤ 1000) (hn1 : -9223372036854775808 ≤ n) (hn2 : n ≤ 9223372036854775807) :
    Calls Try.prog 32 #[.pointer (some ⟨b, 0, none⟩), .int .i64 n] w fun e w' => e = .returned (.int .i64 (pushE lim l n)) ∧ QActs G B b lim (pushL lim l n) w w' := by
  obtain ⟨vq, q, f⟩ := h.ex
  cases hh : hasI l n with
  | true =>
    refine (qpush_same b lim vq l n w q hh).mono ?_
    rintro e w' ⟨rfl, rfl⟩
    rw [pushL, pushE_has hh, if_neg (by decide)]
    exact ⟨rfl, h, Keep.refl _ _⟩
  | false =>
    by_cases h2 : (l.length : Int) = lim
    · refine (qpush_full b lim vq l n w q hh h2).mono ?_
      rintro e w' ⟨rfl, hb⟩
      rw [pushL, pushE_full hh h2, if_neg (by decide)]
      exact ⟨rfl, h.below hb, Keep.of_below hb _⟩
    · refine (qpush_ok b lim vq l n w q (by omega) hn1 hn2 hh h2).mono ?_
      rintro e w' ⟨rfl, hd⟩
      rw [pushL, pushE_ok hh h2, if_pos rfl]
      exact ⟨rfl, QZ.did f h.gl h.hb hd⟩

theorem zpop_any (G : Nat → Prop) (B b : Nat) (lim : Int) (l : List Int) (w : World) (h : QZ G B b lim l w) (hl : l.length ≤ 1000) :
    Calls Try.prog 34 #[.pointer (some ⟨b, 0, none⟩)] w fun e w' => e = .returned (.tuple #[.int .i64 (l.headD 0), .int .i64 (popE l)]) ∧ QActs G B b lim l.tail w w' := by
  obtain ⟨vq, q, f⟩ := h.ex
  cases l with
  | nil =>
    refine (qpop_none b lim vq w q).mono ?_
    rintro e w' ⟨rfl, rfl⟩
    exact ⟨rfl, h, Keep.refl _ _⟩
  | cons x l =>
    refine (qpop_ok b lim vq x l w q (by simp at hl; omega)).mono ?_
    rintro e w' ⟨rfl, hd⟩
    exact ⟨rfl, QZ.did f h.gl h.hb hd⟩

theorem zfront_any (G : Nat → Prop) (B b : Nat) (lim : Int) (l : List Int) (w : World) (h : QZ G B b lim l w) (hl : l.length ≤ 1000) :
    Calls Try.prog 36 #[.pointer (some ⟨b, 0, none⟩)] w fun e w' => e = .returned (.tuple #[.int .i64 (l.headD 0), .int .i64 (popE l)]) ∧ w = w' := by
  obtain ⟨vq, q, f⟩ := h.ex
  cases l with
  | nil => exact qfront_none b lim vq w q
  | cons x l => exact qfront_any b lim vq x l w q (by simp at hl; omega)

theorem zrem_any (G : Nat → Prop) (B b : Nat) (lim : Int) (l : List Int) (n : Int) (w : World) (h : QZ G B b lim l w) (hl : l.length ≤ 1000) :
    Calls Try.prog 55 #[.pointer (some ⟨b, 0, none⟩), .int .i64 n] w fun e w' => e = .returned (.int .i64 (remE l n)) ∧ QActs G B b lim (l.erase n) w w' := by
  obtain ⟨vq, q, f⟩ := h.ex
  cases hh : hasI l n with
  | true =>
    obtain ⟨k, hk1, hk2, hk3⟩ := hasI_place hh
    refine (qrem_ok b lim vq l n k w q hk1 hk2 (by omega)).mono ?_
    rintro e w' ⟨rfl, hd⟩
    rw [remE, if_pos hh, ← hk3]
    exact ⟨rfl, QZ.did f h.gl h.hb hd⟩
  | false =>
    refine (qrem_none b lim vq l n w q hh).mono ?_
    rintro e w' ⟨rfl, rfl⟩
    rw [remE, if_neg (by rw [hh]; decide), erase_no hh]
    exact ⟨rfl, h, Keep.refl _ _⟩

theorem zrot_any (G : Nat → Prop) (B b : Nat) (lim : Int) (l : List Int) (w : World) (h : QZ G B b lim l w) (hl : l.length ≤ 1000) :
    Calls Try.prog 37 #[.pointer (some ⟨b, 0, none⟩)] w fun e w' => e = .returned (.tuple #[]) ∧ QActs G B b lim (rotL l) w w' := by
  obtain ⟨vq, q, f⟩ := h.ex
  cases l with
  | nil =>
    refine (qrot_none b lim vq w q).mono ?_
    rintro e w' ⟨rfl, rfl⟩
    exact ⟨rfl, h, Keep.refl _ _⟩
  | cons x l =>
    refine (qrot_ok b lim vq x l w q (by simp at hl; omega)).mono ?_
    rintro e w' ⟨rfl, hd⟩
    exact ⟨rfl, QZ.did f h.gl h.hb hd⟩

theorem zhas_any (G : Nat → Prop) (B b : Nat) (lim : Int) (l : List Int) (n : Int) (w : World) (h : QZ G B b lim l w) :
    Calls Try.prog 54 #[.pointer (some ⟨b, 0, none⟩), .int .i64 n] w fun e w' => e = .returned (.bool (hasI l n)) ∧ w = w' := by
  obtain ⟨vq, q, f⟩ := h.ex
  exact qhas_any b lim vq l n w q
theorem zlen_any (G : Nat → Prop) (B b : Nat) (lim : Int) (l : List Int) (w : World) (h : QZ G B b lim l w) :
    Calls Try.prog 53 #[.pointer (some ⟨b, 0, none⟩)] w fun e w' => e = .returned (.int .i64 l.length) ∧ w = w' := by
  obtain ⟨vq, q, f⟩ := h.ex
  exact qlen_any b lim vq l w q
theorem zall_any (G : Nat → Prop) (B b : Nat) (lim : Int) (l : List Int) (w : World) (h : QZ G B b lim l w) (hl : l.length ≤ 1000) :
    Calls Try.prog 35 #[.pointer (some ⟨b, 0, none⟩)] w fun e w' => ∃ v', e = .returned v' ∧ RInts w' v' l ∧ FreshV w.heap.size v' ∧ Below w.heap.size w w' := by
  obtain ⟨vq, q, f⟩ := h.ex
  exact qall_any b lim vq l w q (by omega)

theorem znew_q (lim : Int) (G : Nat → Prop) (B : Nat) (w : World) (h1 : 1 ≤ lim) (h2 : lim ≤ 1099511627776) (hB : B ≤ w.heap.size) (hG : ∀ j, G j → j < w.heap.size) :
    Calls Try.prog 31 #[.int .i64 lim] w fun e w' => ∃ b, e = .returned (.tuple #[.pointer (some ⟨b, 0, none⟩), .int .i64 0]) ∧ QZ G B b lim [] w' ∧ Below w.heap.size w w' ∧ w.heap.size ≤ b := by
  refine (qnew_ok lim w h1 h2).mono ?_
  rintro e w' ⟨b, rfl, q, hb, hs⟩
  refine ⟨b, rfl, ⟨⟨_, q, fun j hj => ?_⟩, fun j hj => Nat.lt_of_lt_of_le (hG j hj) hb.size, Nat.le_trans hB hb.size⟩, hb, hs⟩
  rcases hj with rfl | hj
  · exact ⟨Nat.le_trans hB hs, fun hg => by have := hG _ hg; omega⟩
  · simp [Value.ownBlock] at hj
end Go.Proofs.Ytfphdcfbkknpbaa

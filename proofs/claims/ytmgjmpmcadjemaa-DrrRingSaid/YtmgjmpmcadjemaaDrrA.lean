/- Package drr: a scheduler in memory: its parts have colours, and what turns has one colour. -/
import Derived.Test.YtmgjmpmcadjemaaQueD
namespace Go.Proofs.Ytmgjmpmcadjemaa
open Go.RowKit

/-- a scheduler: quanta, credits and jobs by tenants, and the ring -/
structure Sch where
  Q : List Int
  C : List Int
  J : List (List Int)
  R : List Int

theorem getD_set_eq {α : Type} {l : List α} {i : Nat} (h : i < l.length) (a d : α) : (l.set i a).getD i d = a := by
  rw [List.getD_eq_getElem?_getD, List.getElem?_set_self (by simpa using h)]; rfl
theorem getD_set_ne {α : Type} {l : List α} {i j : Nat} (h : i ≠ j) (a d : α) : (l.set i a).getD j d = l.getD j d := by
  rw [List.getD_eq_getElem?_getD, List.getElem?_set_ne h, List.getD_eq_getElem?_getD]

def MAXI : Int := 1099511627776
def QC (ow : Nat → Nat) (w : World) (b col : Nat) (l : List Int) : Prop := ∃ vq, QueueAt w b MAXI vq l ∧ ow b = col ∧ ∀ g, vq.ownBlock = some g → ow g = col
def frO (ow : Nat → Nat) (n c : Nat) : Nat → Nat := fun j => if j < n then ow j else c
theorem frO_old {ow : Nat → Nat} {n c j : Nat} (h : j < n) : frO ow n c j = ow j := if_pos h
theorem frO_new {ow : Nat → Nat} {n c j : Nat} (h : n ≤ j) : frO ow n c j = c := if_neg (by omega)
theorem QueueAt.lts {w : World} {b : Nat} {lim : Int} {vq : Value} {l : List Int} (h : QueueAt w b lim vq l) : b < w.heap.size ∧ ∀ g, vq.ownBlock = some g → g < w.heap.size :=
  ⟨h.box.lt, fun g hg => Own.lt h.row g hg⟩
theorem QC.keep {S : Nat → Prop} {ow ow' : Nat → Nat} {w w' : World} {b col : Nat} {l : List Int} (h : QC ow w b col l) (k : Keep S w w') (hs : ∀ j, S j → ow j ≠ col) (ho : ∀ j, j < w.heap.size → ow' j = ow j) : QC ow' w' b col l := by
  obtain ⟨vq, q, hb, hg⟩ := h
  obtain ⟨l1, l2⟩ := q.lts
  exact ⟨vq, q.keep k (fun e => hs _ e hb) (fun g hg' e => hs _ e (hg g hg')), by rw [ho b l1, hb], fun g hg' => by rw [ho g (l2 g hg'), hg g hg']⟩
theorem QC.did {ow : Nat → Nat} {w w' : World} {b col : Nat} {vq : Value} {l' : List Int} (hb : ow b = col) (hg : ∀ g, vq.ownBlock = some g → ow g = col) (hlt : b < w.heap.size ∧ ∀ g, vq.ownBlock = some g → g < w.heap.size) (h : QDid b MAXI vq l' w w') :
    QC (frO ow w.heap.size col) w' b col l' ∧ Keep (fun j => ow j = col) w w' := by
  obtain ⟨vq', q, k, f⟩ := h
  refine ⟨⟨vq', q, by rw [frO_old hlt.1, hb], fun g hg' => ?_⟩, k.mono fun j _ hj => ?_⟩
  · rcases f g hg' with h | h
    · rw [frO_old (hlt.2 g h), hg g h]
    · exact frO_new h
  · rcases hj with rfl | hj
    · exact hb
    · exact hg j hj

/-- a scheduler in memory -/
structure DAt (ow : Nat → Nat) (B : Nat) (w : World) (p rq : Nat) (vt : Value) (tb qb : Nat → Nat) (s : Sch) : Prop where
  box : Blk w p [vt, .pointer (some ⟨rq, 0, none⟩)] 101
  row : Own w 102 1 vt s.Q.length ((List.range s.Q.length).map fun i => .pointer (some ⟨tb i, 0, none⟩))
  ring : QC ow w rq 3 s.R
  ten : ∀ i, i < s.Q.length → Blk w (tb i) [.pointer (some ⟨qb i, 0, none⟩), .int .i64 (s.Q.getD i 0), .int .i64 (s.C.getD i 0)] 104 ∧ QC ow w (qb i) (5 + 2 * i) (s.J.getD i [])
  cp : ow p = 1
  cv : ∀ g, vt.ownBlock = some g → ow g = 2
  ct : ∀ i, i < s.Q.length → ow (tb i) = 4 + 2 * i
  lo : ∀ j, ow j ≠ 0 → B ≤ j
  hB : B ≤ w.heap.size
  lc : s.C.length = s.Q.length
  lj : s.J.length = s.Q.length

/-- the frame of an act: what has no colour stays -/
def Fr (ow ow' : Nat → Nat) (w w' : World) : Prop := Keep (fun j => ow j ≠ 0) w w' ∧ ∀ j, j < w.heap.size → ow' j = ow j
theorem Fr.refl (ow : Nat → Nat) (w : World) : Fr ow ow w w := ⟨Keep.refl _ _, fun _ _ => rfl⟩
theorem Fr.trans {o1 o2 o3 : Nat → Nat} {w1 w2 w3 : World} (h : Fr o1 o2 w1 w2) (k : Fr o2 o3 w2 w3) : Fr o1 o3 w1 w3 := by
  refine ⟨⟨k.1.os.trans h.1.os, k.1.tape.trans h.1.tape, k.1.output.trans h.1.output, Nat.le_trans h.1.size k.1.size, fun j hj hs => ?_⟩, fun j hj => ?_⟩
  · have h0 := h.2 j hj
    rw [k.1.block j (Nat.lt_of_lt_of_le hj h.1.size) (fun e => hs (by rw [← h0]; exact e))]
    exact h.1.block j hj hs
  · rw [k.2 j (Nat.lt_of_lt_of_le hj h.1.size), h.2 j hj]
theorem Fr.of_below {ow : Nat → Nat} {w w' : World} (h : Below w.heap.size w w') : Fr ow ow w w' := ⟨Keep.of_below h _, fun _ _ => rfl⟩

theorem DAt.keep {S : Nat → Prop} {ow ow' : Nat → Nat} {B : Nat} {w w' : World} {p rq : Nat} {vt : Value} {tb qb : Nat → Nat} {s : Sch} (h : DAt ow B w p rq vt tb qb s) (k : Keep S w w') (hs : ∀ j, S j → ow j = 0) (ho : ∀ j, j < w.heap.size → ow' j = ow j) (hl : ∀ j, ow' j ≠ 0 → B ≤ j) : DAt ow' B w' p rq vt tb qb s where
  box := h.box.keep k (fun e => by have := hs _ e; have := h.cp; omega)
  row := h.row.keep k (fun g hg e => by have := hs _ e; have := h.cv g hg; omega)
  ring := h.ring.keep k (fun j e => by have := hs _ e; omega) ho
  ten := fun i hi => ⟨(h.ten i hi).1.keep k (fun e => by have := hs _ e; have := h.ct i hi; omega), (h.ten i hi).2.keep k (fun j e => by have := hs _ e; omega) ho⟩
  cp := by rw [ho p h.box.lt, h.cp]
  cv := fun g hg => by rw [ho g (h.row.lt g hg), h.cv g hg]
  ct := fun i hi => by rw [ho _ (h.ten i hi).1.lt, h.ct i hi]
  lo := hl
  hB := Nat.le_trans h.hB k.size
  lc := h.lc
  lj := h.lj
theorem DAt.below {ow : Nat → Nat} {B : Nat} {w w' : World} {p rq : Nat} {vt : Value} {tb qb : Nat → Nat} {s : Sch} (h : DAt ow B w p rq vt tb qb s) (k : Below w.heap.size w w') : DAt ow B w' p rq vt tb qb s :=
  h.keep (Keep.of_below k (fun _ => False)) (fun _ e => e.elim) (fun _ _ => rfl) h.lo
/-- a queue of a tenant's turns -/
theorem DAt.queue {ow ow' : Nat → Nat} {B : Nat} {w w' : World} {p rq : Nat} {vt : Value} {tb qb : Nat → Nat} {s : Sch} {i : Nat} {l' : List Int} (h : DAt ow B w p rq vt tb qb s) (hi : i < s.Q.length) (k : Keep (fun j => ow j = 5 + 2 * i) w w') (ho : ∀ j, j < w.heap.size → ow' j = ow j) (hl : ∀ j, ow' j ≠ 0 → B ≤ j) (hq : QC ow' w' (qb i) (5 + 2 * i) l') : DAt ow' B w' p rq vt tb qb { s with J := s.J.set i l' } where
  box := h.box.keep k (fun e => by have := h.cp; have e' : ow p = 5 + 2 * i := e; omega)
  row := h.row.keep k (fun g hg e => by have := h.cv g hg; have e' : ow g = 5 + 2 * i := e; omega)
  ring := h.ring.keep k (fun j e => by have e' : ow j = 5 + 2 * i := e; omega) ho
  ten := fun j hj => by
    refine ⟨(h.ten j hj).1.keep k (fun e => by have e' : ow (tb j) = 5 + 2 * i := e; have := h.ct j hj; omega), ?_⟩
    by_cases e : i = j
    · subst e
      rw [getD_set_eq (by rw [h.lj]; exact hi)]
      exact hq
    · rw [getD_set_ne e]
      exact (h.ten j hj).2.keep k (fun g e' => by have e'' : ow g = 5 + 2 * i := e'; omega) ho
  cp := by rw [ho p h.box.lt, h.cp]
  cv := fun g hg => by rw [ho g (h.row.lt g hg), h.cv g hg]
  ct := fun i hi => by rw [ho _ (h.ten i hi).1.lt, h.ct i hi]
  lo := hl
  hB := Nat.le_trans h.hB k.size
  lc := h.lc
  lj := by rw [List.length_set]; exact h.lj
/-- the ring turns -/
theorem DAt.ringq {ow ow' : Nat → Nat} {B : Nat} {w w' : World} {p rq : Nat} {vt : Value} {tb qb : Nat → Nat} {s : Sch} {l' : List Int} (h : DAt ow B w p rq vt tb qb s) (k : Keep (fun j => ow j = 3) w w') (ho : ∀ j, j < w.heap.size → ow' j = ow j) (hl : ∀ j, ow' j ≠ 0 → B ≤ j) (hq : QC ow' w' rq 3 l') : DAt ow' B w' p rq vt tb qb { s with R := l' } where
  box := h.box.keep k (fun e => by have := h.cp; have e' : ow p = 3 := e; omega)
  row := h.row.keep k (fun g hg e => by have := h.cv g hg; have e' : ow g = 3 := e; omega)
  ring := hq
  ten := fun j hj => ⟨(h.ten j hj).1.keep k (fun e => by have e' : ow (tb j) = 3 := e; have := h.ct j hj; omega), (h.ten j hj).2.keep k (fun g e' => by have e'' : ow g = 3 := e'; omega) ho⟩
  cp := by rw [ho p h.box.lt, h.cp]
  cv := fun g hg => by rw [ho g (h.row.lt g hg), h.cv g hg]
  ct := fun i hi => by rw [ho _ (h.ten i hi).1.lt, h.ct i hi]
  lo := hl
  hB := Nat.le_trans h.hB k.size
  lc := h.lc
  lj := h.lj
/-- a credit turns -/
theorem DAt.credit {ow : Nat → Nat} {B : Nat} {w : World} {p rq : Nat} {vt : Value} {tb qb : Nat → Nat} {s : Sch} {i : Nat} (h : DAt ow B w p rq vt tb qb s) (hi : i < s.Q.length) (c : Int) : DAt ow B (w.setCell ⟨tb i, 2, none⟩ (.int .i64 c)) p rq vt tb qb { s with C := s.C.set i c } ∧ Fr ow ow w (w.setCell ⟨tb i, 2, none⟩ (.int .i64 c)) := by
  have k : Keep (fun j => j = tb i) w (w.setCell ⟨tb i, 2, none⟩ (.int .i64 c)) := keep_setCell (S := fun j => j = tb i) (Keep.refl _ w) rfl _
  have hc := h.ct i hi
  refine ⟨⟨h.box.keep k (fun e => by have := h.cp; have e' : p = tb i := e; rw [e'] at this; omega), h.row.keep k (fun g hg e => by have := h.cv g hg; have e' : g = tb i := e; rw [e'] at this; omega),
    h.ring.keep k (fun j e => by have e' : j = tb i := e; rw [e']; omega) (fun _ _ => rfl), fun j hj => ⟨?_, (h.ten j hj).2.keep k (fun g e => by have e' : g = tb i := e; rw [e']; omega) (fun _ _ => rfl)⟩, h.cp, h.cv, h.ct, h.lo, Nat.le_trans h.hB k.size, by rw [List.length_set]; exact h.lc, h.lj⟩, k.mono fun j _ e => ?_, fun _ _ => rfl⟩
  · by_cases e : i = j
    · subst e
      rw [getD_set_eq (by rw [h.lc]; exact hi)]
      exact (h.ten i hi).1.set 2 (.int .i64 c)
    · rw [getD_set_ne e]
      exact (h.ten j hj).1.keep k (fun e' => by have e'' : tb j = tb i := e'; have := h.ct j hj; rw [e''] at this; omega)
  · have e' : j = tb i := e
    rw [e']
    omega

def DDid (ow : Nat → Nat) (B p rq : Nat) (vt : Value) (tb qb : Nat → Nat) (s' : Sch) (w w' : World) : Prop := ∃ ow', DAt ow' B w' p rq vt tb qb s' ∧ Fr ow ow' w w'
theorem DDid.same {ow : Nat → Nat} {B p rq : Nat} {vt : Value} {tb qb : Nat → Nat} {s : Sch} {w w' : World} (h : DAt ow B w p rq vt tb qb s) (k : Below w.heap.size w w') : DDid ow B p rq vt tb qb s w w' := ⟨ow, h.below k, Fr.of_below k⟩
theorem Sch.setJ_same {s : Sch} {i : Nat} (hi : i < s.J.length) : { s with J := s.J.set i (s.J.getD i []) } = s := by
  have : s.J.set i (s.J.getD i []) = s.J := by
    rw [List.getD_eq_getElem?_getD, List.getElem?_eq_getElem hi]
    exact List.set_getElem_self hi
  rw [this]
theorem fr_frO {ow : Nat → Nat} {col : Nat} {w w' : World} (hc : col ≠ 0) (k : Keep (fun j => ow j = col) w w') : Fr ow (frO ow w.heap.size col) w w' :=
  ⟨k.mono fun j _ e => by have e' : ow j = col := e; omega, fun j hj => frO_old hj⟩
theorem DAt.tdid {ow : Nat → Nat} {B : Nat} {w w' : World} {p rq : Nat} {vt : Value} {tb qb : Nat → Nat} {s : Sch} {i : Nat} {vq : Value} {l' : List Int} (h : DAt ow B w p rq vt tb qb s) (hi : i < s.Q.length) (hq : QueueAt w (qb i) MAXI vq (s.J.getD i [])) (hb : ow (qb i) = 5 + 2 * i) (hg : ∀ g, vq.ownBlock = some g → ow g = 5 + 2 * i) (hd : QDid (qb i) MAXI vq l' w w') : DDid ow B p rq vt tb qb { s with J := s.J.set i l' } w w' := by
  obtain ⟨q, k⟩ := QC.did hb hg hq.lts hd
  refine ⟨_, h.queue hi k (fun j hj => frO_old hj) (fun j hj => ?_) q, fr_frO (by omega) k⟩
  by_cases e : j < w.heap.size
  · rw [frO_old e] at hj; exact h.lo j hj
  · have := h.hB; omega
theorem DAt.rdid {ow : Nat → Nat} {B : Nat} {w w' : World} {p rq : Nat} {vt : Value} {tb qb : Nat → Nat} {s : Sch} {vq : Value} {l' : List Int} (h : DAt ow B w p rq vt tb qb s) (hq : QueueAt w rq MAXI vq s.R) (hb : ow rq = 3) (hg : ∀ g, vq.ownBlock = some g → ow g = 3) (hd : QDid rq MAXI vq l' w w') : DDid ow B p rq vt tb qb { s with R := l' } w w' := by
  obtain ⟨q, k⟩ := QC.did hb hg hq.lts hd
  refine ⟨_, h.ringq k (fun j hj => frO_old hj) (fun j hj => ?_) q, fr_frO (by omega) k⟩
  by_cases e : j < w.heap.size
  · rw [frO_old e] at hj; exact h.lo j hj
  · have := h.hB; omega

section
variable {ow : Nat → Nat} {B : Nat} {w : World} {p rq : Nat} {vt : Value} {tb qb : Nat → Nat} {s : Sch}

theorem tlen_any (i : Nat) (h : DAt ow B w p rq vt tb qb s) (hi : i < s.Q.length) :
    Calls Try.prog 60 #[.pointer (some ⟨qb i, 0, none⟩)] w fun e w' => e = .returned (.int .i64 ((s.J.getD i []).length : Int)) ∧ w = w' := by
  obtain ⟨vq, q, -, -⟩ := (h.ten i hi).2
  exact qlen_any _ _ vq _ w q
theorem rlen_any (h : DAt ow B w p rq vt tb qb s) :
    Calls Try.prog 60 #[.pointer (some ⟨rq, 0, none⟩)] w fun e w' => e = .returned (.int .i64 (s.R.length : Int)) ∧ w = w' := by
  obtain ⟨vq, q, -, -⟩ := h.ring
  exact qlen_any _ _ vq _ w q
theorem thas_any (i : Nat) (n : Int) (h : DAt ow B w p rq vt tb qb s) (hi : i < s.Q.length) :
    Calls Try.prog 75 #[.pointer (some ⟨qb i, 0, none⟩), .int .i64 n] w fun e w' => e = .returned (.bool (hasI (s.J.getD i []) n)) ∧ w = w' := by
  obtain ⟨vq, q, -, -⟩ := (h.ten i hi).2
  exact qhas_any _ _ vq _ n w q
theorem tall_any (i : Nat) (h : DAt ow B w p rq vt tb qb s) (hi : i < s.Q.length) (hl : (s.J.getD i []).length ≤ 1000) :
    Calls Try.prog 69 #[.pointer (some ⟨qb i, 0, none⟩)] w fun e w' => ∃ v', e = .returned v' ∧ RInts w' v' (s.J.getD i []) ∧ FreshV w.heap.size v' ∧ Below w.heap.size w w' := by
  obtain ⟨vq, q, -, -⟩ := (h.ten i hi).2
  exact qall_any _ _ vq _ w q (by omega)
theorem rall_any (h : DAt ow B w p rq vt tb qb s) (hl : s.R.length ≤ 1000) :
    Calls Try.prog 69 #[.pointer (some ⟨rq, 0, none⟩)] w fun e w' => ∃ v', e = .returned v' ∧ RInts w' v' s.R ∧ FreshV w.heap.size v' ∧ Below w.heap.size w w' := by
  obtain ⟨vq, q, -, -⟩ := h.ring
  exact qall_any _ _ vq _ w q (by omega)
theorem tfront_any (i : Nat) (h : DAt ow B w p rq vt tb qb s) (hi : i < s.Q.length) (hl : (s.J.getD i []).length ≤ 1000) :
    Calls Try.prog 61 #[.pointer (some ⟨qb i, 0, none⟩)] w fun e w' => e = .returned (.tuple #[.int .i64 ((s.J.getD i []).headD 0), .int .i64 (popE (s.J.getD i []))]) ∧ w = w' := by
  obtain ⟨vq, q, -, -⟩ := (h.ten i hi).2
  cases hc : s.J.getD i [] with
  | nil => rw [hc] at q; exact qfront_none _ _ vq w q
  | cons x l => rw [hc] at q hl; exact qfront_any _ _ vq x l w q (by simp at hl; omega)
theorem rfront_any (h : DAt ow B w p rq vt tb qb s) (hl : s.R.length ≤ 1000) :
    Calls Try.prog 61 #[.pointer (some ⟨rq, 0, none⟩)] w fun e w' => e = .returned (.tuple #[.int .i64 (s.R.headD 0), .int .i64 (popE s.R)]) ∧ w = w' := by
  obtain ⟨vq, q, -, -⟩ := h.ring
  cases hc : s.R with
  | nil => rw [hc] at q; exact qfront_none _ _ vq w q
  | cons x l => rw [hc] at q hl; exact qfront_any _ _ vq x l w q (by simp at hl; omega)
theorem tpush_any (i : Nat) (n : Int) (h : DAt ow B w p rq vt tb qb s) (hi : i < s.Q.length) (hl : (s.J.getD i []).length ≤ 1000) (hn1 : -9223372036854775808 ≤ n) (hn2 : n ≤ 9223372036854775807) (hno : hasI (s.J.getD i []) n = false) :
    Calls Try.prog 59 #[.pointer (some ⟨qb i, 0, none⟩), .int .i64 n] w fun e w' => e = .returned (.int .i64 0) ∧ DDid ow B p rq vt tb qb { s with J := s.J.set i (s.J.getD i [] ++ [n]) } w w' := by
  obtain ⟨vq, q, hb, hg⟩ := (h.ten i hi).2
  refine (qpush_ok _ _ vq _ n w q (by omega) hn1 hn2 hno (by unfold MAXI; omega)).mono ?_
  rintro e w' ⟨rfl, hd⟩
  exact ⟨rfl, h.tdid hi q hb hg hd⟩
theorem rpush_any (n : Int) (h : DAt ow B w p rq vt tb qb s) (hl : s.R.length ≤ 1000) (hn1 : -9223372036854775808 ≤ n) (hn2 : n ≤ 9223372036854775807) :
    Calls Try.prog 59 #[.pointer (some ⟨rq, 0, none⟩), .int .i64 n] w fun e w' => (∃ c : Int, e = .returned (.int .i64 c)) ∧ DDid ow B p rq vt tb qb { s with R := if hasI s.R n then s.R else s.R ++ [n] } w w' := by
  obtain ⟨vq, q, hb, hg⟩ := h.ring
  cases hh : hasI s.R n with
  | true =>
    refine (qpush_same _ _ vq _ n w q hh).mono ?_
    rintro e w' ⟨rfl, rfl⟩
    exact ⟨⟨_, rfl⟩, DDid.same h (Below.refl _ _)⟩
  | false =>
    refine (qpush_ok _ _ vq _ n w q (by omega) hn1 hn2 hh (by unfold MAXI; omega)).mono ?_
    rintro e w' ⟨rfl, hd⟩
    exact ⟨⟨_, rfl⟩, h.rdid q hb hg hd⟩
theorem trem_any (i : Nat) (n : Int) (h : DAt ow B w p rq vt tb qb s) (hi : i < s.Q.length) (hl : (s.J.getD i []).length ≤ 1000) :
    Calls Try.prog 77 #[.pointer (some ⟨qb i, 0, none⟩), .int .i64 n] w fun e w' => (∃ c : Int, e = .returned (.int .i64 c)) ∧ DDid ow B p rq vt tb qb { s with J := s.J.set i ((s.J.getD i []).erase n) } w w' := by
  obtain ⟨vq, q, hb, hg⟩ := (h.ten i hi).2
  cases hh : hasI (s.J.getD i []) n with
  | true =>
    obtain ⟨k, hk1, hk2, hk3⟩ := hasI_place hh
    refine (qrem_ok _ _ vq _ n k w q hk1 hk2 (by omega)).mono ?_
    rintro e w' ⟨rfl, hd⟩
    rw [← hk3]
    exact ⟨⟨_, rfl⟩, h.tdid hi q hb hg hd⟩
  | false =>
    refine (qrem_none _ _ vq _ n w q hh).mono ?_
    rintro e w' ⟨rfl, rfl⟩
    rw [erase_no hh, Sch.setJ_same (by rw [h.lj]; exact hi)]
    exact ⟨⟨_, rfl⟩, DDid.same h (Below.refl _ _)⟩
theorem rrem_any (n : Int) (h : DAt ow B w p rq vt tb qb s) (hl : s.R.length ≤ 1000) :
    Calls Try.prog 77 #[.pointer (some ⟨rq, 0, none⟩), .int .i64 n] w fun e w' => (∃ c : Int, e = .returned (.int .i64 c)) ∧ DDid ow B p rq vt tb qb { s with R := s.R.erase n } w w' := by
  obtain ⟨vq, q, hb, hg⟩ := h.ring
  cases hh : hasI s.R n with
  | true =>
    obtain ⟨k, hk1, hk2, hk3⟩ := hasI_place hh
    refine (qrem_ok _ _ vq _ n k w q hk1 hk2 (by omega)).mono ?_
    rintro e w' ⟨rfl, hd⟩
    rw [← hk3]
    exact ⟨⟨_, rfl⟩, h.rdid q hb hg hd⟩
  | false =>
    refine (qrem_none _ _ vq _ n w q hh).mono ?_
    rintro e w' ⟨rfl, rfl⟩
    rw [erase_no hh]
    exact ⟨⟨_, rfl⟩, DDid.same h (Below.refl _ _)⟩
theorem trot_any (i : Nat) (h : DAt ow B w p rq vt tb qb s) (hi : i < s.Q.length) (hl : (s.J.getD i []).length ≤ 1000) :
    Calls Try.prog 62 #[.pointer (some ⟨qb i, 0, none⟩)] w fun e w' => e = .returned (.tuple #[]) ∧ DDid ow B p rq vt tb qb { s with J := s.J.set i (rotL (s.J.getD i [])) } w w' := by
  obtain ⟨vq, q, hb, hg⟩ := (h.ten i hi).2
  cases hc : s.J.getD i [] with
  | nil =>
    have e := Sch.setJ_same (s := s) (i := i) (by rw [h.lj]; exact hi)
    rw [hc] at e q
    refine (qrot_none _ _ vq w q).mono ?_
    rintro e' w' ⟨rfl, rfl⟩
    refine ⟨rfl, ?_⟩
    show DDid ow B p rq vt tb qb { s with J := s.J.set i [] } w w
    rw [e]
    exact DDid.same h (Below.refl _ _)
  | cons x l =>
    have q2 := q
    rw [hc] at q2 hl
    refine (qrot_ok _ _ vq x l w q2 (by simp at hl; omega)).mono ?_
    rintro e w' ⟨rfl, hd⟩
    exact ⟨rfl, h.tdid hi q hb hg hd⟩
theorem rrot_any (h : DAt ow B w p rq vt tb qb s) (hl : s.R.length ≤ 1000) :
    Calls Try.prog 62 #[.pointer (some ⟨rq, 0, none⟩)] w fun e w' => e = .returned (.tuple #[]) ∧ DDid ow B p rq vt tb qb { s with R := rotL s.R } w w' := by
  obtain ⟨vq, q, hb, hg⟩ := h.ring
  cases hc : s.R with
  | nil =>
    rw [hc] at q
    refine (qrot_none _ _ vq w q).mono ?_
    rintro e' w' ⟨rfl, rfl⟩
    refine ⟨rfl, ?_⟩
    have e : ({ s with R := rotL [] } : Sch) = s := by cases s; simp [rotL] at hc ⊢; exact hc
    rw [e]
    exact DDid.same h (Below.refl _ _)
  | cons x l =>
    have q2 := q
    rw [hc] at q2 hl
    refine (qrot_ok _ _ vq x l w q2 (by simp at hl; omega)).mono ?_
    rintro e w' ⟨rfl, hd⟩
    exact ⟨rfl, h.rdid q hb hg hd⟩
end
end Go.Proofs.Ytmgjmpmcadjemaa

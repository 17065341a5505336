/- Package drr: the tenants' first jobs; what DrrFair has in memory. -/
import Derived.Test.YtmgjmpmcadjemaaDrrG
import Derived.Test.YtmgjmpmcadjemaaDrrH
namespace Go.Proofs.Ytmgjmpmcadjemaa
open Go.RowKit

theorem newS_C (l : List Int) (k i : Nat) : (newS l k).C.getD i 0 = 0 := by
  show (List.replicate k (0 : Int)).getD i 0 = 0
  rw [List.getD_eq_getElem?_getD, List.getElem?_replicate]
  split <;> rfl
theorem newS_J (l : List Int) (k i : Nat) : (newS l k).J.getD i [] = [] := by
  show (List.replicate k ([] : List Int)).getD i [] = []
  rw [List.getD_eq_getElem?_getD, List.getElem?_replicate]
  split <;> rfl
theorem newS_Q (l : List Int) : (newS l l.length).Q = l := by show l.take l.length = l; rw [List.take_length]
def upto (n : Nat) : List Int := (List.range n).map fun (i : Nat) => (i : Int)
theorem upto_mem {n : Nat} {i : Nat} : (i : Int) ∈ upto n ↔ i < n := by
  unfold upto
  rw [List.mem_map]
  constructor
  · rintro ⟨j, h1, h2⟩
    have := List.mem_range.1 h1
    omega
  · intro h
    exact ⟨i, List.mem_range.2 h, rfl⟩
theorem upto_succ (n : Nat) : upto (n + 1) = upto n ++ [(n : Int)] := by unfold upto; rw [List.range_succ, List.map_append]; rfl
/-- the tenants below t have jobs, and tenant t the first k -/
structure Fill (Q : List Int) (t k : Nat) (s : Sch) : Prop where
  q : s.Q = Q
  c : ∀ i, s.C.getD i 0 = 0
  r : s.R = upto (if k = 0 then t else t + 1)
  j : ∀ i x, x ∈ s.J.getD i [] → ∃ m : Nat, x = 10 * (i : Int) + m ∧ m < 4 ∧ (i < t ∨ (i = t ∧ m < k))
theorem fill_start (l : List Int) : Fill l 0 0 (newS l l.length) where
  q := newS_Q l
  c := newS_C l _
  r := rfl
  j := fun i x hx => by rw [newS_J] at hx; cases hx
theorem fill_next {Q : List Int} {t k : Nat} {s : Sch} (h : Fill Q t k s) (hk : 1 ≤ k) : Fill Q (t + 1) 0 s where
  q := h.q
  c := h.c
  r := by have := h.r; rw [if_neg (by omega)] at this; rw [if_pos rfl]; exact this
  j := fun i x hx => by
    obtain ⟨m, h1, h2, h3⟩ := h.j i x hx
    exact ⟨m, h1, h2, .inl (by omega)⟩
theorem fill_add {Q : List Int} {t k K : Nat} {s : Sch} (h : Fill Q t k s) (ok : Ok K s) (ht : t < Q.length) (hk : k < 4) : addM s (t : Int) (10 * (t : Int) + k) = (0, addS s t (10 * (t : Int) + k)) ∧ Fill Q t (k + 1) (addS s t (10 * (t : Int) + k)) := by
  have hno : ∀ i, i < s.Q.length → hasI (s.J.getD i []) (10 * (t : Int) + k) = false := fun i _ => by
    cases hh : hasI (s.J.getD i []) (10 * (t : Int) + k) with
    | false => rfl
    | true =>
      obtain ⟨m, h1, h2, h3⟩ := h.j i _ (hasI_mem.1 hh)
      omega
  have hw : whoS s (10 * (t : Int) + k) = -1 := firstT_none hno
  refine ⟨?_, ?_⟩
  · unfold addM
    rw [if_neg (by rw [h.q]; omega), if_neg (by rw [hw]; decide), Int.toNat_natCast]
  · have hlj : t < s.J.length := by rw [ok.lj, h.q]; exact ht
    refine ⟨h.q, h.c, ?_, fun i x hx => ?_⟩
    · unfold addS
      dsimp only
      rw [if_neg (Nat.succ_ne_zero k), h.r]
      by_cases e : k = 0
      · rw [if_pos e]
        have : hasI (upto t) (t : Int) = false := by
          cases hh : hasI (upto t) (t : Int) with
          | false => rfl
          | true => have := upto_mem.1 (hasI_mem.1 hh); omega
        rw [this, if_neg Bool.false_ne_true, upto_succ]
      · rw [if_neg e]
        have : hasI (upto (t + 1)) (t : Int) = true := hasI_mem.2 (upto_mem.2 (by omega))
        rw [this, if_pos rfl]
    · unfold addS at hx
      dsimp only at hx
      by_cases e : t = i
      · subst e
        rw [getD_set_eq hlj] at hx
        rcases List.mem_append.1 hx with q | q
        · obtain ⟨m, h1, h2, h3⟩ := h.j t x q
          exact ⟨m, h1, h2, by omega⟩
        · have : x = 10 * (t : Int) + k := by simpa using q
          exact ⟨k, this, hk, .inr ⟨rfl, by omega⟩⟩
      · rw [getD_set_ne e] at hx
        obtain ⟨m, h1, h2, h3⟩ := h.j i x hx
        exact ⟨m, h1, h2, by omega⟩
theorem fill_fair {Q : List Int} {K : Nat} {s : Sch} (h : Fill Q Q.length 0 s) (ok : Ok K s) : FairAt 0 (upto Q.length) [] s (List.replicate Q.length 0) := by
  have hr : s.R = upto Q.length := by have := h.r; rwa [if_pos rfl] at this
  have hu : ∀ i, (List.replicate Q.length (0 : Int)).getD i 0 = 0 := fun i => by
    rw [List.getD_eq_getElem?_getD, List.getElem?_replicate]
    split <;> rfl
  exact {
    ring := by rw [hr, List.append_nil]
    ne := fun e => by
      have h1 := ok.n1
      rw [h.q] at h1
      have := upto_mem.2 (show 0 < Q.length by omega)
      rw [e] at this
      cases this
    lu := by rw [List.length_replicate, h.q]
    all := fun i hi => by rw [hr]; exact upto_mem.2 (by rw [h.q] at hi; exact hi)
    rest := fun i _ _ => h.c i
    todo := fun i hi _ _ => by rw [hu]; simp
    done := fun i _ hb => by cases hb
    now := fun i hi _ => .inl ⟨h.c i, by rw [hu]; simp⟩ }

/-- what DrrFair has in memory: a scheduler, and two rows -/
structure FW (w0 : World) (p rq : Nat) (vt : Value) (tb qb : Nat → Nat) (gl gu : Nat) (L U : List Int) (s : Sch) (ow : Nat → Nat) (w : World) : Prop where
  d : DAt ow w0.heap.size w p rq vt tb qb s
  l : Blk w gl (L.map (Value.int .i64)) 3
  u : Blk w gu (U.map (Value.int .i64)) 3
  zl : ow gl = 0
  zu : ow gu = 0
  ne : gl ≠ gu
  ll : w0.heap.size ≤ gl
  lu : w0.heap.size ≤ gu
  b : Below w0.heap.size w0 w
section
variable {w0 w w' : World} {p rq gl gu : Nat} {vt : Value} {tb qb : Nat → Nat} {L U : List Int} {s s' : Sch} {ow ow' : Nat → Nat}
theorem FW.act (h : FW w0 p rq vt tb qb gl gu L U s ow w) (d : DAt ow' w0.heap.size w' p rq vt tb qb s') (f : Fr ow ow' w w') : FW w0 p rq vt tb qb gl gu L U s' ow' w' where
  d := d
  l := (f.blk h.l h.zl).1
  u := (f.blk h.u h.zu).1
  zl := (f.blk h.l h.zl).2
  zu := (f.blk h.u h.zu).2
  ne := h.ne
  ll := h.ll
  lu := h.lu
  b := h.b.trans (f.below h.d.lo h.d.hB)
theorem FW.grow (h : FW w0 p rq vt tb qb gl gu L U s ow w) (k : Below w.heap.size w w') : FW w0 p rq vt tb qb gl gu L U s (frO ow w.heap.size 0) w' :=
  h.act (h.d.grow k).1 (h.d.grow k).2
theorem FW.setL (h : FW w0 p rq vt tb qb gl gu L U s ow w) (i : Nat) (n : Int) : FW w0 p rq vt tb qb gl gu (L.set i n) U s ow (w.setCell ⟨gl, i, none⟩ (.int .i64 n)) := by
  have k : Keep (fun j => j = gl) w (w.setCell ⟨gl, i, none⟩ (.int .i64 n)) := keep_setCell (S := fun j => j = gl) (Keep.refl _ w) rfl _
  refine ⟨h.d.keep k (fun j e => by have e' : j = gl := e; rw [e', h.zl]) (fun _ _ => rfl) h.d.lo, ?_, h.u.keep k (fun e => h.ne (by have e' : gu = gl := e; exact e'.symm)), h.zl, h.zu, h.ne, h.ll, h.lu, h.b.trans (k.below h.d.hB (fun j hj e => by have e' : j = gl := e; have := h.ll; omega))⟩
  rw [List.map_set]
  exact h.l.set i _
theorem FW.setU (h : FW w0 p rq vt tb qb gl gu L U s ow w) (i : Nat) (n : Int) : FW w0 p rq vt tb qb gl gu L (U.set i n) s ow (w.setCell ⟨gu, i, none⟩ (.int .i64 n)) := by
  have k : Keep (fun j => j = gu) w (w.setCell ⟨gu, i, none⟩ (.int .i64 n)) := keep_setCell (S := fun j => j = gu) (Keep.refl _ w) rfl _
  refine ⟨h.d.keep k (fun j e => by have e' : j = gu := e; rw [e', h.zu]) (fun _ _ => rfl) h.d.lo, h.l.keep k (fun e => h.ne e), ?_, h.zl, h.zu, h.ne, h.ll, h.lu, h.b.trans (k.below h.d.hB (fun j hj e => by have e' : j = gu := e; have := h.lu; omega))⟩
  rw [List.map_set]
  exact h.u.set i _
end

/-- may quanta be, as the reference says it -/
theorem refmay30_any (v : Value) (l : List Int) (w : World) (hv : RInts w v l) :
    Calls Try.prog 26 #[v] w fun e w' => e = .returned (.bool (mayD l)) ∧ w = w' := by
  have HV := Lib.hid hv
  obtain ⟨a, cap, rfl, hc1, hc2⟩ := hv.shape
  clear hv
  go_enter Try.func26, Try.ntmps26
  go_wp2
  go_loop [7] (fun iv => ∃ k : Nat, k ≤ l.length ∧ iv = .int .i64 (k : Int) ∧ Hid ((l.take k).any badQ = false)) (fun iv => l.length - (intOf iv).toNat)
  case atStart => exact ⟨0, Nat.zero_le _, rfl, rfl⟩
  case round =>
    obtain ⟨k, hk, rfl, HK⟩ := hrel
    rcases Nat.lt_or_ge k l.length with hlt | hge
    · obtain ⟨b, off, x, rfl, -, hx, hcx, -, -⟩ := HV.out.at hlt
      have hki : (k : Int) < (l.length : Int) := by omega
      have hk0 : (0 : Int) ≤ (k : Int) := by omega
      have HBAD := Lib.hid (show badQ x = true → mayD l = false from fun e => by
        have : l.any badQ = true := List.any_eq_true.2 ⟨x, List.mem_of_getElem? hx, e⟩
        unfold mayD
        rw [this]
        rfl)
      have HNX := Lib.hid (show badQ x = false → (l.take (k + 1)).any badQ = false from fun e => by
        rw [take_snoc hx, List.any_append, HK.out]
        simp [e])
      clear hx
      by_cases h1 : x < 1
      · have d1 : decide (x < 1) = true := decide_eq_true h1
        have HB := Lib.hid (HBAD.out (by unfold badQ; rw [d1]; rfl))
        clear h1
        go_wp2
        go_ret
        exact ⟨ret_bool HB.out.symm, rfl⟩
      · have d1 : decide (x < 1) = false := decide_eq_false h1
        by_cases h2 : 1099511627776 < x
        · have d2 : decide (1099511627776 < x) = true := decide_eq_true h2
          have HB := Lib.hid (HBAD.out (by unfold badQ; rw [d2, Bool.or_true]))
          clear h1 h2
          go_wp2
          go_ret
          exact ⟨ret_bool HB.out.symm, rfl⟩
        · have d2 : decide (1099511627776 < x) = false := decide_eq_false h2
          have HN := Lib.hid (HNX.out (by unfold badQ; rw [d1, d2]; rfl))
          clear h1 h2
          go_wp2
          go_round
          case rel => exact ⟨k + 1, hlt, by go_num, HN.out⟩
          case measure => simp [intOf]; omega
    · obtain rfl : k = l.length := by omega
      have hany : l.any badQ = false := by have := HK.out; rwa [List.take_length] at this
      have HM := Lib.hid (show mayD l = (decide (0 < l.length) && decide (l.length ≤ 16)) by unfold mayD; rw [hany]; rfl)
      by_cases h1 : 0 < l.length
      · have d1 : decide (0 < l.length) = true := decide_eq_true h1
        have d1' : decide ((0 : Int) < (l.length : Int)) = true := decide_eq_true (by omega)
        by_cases h2 : l.length ≤ 16
        · have d2 : decide (l.length ≤ 16) = true := decide_eq_true h2
          have d2' : decide ((l.length : Int) ≤ 16) = true := decide_eq_true (by omega)
          have HM2 := Lib.hid (show mayD l = true by rw [HM.out, d1, d2]; rfl)
          clear h1 h2 hany
          go_wp2
          go_ret
          exact ⟨ret_bool HM2.out.symm, rfl⟩
        · have d2 : decide (l.length ≤ 16) = false := decide_eq_false h2
          have d2' : decide ((l.length : Int) ≤ 16) = false := decide_eq_false (by omega)
          have HM2 := Lib.hid (show mayD l = false by rw [HM.out, d1, d2]; rfl)
          clear h1 h2 hany
          go_wp2
          go_ret
          exact ⟨ret_bool HM2.out.symm, rfl⟩
      · have d1 : decide (0 < l.length) = false := decide_eq_false h1
        have d1' : decide ((0 : Int) < (l.length : Int)) = false := decide_eq_false (by omega)
        have HM2 := Lib.hid (show mayD l = false by rw [HM.out, d1]; rfl)
        clear h1 hany
        go_wp2
        go_ret
        exact ⟨ret_bool HM2.out.symm, rfl⟩
end Go.Proofs.Ytmgjmpmcadjemaa

/- Package queue: a queue in memory, and the contracts of its functions. -/
import Derived.Test.YtmgjmpmcadjemaaSame
namespace Go.Proofs.Ytmgjmpmcadjemaa
open Go.RowKit

def eqI (n : Int) (x : Int) : Bool := n == x
/-- the place of a number in a list, or -1 -/
def placeI (l : List Int) (n : Int) : Int := findI (eqI n) l

set_option maxHeartbeats 400000 in
theorem index_any (v : Value) (l : List Int) (n : Int) (w : World) (hv : RInts w v l) :
    Calls Try.prog 90 #[v, .int .i64 n] w fun e w' => e = .returned (.int .i64 (placeI l n)) ∧ w = w' := by
  obtain ⟨a, cap, rfl, hc1, hc2⟩ := hv.shape
  obtain ⟨R, hR⟩ : ∃ R, placeI l n = R := ⟨_, rfl⟩
  have HR := Lib.hid hR
  rw [hR]
  clear hR
  go_enter Try.func90, Try.ntmps90
  go_wp2
  go_loop [5, 8] (fun x i => ∃ k : Nat, k ≤ l.length ∧ i = .int .i64 k ∧ Hid (∀ (i : Nat) (y : Int), i < k → l[i]? = some y → eqI n y = false)) (fun _ i => l.length - (intOf i).toNat)
  case atStart => exact ⟨0, Nat.zero_le _, rfl, fun i y h _ => absurd h (by omega)⟩
  case round =>
    obtain ⟨k, hk, rfl, HALL⟩ := hrel
    by_cases hlt : k < l.length
    · obtain ⟨b, off, x, rfl, hbb, hx, hcx, hx1, hx2⟩ := hv.at hlt
      have HX := Lib.hid hx
      clear hx hv
      cases hp : (n == x) with
      | true =>
        have HP := Lib.hid (show eqI n x = true from hp)
        go_wp2
        go_ret
        exact ⟨ret_int (by rw [← HR.out]; exact (findI_some HX.out HP.out HALL.out).symm), rfl⟩
      | false =>
        have HP := Lib.hid (show eqI n x = false from hp)
        go_wp2
        go_round
        case rel =>
          refine ⟨k + 1, by omega, by go_num, fun i y hi hy => ?_⟩
          by_cases e : i = k
          · subst e
            have := HX.out
            rw [this] at hy
            cases hy
            exact HP.out
          · exact HALL.out i y (by omega) hy
        case measure => simp [intOf]; omega
    · obtain rfl : k = l.length := by omega
      go_wp2
      go_ret
      exact ⟨ret_int (by rw [← HR.out]; exact (findI_none fun i y hy => HALL.out i y ((List.getElem?_eq_some_iff.1 hy).1) hy).symm), rfl⟩

def hasI (l : List Int) (n : Int) : Bool := l.any (eqI n)
theorem placeI_has (l : List Int) (n : Int) : (0 ≤ placeI l n) ↔ hasI l n = true := findI_any _ _

theorem contains_any (v : Value) (l : List Int) (n : Int) (w : World) (hv : RInts w v l) :
    Calls Try.prog 88 #[v, .int .i64 n] w fun e w' => e = .returned (.bool (hasI l n)) ∧ w = w' := by
  have HI := Lib.hid (index_any v l n w hv)
  obtain ⟨r, hr⟩ : ∃ r, placeI l n = r := ⟨_, rfl⟩
  have hr2 := placeI_has l n
  rw [hr] at HI hr2
  have HR := Lib.hid hr2
  clear hr2 hr hv
  go_enter Try.func88, Try.ntmps88
  go_wp2_with fail
  refine HI.out.mono ?_
  rintro e w' ⟨rfl, rfl⟩
  clear HI
  by_cases h0 : 0 ≤ r
  · go_wp2
    go_ret
    exact ⟨ret_bool (by rw [HR.out.1 h0]), rfl⟩
  · go_wp2
    go_ret
    exact ⟨ret_bool (by
      have : hasI l n = false := by rw [Bool.eq_false_iff]; exact fun h => absurd (HR.out.2 h) (by omega)
      rw [this]
      simp
      try omega), rfl⟩

/-- a queue in memory -/
structure QueueAt (w : World) (b : Nat) (lim : Int) (vq : Value) (l : List Int) : Prop where
  box : Blk w b [.int .i64 lim, vq] 122
  row : OwnI w 3 vq l
  bd : ∀ x ∈ l, -9223372036854775808 ≤ x ∧ x ≤ 9223372036854775807
  ne : vq.ownBlock ≠ some b

theorem QueueAt.keep {S : Nat → Prop} {w w' : World} {b : Nat} {lim : Int} {vq : Value} {l : List Int} (h : QueueAt w b lim vq l) (k : Keep S w w') (h1 : ¬ S b) (h2 : ∀ g, vq.ownBlock = some g → ¬ S g) : QueueAt w' b lim vq l :=
  ⟨h.box.keep k h1, h.row.keep k h2, h.bd, h.ne⟩
theorem QueueAt.below {w w' : World} {b : Nat} {lim : Int} {vq : Value} {l : List Int} (h : QueueAt w b lim vq l) (k : Below w.heap.size w w') : QueueAt w' b lim vq l :=
  h.keep (Keep.of_below k (fun _ => False)) (fun h => h) (fun _ _ h => h)
theorem QueueAt.reads {w : World} {b : Nat} {lim : Int} {vq : Value} {l : List Int} (h : QueueAt w b lim vq l) : RInts w vq l := h.row.reads h.bd

/-- a queue behind an act: its list, and what is kept of memory -/
def QDid (b : Nat) (lim : Int) (vq : Value) (l' : List Int) (w w' : World) : Prop :=
  ∃ vq', QueueAt w' b lim vq' l' ∧ Keep (fun j => j = b ∨ vq.ownBlock = some j) w w' ∧ (∀ g, vq'.ownBlock = some g → vq.ownBlock = some g ∨ w.heap.size ≤ g)

theorem QDid.same {b : Nat} {lim : Int} {vq : Value} {l : List Int} {w w' : World} (h : QueueAt w b lim vq l) (k : Below w.heap.size w w') : QDid b lim vq l w w' :=
  ⟨vq, h.below k, Keep.of_below k _, fun g hg => .inl hg⟩

theorem qnew_ok (lim : Int) (w : World) (h1 : 1 ≤ lim) (h2 : lim ≤ 1099511627776) :
    Calls Try.prog 72 #[.int .i64 lim] w fun e w' => ∃ b, e = .returned (.tuple #[.pointer (some ⟨b, 0, none⟩), .int .i64 0]) ∧ QueueAt w' b lim (.slice none 0 0) [] ∧ Below w.heap.size w w' ∧ w.heap.size ≤ b := by
  go_enter Try.func72, Try.ntmps72
  go_wp2
  go_ret2
  exact ⟨_, rfl, ⟨Blk.new w _ _, OwnI.nil _ _, fun x h => (by cases h), by simp [Value.ownBlock]⟩, below_alloc _ _, Nat.le_refl _⟩
theorem qnew_bad (lim : Int) (w : World) (h : ¬ (1 ≤ lim ∧ lim ≤ 1099511627776)) :
    Calls Try.prog 72 #[.int .i64 lim] w fun e w' => e = .returned (.tuple #[.pointer none, .int .i64 1]) ∧ w = w' := by
  by_cases h1 : 1 ≤ lim
  · have h2 : 1099511627776 < lim := by omega
    clear h
    go_enter Try.func72, Try.ntmps72
    go_wp2
    go_ret2
    exact ⟨rfl, rfl⟩
  · clear h
    go_enter Try.func72, Try.ntmps72
    go_wp2
    go_ret2
    exact ⟨rfl, rfl⟩

theorem qhas_any (b : Nat) (lim : Int) (vq : Value) (l : List Int) (n : Int) (w : World) (h : QueueAt w b lim vq l) :
    Calls Try.prog 75 #[.pointer (some ⟨b, 0, none⟩), .int .i64 n] w fun e w' => e = .returned (.bool (hasI l n)) ∧ w = w' := by
  have HC := Lib.hid (contains_any vq l n w h.reads)
  have hc1 := h.box.cell (i := 1) (x := vq) rfl
  obtain ⟨R, hR⟩ : ∃ R, hasI l n = R := ⟨_, rfl⟩
  rw [hR] at HC ⊢
  clear h hR
  go_enter Try.func75, Try.ntmps75
  go_wp2_with fail
  refine HC.out.mono ?_
  rintro e w' ⟨rfl, rfl⟩
  clear HC
  go_wp2
  go_ret
  exact ⟨rfl, rfl⟩
theorem qhas_nil (n : Int) (w : World) : Calls Try.prog 75 #[.pointer none, .int .i64 n] w fun e w' => e = .returned (.bool false) ∧ w = w' := by
  go_enter Try.func75, Try.ntmps75
  go_wp2
  go_ret
  exact ⟨rfl, rfl⟩
theorem qlen_any (b : Nat) (lim : Int) (vq : Value) (l : List Int) (w : World) (h : QueueAt w b lim vq l) :
    Calls Try.prog 60 #[.pointer (some ⟨b, 0, none⟩)] w fun e w' => e = .returned (.int .i64 l.length) ∧ w = w' := by
  have hc1 := h.box.cell (i := 1) (x := vq) rfl
  obtain ⟨a, cap, rfl, _, _⟩ := h.reads.shape
  clear h
  go_enter Try.func60, Try.ntmps60
  go_wp2
  go_ret
  exact ⟨rfl, rfl⟩
theorem qlen_nil (w : World) : Calls Try.prog 60 #[.pointer none] w fun e w' => e = .returned (.int .i64 0) ∧ w = w' := by
  go_enter Try.func60, Try.ntmps60
  go_wp2
  go_ret
  exact ⟨rfl, rfl⟩
theorem qall_any (b : Nat) (lim : Int) (vq : Value) (l : List Int) (w : World) (h : QueueAt w b lim vq l) (hl : l.length ≤ 1000000) :
    Calls Try.prog 69 #[.pointer (some ⟨b, 0, none⟩)] w fun e w' => ∃ v', e = .returned v' ∧ RInts w' v' l ∧ FreshV w.heap.size v' ∧ Below w.heap.size w w' := by
  have HC := Lib.hid (clone_any vq l w hl h.reads)
  have hc1 := h.box.cell (i := 1) (x := vq) rfl
  clear h
  go_enter Try.func69, Try.ntmps69
  go_wp2_with fail
  refine HC.out.mono ?_
  rintro e w1 ⟨v1, rfl, hr, hf, hb⟩
  clear HC hc1
  go_wp2
  go_ret
  exact ⟨_, rfl, hr, hf, hb⟩
theorem qall_nil (w : World) : Calls Try.prog 69 #[.pointer none] w fun e w' => e = .returned (.slice none 0 0) ∧ w = w' := by
  go_enter Try.func69, Try.ntmps69
  go_wp2
  go_ret
  exact ⟨rfl, rfl⟩

theorem qfront_any (b : Nat) (lim : Int) (vq : Value) (x : Int) (l : List Int) (w : World) (h : QueueAt w b lim vq (x :: l)) (hl : l.length ≤ 1000000) :
    Calls Try.prog 61 #[.pointer (some ⟨b, 0, none⟩)] w fun e w' => e = .returned (.tuple #[.int .i64 x, .int .i64 0]) ∧ w = w' := by
  have hc1 := h.box.cell (i := 1) (x := vq) rfl
  obtain ⟨a, cap, rfl, _, _⟩ := h.reads.shape
  obtain ⟨b2, off, y, rfl, _, hy, hcy, hy1, hy2⟩ := h.reads.at (k := 0) (by simp)
  simp at hy
  subst hy
  have hl1 : (x :: l).length = l.length + 1 := rfl
  have hln : (((x :: l).length : Int) == 0) = false := beq_eq_false_iff_ne.2 (by omega)
  have hl0 : (0 : Int) < ((x :: l).length : Int) := by omega
  clear hl1
  rw [Nat.add_zero] at hcy
  obtain ⟨n, hn⟩ : ∃ n, (x :: l).length = n := ⟨_, rfl⟩
  rw [hn] at hc1 hln hl0
  clear h hn
  go_enter Try.func61, Try.ntmps61
  go_wp2
  go_ret2
  exact ⟨rfl, rfl⟩
theorem qfront_none (b : Nat) (lim : Int) (vq : Value) (w : World) (h : QueueAt w b lim vq []) :
    Calls Try.prog 61 #[.pointer (some ⟨b, 0, none⟩)] w fun e w' => e = .returned (.tuple #[.int .i64 0, .int .i64 6]) ∧ w = w' := by
  have hc1 := h.box.cell (i := 1) (x := vq) rfl
  obtain ⟨a, cap, rfl, _, _⟩ := h.reads.shape
  clear h
  go_enter Try.func61, Try.ntmps61
  go_wp2
  go_ret2
  exact ⟨rfl, rfl⟩
theorem qfront_nil (w : World) : Calls Try.prog 61 #[.pointer none] w fun e w' => e = .returned (.tuple #[.int .i64 0, .int .i64 7]) ∧ w = w' := by
  go_enter Try.func61, Try.ntmps61
  go_wp2
  go_ret2
  exact ⟨rfl, rfl⟩

set_option maxHeartbeats 1000000 in
theorem qwithout_any (v : Value) (l : List Int) (k : Nat) (w : World) (hv : RInts w v l) (hk : k < l.length) (hl : l.length ≤ 1000000) :
    Calls Try.prog 89 #[v, .int .i64 k] w fun e w' => ∃ v', e = .returned v' ∧ OwnI w' 3 v' (l.eraseIdx k) ∧ FreshV w.heap.size v' ∧ Below w.heap.size w w' := by
  obtain ⟨a, cap, rfl, hc1, hc2⟩ := hv.shape
  obtain ⟨b, off, x, rfl, hbb, hx, hcx, _, _⟩ := hv.at hk
  obtain ⟨i0, hi, hz0, hz1, hz2⟩ := info_parts intinfo
  have HV := Lib.hid hv
  clear hx hcx hv
  go_enter Try.func89, Try.ntmps89
  go_wp2_with (at_make; refine wpList_make_own _ rfl _ _ 28 rfl w.heap.size 3 i0 (.int .i64 0) 1 Try.underlying28 hi hz0 hz1 _ _ _ (l.length - 1) rfl rfl (by omega) (by rw [hz2]; omega) (by unfold maxLen; omega) (Nat.le_refl _) ?_)
  intro w1 hown1 hgr1
  have HO1 := Lib.hid (own_of hown1)
  have hb1 := below_grown hgr1
  clear hown1 hgr1
  have hn1 : ∀ j u, ((l.take k).map (Value.int .i64))[j]? = some u → w1.cell? ((⟨b, off, none⟩ : Addr).add j) = some u := by
    intro j u hu
    refine (HV.out.below hb1).1.news (by simp) j u ?_
    rw [← hu, List.map_take, List.getElem?_take]
    have : j < k := by
      have := (List.getElem?_eq_some_iff.1 hu).1
      simp at this
      omega
    rw [if_pos this]
  have HN1 := Lib.hid hn1
  have hown1 := HO1.out
  clear hn1
  go_wp2_with (at_builtin; refine wpList_append_keep _ rfl _ _ 28 rfl 3 (.int .i64 0) 1 8 Try.underlying28 intinfo rfl (by decide) _ 0 [] rfl hown1 ⟨b, off, none⟩ k cap ((l.take k).map (Value.int .i64)) rfl (by simp; omega) HN1.out (one_ints _ _) (by unfold maxLen; omega) (by omega) ?_)
  intro v2 w2 hown2 hkeep hfresh
  have hb2 : Below w.heap.size w w2 := hb1.trans (hkeep.below hb1.size (fun j hj he => by simp [Value.ownBlock] at he; omega))
  have HF2 := Lib.hid (show FreshV w.heap.size v2 from fun g hg => by
    rcases hfresh g hg with h | h
    · simp [Value.ownBlock] at h; omega
    · have := hb1.size; omega)
  have hown2' : Own w2 3 1 v2 k ((l.take k).map (Value.int .i64)) := by simpa using hown2
  clear hown1 hown2 hkeep hfresh HN1 HO1
  have HVW := Lib.hid (HV.out.below hb2)
  by_cases hcap : cap = k + 1
  · have hl1 : l.length = k + 1 := by omega
    have hd0 : l.drop (k + 1) = [] := List.drop_of_length_le (by omega)
    have HD0 := Lib.hid hd0
    have HL1 := Lib.hid hl1
    have hn2 := Lib.hid (show ∀ j u, ((l.drop (k + 1)).map (Value.int .i64))[j]? = some u → w2.cell? ((⟨b, off, none⟩ : Addr).add j) = some u from fun j u hu => by rw [hd0] at hu; simp at hu)
    clear hl1 hd0
    go_wp2_with (at_builtin; refine wpList_append_keep _ rfl _ _ 28 rfl 3 (.int .i64 0) 1 8 Try.underlying28 intinfo rfl (by decide) v2 k ((l.take k).map (Value.int .i64)) rfl hown2' ⟨b, off, none⟩ (l.length - (k + 1)) _ ((l.drop (k + 1)).map (Value.int .i64)) rfl (by simp) hn2.out (one_ints _ _) (by unfold maxLen; omega) (by omega) ?_)
    intro v3 w3 hown3 hkeep3 hfresh3
    have hb3 : Below w.heap.size w w3 := below_append hb2 hkeep3 HF2.out hb2.size
    have HF3 := Lib.hid (HF2.out.step hb2.size hfresh3)
    have hown4 : OwnI w3 3 v3 (l.eraseIdx k) := by
      unfold OwnI
      rw [List.eraseIdx_eq_take_drop_succ, List.map_append]
      have e : (l.take k ++ l.drop (k + 1)).length = k + (l.length - (k + 1)) := by simp; omega
      rw [e]
      simpa using hown3
    have HO4 := Lib.hid hown4
    clear hown2' hown3 hkeep3 hfresh3 hown4 hb2
    go_wp2
    go_ret
    exact ⟨_, rfl, HO4.out, HF3.out, hb3⟩
  · have hn2 := Lib.hid (show ∀ j u, ((l.drop (k + 1)).map (Value.int .i64))[j]? = some u → w2.cell? ((⟨b, off + (k + 1), none⟩ : Addr).add j) = some u from fun j u hu => by
      have := HVW.out.1.news (by simp) (k + 1 + j) u (by rw [← hu, List.map_drop, List.getElem?_drop])
      have hadd : ∀ (o n : Nat), (⟨b, o, none⟩ : Addr).add n = ⟨b, o + n, none⟩ := fun o n => by unfold Addr.add; split <;> simp_all
      rw [hadd] at this ⊢
      rw [show off + (k + 1) + j = off + (k + 1 + j) from by omega]
      exact this)
    go_wp2_with (at_builtin; refine wpList_append_keep _ rfl _ _ 28 rfl 3 (.int .i64 0) 1 8 Try.underlying28 intinfo rfl (by decide) v2 k ((l.take k).map (Value.int .i64)) rfl hown2' ⟨b, off + (k + 1), none⟩ (l.length - (k + 1)) _ ((l.drop (k + 1)).map (Value.int .i64)) rfl (by simp) hn2.out (one_ints _ _) (by unfold maxLen; omega) (by omega) ?_)
    intro v3 w3 hown3 hkeep3 hfresh3
    have hb3 : Below w.heap.size w w3 := below_append hb2 hkeep3 HF2.out hb2.size
    have HF3 := Lib.hid (HF2.out.step hb2.size hfresh3)
    have hown4 : OwnI w3 3 v3 (l.eraseIdx k) := by
      unfold OwnI
      rw [List.eraseIdx_eq_take_drop_succ, List.map_append]
      have e : (l.take k ++ l.drop (k + 1)).length = k + (l.length - (k + 1)) := by simp; omega
      rw [e]
      simpa using hown3
    have HO4 := Lib.hid hown4
    clear hown2' hown3 hkeep3 hfresh3 hown4 hb2
    go_wp2
    go_ret
    exact ⟨_, rfl, HO4.out, HF3.out, hb3⟩

end Go.Proofs.Ytmgjmpmcadjemaa

/- Package ledger: reservations and releases; a new ledger. -/
import Derived.Test.YtfphdcfbkknpbaaLedA
namespace Go.Proofs.Ytfphdcfbkknpbaa
open Go.RowKit

/-- why a reservation is refused; 0: it is not -/
def resE (A : List Acc) (t n : Int) : Int :=
  if inA t A = false then 6 else if ¬ (0 ≤ n ∧ n ≤ 1099511627776) then 1 else
  if (A.getD t.toNat (0, 0, 0)).1 < n then 33 else if (A.getD t.toNat (0, 0, 0)).1 - (A.getD t.toNat (0, 0, 0)).2.1 < n then 34 else 0
def resAcc (x : Acc) (n : Int) : Acc := (x.1, x.2.1 + n, max x.2.2 (x.2.1 + n))
def resA (A : List Acc) (t n : Int) : List Acc := if resE A t n = 0 then A.set t.toNat (resAcc (A.getD t.toNat (0, 0, 0)) n) else A
/-- why a release is refused; 0: it is not -/
def relE (A : List Acc) (t n : Int) : Int :=
  if inA t A = false then 6 else if ¬ (0 ≤ n ∧ n ≤ (A.getD t.toNat (0, 0, 0)).2.1) then 1 else 0
def relAcc (x : Acc) (n : Int) : Acc := (x.1, x.2.1 - n, x.2.2)
def relA (A : List Acc) (t n : Int) : List Acc := if relE A t n = 0 then A.set t.toNat (relAcc (A.getD t.toNat (0, 0, 0)) n) else A

theorem getDA {A : List Acc} {k : Nat} {x : Acc} (hx : A[k]? = some x) : A.getD ((k : Int).toNat) (0, 0, 0) = x := by rw [Int.toNat_natCast, List.getD_eq_getElem?_getD, hx]; rfl

def Did (b br cap : Nat) (E : Int) (A' : List Acc) (w : World) (e : Ending) (w' : World) : Prop :=
  e = .returned (.int .i64 E) ∧ LedgerAt w' b br cap A' ∧ Keep (fun j => j = br) w w'

theorem did_no {b br cap : Nat} {A A' : List Acc} {E E' : Int} {w w' : World} (h : LedgerAt w b br cap A) (hb : Below w.heap.size w w') (hE : E = E') (hA : A' = A) : Did b br cap E A' w (.returned (.int .i64 E')) w' := by
  subst hE
  subst hA
  exact ⟨rfl, h.below hb, Keep.of_below hb _⟩

theorem resE_in {A : List Acc} {t n : Int} (h : inA t A = false) : resE A t n = 6 := by unfold resE; rw [if_pos h]
theorem resE_arg {A : List Acc} {t n : Int} (h : inA t A = true) (h2 : ¬ (0 ≤ n ∧ n ≤ 1099511627776)) : resE A t n = 1 := by unfold resE; rw [if_neg (by rw [h]; decide), if_pos h2]
theorem resE_x {A : List Acc} {k : Nat} {x : Acc} {n : Int} (hx : A[k]? = some x) (h : inA k A = true) (h2 : 0 ≤ n ∧ n ≤ 1099511627776) :
    resE A k n = if x.1 < n then 33 else if x.1 - x.2.1 < n then 34 else 0 := by
  unfold resE
  rw [if_neg (by rw [h]; decide), if_neg (by simpa using h2), getDA hx]
theorem resA_no {A : List Acc} {t n : Int} (h : resE A t n ≠ 0) : resA A t n = A := by unfold resA; rw [if_neg h]
theorem resA_x {A : List Acc} {k : Nat} {x : Acc} {n : Int} (hx : A[k]? = some x) (h : resE A k n = 0) : resA A k n = A.set k (resAcc x n) := by unfold resA; rw [if_pos h, getDA hx, Int.toNat_natCast]
theorem relE_in {A : List Acc} {t n : Int} (h : inA t A = false) : relE A t n = 6 := by unfold relE; rw [if_pos h]
theorem relE_x {A : List Acc} {k : Nat} {x : Acc} {n : Int} (hx : A[k]? = some x) (h : inA k A = true) : relE A k n = if ¬ (0 ≤ n ∧ n ≤ x.2.1) then 1 else 0 := by
  unfold relE
  rw [if_neg (by rw [h]; decide), getDA hx]
theorem relA_no {A : List Acc} {t n : Int} (h : relE A t n ≠ 0) : relA A t n = A := by unfold relA; rw [if_neg h]
theorem relA_x {A : List Acc} {k : Nat} {x : Acc} {n : Int} (hx : A[k]? = some x) (h : relE A k n = 0) : relA A k n = A.set k (relAcc x n) := by unfold relA; rw [if_pos h, getDA hx, Int.toNat_natCast]

set_option maxRecDepth 100000 in
set_option maxHeartbeats 1000000 in
theorem lres_any (b br cap : Nat) (A : List Acc) (t n : Int) (w : World) (h : LedgerAt w b br cap A) (hok : okL A) :
    Calls Try.prog 26 #[.pointer (some ⟨b, 0, none⟩), .int .i64 t, .int .i64 n] w (Did b br cap (resE A t n) (resA A t n) w) := by
  have HO := Lib.hid (lof_any b br cap A t w h)
  have H := Lib.hid h
  cases hin : inA t A with
  | false =>
    rw [ofP_no hin] at HO
    have HE := Lib.hid (resE_in (n := n) hin)
    clear h hin hok
    go_enter Try.func26, Try.ntmps26
    go_wp2_with fail
    refine HO.out.mono ?_
    rintro e w' ⟨rfl, rfl⟩
    clear HO
    go_wp2
    go_ret
    exact did_no H.out (Below.refl _ _) HE.out (resA_no (by rw [HE.out]; decide))
  | true =>
    obtain ⟨k, x, rfl, hx⟩ := inA_yes hin
    rw [ofP_yes hin] at HO
    obtain ⟨l, u, p⟩ := x
    obtain ⟨o1, o2, o3, o4⟩ := okA_at hok hx
    simp only at o1 o2 o3 o4
    have hc0 := h.cell hx 0 (by decide) _ rfl
    have hc1 := h.cell hx 1 (by decide) _ rfl
    have hc2 := h.cell hx 2 (by decide) _ rfl
    have hf1 := h.free (k * 3 + 1)
    have hf2 := h.free (k * 3 + 2)
    simp only [Nat.add_zero] at hc0 hc1 hc2
    have HX := Lib.hid hx
    have HIN := Lib.hid hin
    clear h hx hin hok
    by_cases hn : 0 ≤ n ∧ n ≤ 1099511627776
    · have HN := Lib.hid (show (decide (0 ≤ n) && decide (n ≤ 1099511627776)) = true by simp [hn])
      have HRE := Lib.hid (resE_x HX.out HIN.out hn)
      obtain ⟨hn1, hn2⟩ := hn
      by_cases hl : l < n
      · have HE := Lib.hid (show resE A k n = 33 by rw [HRE.out, if_pos hl])
        go_enter Try.func26, Try.ntmps26
        go_wp2_with fail
        refine HO.out.mono ?_
        rintro e w' ⟨rfl, rfl⟩
        go_wp2_with fail
        refine (lmay_any _ _).mono ?_
        rintro e w' ⟨rfl, rfl⟩
        rw [HN.out]
        clear HO
        go_wp2
        go_ret
        exact did_no H.out (Below.refl _ _) HE.out (resA_no (by rw [HE.out]; decide))
      · have hwr : IntKind.i64.wrap (l - u) = l - u := IntWalk.i64_in _ (by omega)
        by_cases hb : l - u < n
        · have HE := Lib.hid (show resE A k n = 34 by rw [HRE.out, if_neg hl, if_pos hb])
          go_enter Try.func26, Try.ntmps26
          go_wp2_with fail
          refine HO.out.mono ?_
          rintro e w' ⟨rfl, rfl⟩
          go_wp2_with fail
          refine (lmay_any _ _).mono ?_
          rintro e w' ⟨rfl, rfl⟩
          rw [HN.out]
          clear HO
          go_wp2
          go_quiet (fail)
          go_wp2
          go_ret
          exact did_no H.out (below_drewN (Below.refl _ _) nq) HE.out (resA_no (by rw [HE.out]; decide))
        · have HE := Lib.hid (show resE A k n = 0 by rw [HRE.out, if_neg hl, if_neg hb])
          have HRA := Lib.hid (resA_x HX.out HE.out)
          go_enter Try.func26, Try.ntmps26
          go_wp2_with fail
          refine HO.out.mono ?_
          rintro e w' ⟨rfl, rfl⟩
          go_wp2_with fail
          refine (lmay_any _ _).mono ?_
          rintro e w' ⟨rfl, rfl⟩
          rw [HN.out]
          clear HO
          go_wp2
          go_quiet (fail)
          clear hwr
          go_wp2
          have hc1' : ((w.drewN nq).setCell ⟨br, k * 3 + 1, none⟩ (.int .i64 (u + n))).cell? ⟨br, k * 3 + 1, none⟩ = some (.int .i64 (u + n)) := World.cell?_setCell_same _ _ _ (by simpa using hc1)
          have hc2' : ((w.drewN nq).setCell ⟨br, k * 3 + 1, none⟩ (.int .i64 (u + n))).cell? ⟨br, k * 3 + 2, none⟩ = some (.int .i64 p) := by
            rw [World.cell?_setCell_other _ _ _ _ (by simp)]
            simpa using hc2
          have hf2' : ((w.drewN nq).setCell ⟨br, k * 3 + 1, none⟩ (.int .i64 (u + n))).frozen? ⟨br, k * 3 + 2, none⟩ = false := by simpa using hf2
          have hfin : ∀ p', p' = max p (u + n) → LedgerAt ((((w.drewN nq).setCell ⟨br, k * 3 + 1, none⟩ (.int .i64 (u + n))).drew.setCell ⟨br, k * 3 + 2, none⟩ (.int .i64 p'))) b br cap (resA A k n) ∧
              Keep (fun j => j = br) w ((((w.drewN nq).setCell ⟨br, k * 3 + 1, none⟩ (.int .i64 (u + n))).drew.setCell ⟨br, k * 3 + 2, none⟩ (.int .i64 p'))) := by
            intro p' hp'
            refine ⟨?_, (keep_setCell (S := fun j => j = br) (((keep_setCell (S := fun j => j = br) (Keep.of_below (below_drewN (Below.refl _ w) nq) _) (a := ⟨br, k * 3 + 1, none⟩) rfl (.int .i64 (u + n)))).trans (Keep.of_below (Below.drew (Below.refl _ _)) _)) (a := ⟨br, k * 3 + 2, none⟩) rfl (.int .i64 p'))⟩
            have hkl : k < A.length := (List.getElem?_eq_some_iff.1 HX.out).1
            have s1 := (H.out.below (below_drewN (Below.refl _ w) nq)).set HX.out 1 (by decide) (.int .i64 (u + n)) (x' := (l, u + n, p)) rfl
            have s2 := (s1.below (Below.drew (Below.refl _ _))).set (k := k) (x := (l, u + n, p)) (by simp [hkl]) 2 (by decide) (.int .i64 p') (x' := (l, u + n, p')) rfl
            rw [List.set_set] at s2
            rw [HRA.out]
            unfold resAcc
            rw [hp'] at s2 ⊢
            exact s2
          have HFIN := Lib.hid hfin
          clear hfin hc0 hc1 hc2 hf1 hf2 H
          generalize (w.drewN nq).setCell ⟨br, k * 3 + 1, none⟩ (.int .i64 (u + n)) = w2 at *
          go_still_tail 10, (by kernel_rfl)
          all_goals
            change wpList _ _ _ _ _ (World.drew _)
            go_wp2
          all_goals
            go_ret
            rw [HE.out]
            exact ⟨rfl, (HFIN.out _ (by omega)).1, (HFIN.out _ (by omega)).2⟩
    · have HN := Lib.hid (show (decide (0 ≤ n) && decide (n ≤ 1099511627776)) = false by simp; omega)
      have HE := Lib.hid (resE_arg HIN.out hn)
      clear hn
      go_enter Try.func26, Try.ntmps26
      go_wp2_with fail
      refine HO.out.mono ?_
      rintro e w' ⟨rfl, rfl⟩
      go_wp2_with fail
      refine (lmay_any _ _).mono ?_
      rintro e w' ⟨rfl, rfl⟩
      rw [HN.out]
      clear HO
      go_wp2
      go_ret
      exact did_no H.out (Below.refl _ _) HE.out (resA_no (by rw [HE.out]; decide))

theorem lres_nil (t n : Int) (w : World) : Calls Try.prog 26 #[.pointer none, .int .i64 t, .int .i64 n] w fun e w' => e = .returned (.int .i64 7) ∧ w = w' := by
  go_enter Try.func26, Try.ntmps26
  go_wp2_with fail
  refine (lof_nil _ _).mono ?_
  rintro e w' ⟨rfl, rfl⟩
  go_wp2
  go_ret
  exact ⟨rfl, rfl⟩
theorem lrel_nil (t n : Int) (w : World) : Calls Try.prog 25 #[.pointer none, .int .i64 t, .int .i64 n] w fun e w' => e = .returned (.int .i64 7) ∧ w = w' := by
  go_enter Try.func25, Try.ntmps25
  go_wp2_with fail
  refine (lof_nil _ _).mono ?_
  rintro e w' ⟨rfl, rfl⟩
  go_wp2
  go_ret
  exact ⟨rfl, rfl⟩

set_option maxHeartbeats 1000000 in
theorem lrel_any (b br cap : Nat) (A : List Acc) (t n : Int) (w : World) (h : LedgerAt w b br cap A) (hok : okL A) :
    Calls Try.prog 25 #[.pointer (some ⟨b, 0, none⟩), .int .i64 t, .int .i64 n] w (Did b br cap (relE A t n) (relA A t n) w) := by
  have HO := Lib.hid (lof_any b br cap A t w h)
  have H := Lib.hid h
  cases hin : inA t A with
  | false =>
    rw [ofP_no hin] at HO
    have HE := Lib.hid (relE_in (n := n) hin)
    clear h hin hok
    go_enter Try.func25, Try.ntmps25
    go_wp2_with fail
    refine HO.out.mono ?_
    rintro e w' ⟨rfl, rfl⟩
    clear HO
    go_wp2
    go_ret
    exact did_no H.out (Below.refl _ _) HE.out (relA_no (by rw [HE.out]; decide))
  | true =>
    obtain ⟨k, x, rfl, hx⟩ := inA_yes hin
    rw [ofP_yes hin] at HO
    obtain ⟨l, u, p⟩ := x
    obtain ⟨o1, o2, o3, o4⟩ := okA_at hok hx
    simp only at o1 o2 o3 o4
    have hc1 := h.cell hx 1 (by decide) _ rfl
    have hf1 := h.free (k * 3 + 1)
    have HX := Lib.hid hx
    have HRE := Lib.hid (relE_x (n := n) hx hin)
    clear h hx hin hok
    by_cases h0 : 0 ≤ n
    · by_cases h1 : n ≤ u
      · have HE := Lib.hid (show relE A k n = 0 by rw [HRE.out, if_neg (by simp only; omega)])
        have HRA := Lib.hid (relA_x HX.out HE.out)
        go_enter Try.func25, Try.ntmps25
        go_wp2_with fail
        refine HO.out.mono ?_
        rintro e w' ⟨rfl, rfl⟩
        clear HO
        go_wp2
        go_ret
        refine ⟨by rw [HE.out]; rfl, ?_, keep_setCell (S := fun j => j = br) (Keep.refl _ _) (a := ⟨br, k * 3 + 1, none⟩) rfl _⟩
        rw [HRA.out]
        exact H.out.set HX.out 1 (by decide) _ rfl
      · have HE := Lib.hid (show relE A k n = 1 by rw [HRE.out, if_pos (by simp only; omega)])
        go_enter Try.func25, Try.ntmps25
        go_wp2_with fail
        refine HO.out.mono ?_
        rintro e w' ⟨rfl, rfl⟩
        clear HO
        go_wp2
        go_ret
        exact did_no H.out (Below.refl _ _) HE.out (relA_no (by rw [HE.out]; decide))
    · have HE := Lib.hid (show relE A k n = 1 by rw [HRE.out, if_pos (by simp only; omega)])
      go_enter Try.func25, Try.ntmps25
      go_wp2_with fail
      refine HO.out.mono ?_
      rintro e w' ⟨rfl, rfl⟩
      clear HO
      go_wp2
      go_ret
      exact did_no H.out (Below.refl _ _) HE.out (relA_no (by rw [HE.out]; decide))

theorem resA_ok {A : List Acc} {t n : Int} (h : okL A) : okL (resA A t n) := by
  unfold resA
  split
  · rename_i h0
    intro y hy
    rcases List.mem_or_eq_of_mem_set hy with h1 | h1
    · exact h y h1
    · have hin : inA t A = true := by
        cases hi : inA t A with
        | true => rfl
        | false => rw [resE_in hi] at h0; exact absurd h0 (by decide)
      obtain ⟨k, x, rfl, hx⟩ := inA_yes hin
      obtain ⟨o1, o2, o3, o4⟩ := okA_at h hx
      by_cases hn : 0 ≤ n ∧ n ≤ 1099511627776
      · rw [resE_x hx hin hn] at h0
        split at h0
        · exact absurd h0 (by decide)
        · split at h0
          · exact absurd h0 (by decide)
          · rw [h1, getDA hx]
            unfold resAcc okAcc
            simp only
            omega
      · rw [resE_arg hin hn] at h0
        exact absurd h0 (by decide)
  · exact h
theorem relA_ok {A : List Acc} {t n : Int} (h : okL A) : okL (relA A t n) := by
  unfold relA
  split
  · rename_i h0
    intro y hy
    rcases List.mem_or_eq_of_mem_set hy with h1 | h1
    · exact h y h1
    · have hin : inA t A = true := by
        cases hi : inA t A with
        | true => rfl
        | false => rw [relE_in hi] at h0; exact absurd h0 (by decide)
      obtain ⟨k, x, rfl, hx⟩ := inA_yes hin
      obtain ⟨o1, o2, o3, o4⟩ := okA_at h hx
      rw [relE_x hx hin] at h0
      split at h0
      · exact absurd h0 (by decide)
      · rw [h1, getDA hx]
        unfold relAcc okAcc
        simp only
        omega
  · exact h
theorem resA_len {A : List Acc} {t n : Int} : (resA A t n).length = A.length := by unfold resA; split <;> simp
theorem relA_len {A : List Acc} {t n : Int} : (relA A t n).length = A.length := by unfold relA; split <;> simp

theorem accinfo : (Try.prog.info? 87).map (fun i => (i.zero, i.size, i.bytes)) = some (some (.agg #[.int .i64 0, .int .i64 0, .int .i64 0]), 3, 24) := by kernel_rfl

/-- new accounts -/
def newA (l : List Int) : List Acc := l.map fun n => (n, 0, 0)
theorem newA_ok {l : List Int} (h : mayL l = true) : okL (newA l) := by
  intro y hy
  unfold newA at hy
  obtain ⟨n, hn, rfl⟩ := List.mem_map.1 hy
  obtain ⟨i, hi⟩ := List.getElem?_of_mem hn
  have := mayL_at h hi
  unfold okAcc
  simp only
  omega

def LedgerMade (w : World) (l : List Int) (b : Nat) (w' : World) : Prop := ∃ br cap, LedgerAt w' b br cap (newA l) ∧ Below w.heap.size w w' ∧ w.heap.size ≤ b ∧ w.heap.size ≤ br

set_option maxRecDepth 100000 in
set_option maxHeartbeats 1000000 in
theorem lnew_ok (v : Value) (l : List Int) (w : World) (hv : RInts w v l) (h0 : 0 < l.length) (h16 : l.length ≤ 16) (hm : mayL l = true) :
    Calls Try.prog 24 #[v] w fun e w' => ∃ b, e = .returned (.tuple #[.pointer (some ⟨b, 0, none⟩), .int .i64 0]) ∧ LedgerMade w l b w' := by
  have HC := Lib.hid (containsfunc_any v l _ wrong w hv lnew1_enters lnew1_any)
  rw [any_wrong, hm] at HC
  have HV := Lib.hid hv
  have HM := Lib.hid hm
  obtain ⟨a, cap, rfl, hc1, hc2⟩ := hv.shape
  have hne : ((l.length : Int) == 0) = false := beq_eq_false_iff_ne.2 (by omega)
  clear hv hm
  go_enter Try.func24, Try.ntmps24
  go_wp2_with fail
  refine HC.out.mono ?_
  rintro e w' ⟨rfl, rfl⟩
  clear HC
  go_wp2
  have hb0 : Blk (w.alloc (Obj.cells #[Value.slice none 0 0] 85)) w.heap.size [Value.slice none 0 0] 85 := Blk.new w _ _
  have HB0 := Lib.hid hb0
  clear hb0
  go_loopw [6, 23] (fun x i wr => ∃ (k : Nat) (vr : Value), k ≤ l.length ∧ i = .int .i64 k ∧ Hid (Blk wr w.heap.size [vr] 85) ∧ Hid (Own wr 87 3 vr k ((newA (l.take k)).flatMap encAcc)) ∧
      Hid (FreshV (w.heap.size + 1) vr) ∧ Below w.heap.size w wr ∧ w.heap.size + 1 ≤ wr.heap.size) (fun _ i _ => l.length - (intOf i).toNat)
  case atStart => exact ⟨0, _, Nat.zero_le _, rfl, HB0.out, Own.nil _ _ _, FreshV.nil _, below_alloc _ _, by simp⟩
  case round =>
    obtain ⟨k, vr, hk, rfl, HB, HO, HF, hbel, hsz⟩ := hrel
    by_cases hlt : k < l.length
    · obtain ⟨b, off, x, rfl, hbb, hx, hcx, hx1, hx2⟩ := (HV.out.below hbel).at hlt
      have HX := Lib.hid hx
      have hcb := HB.out.cell (i := 0) (x := vr) rfl
      have hkl : (k : Int) < (l.length : Int) := by omega
      have hnb := HF.out
      have hown := HO.out
      have hkb : k < 1000000000 := by omega
      clear hx
      go_wp2_with (at_builtin; refine wpList_append_elem _ _ rfl _ _ 83 rfl 87 (.agg #[.int .i64 0, .int .i64 0, .int .i64 0]) 3 24 Try.underlying83 accinfo rfl (by decide) vr k _ [.int .i64 x, .int .i64 0, .int .i64 0] _ rfl rfl (by intro u hu; simp at hu; rcases hu with rfl | rfl <;> rfl) rfl rfl hown hkb (by decide) ?_)
      intro v2 w2 hown2 hkeep hfresh
      have HO2 := Lib.hid hown2
      have hB2 := HB.out.keep hkeep (fun e => by have := hnb _ e; omega)
      have HF2 := Lib.hid (hnb.step hsz hfresh)
      have hbel2 := below_append hbel hkeep (fun g hg => by have := hnb g hg; omega) (by omega)
      have hsz2 := hkeep.size
      have hfr := hB2.free 0
      have hcu := hB2.cell (i := 0) (x := vr) rfl
      have HB2 := Lib.hid hB2
      obtain ⟨a2, cap2, rfl, _, _⟩ := Own.reads hown2
      clear hown hown2 hkeep hfresh hcb hnb hB2 hcx HB HO HF
      go_wp2
      go_roundw
      case rel =>
        refine ⟨k + 1, .slice a2 (k + 1) cap2, by omega, by go_num, HB2.out.set 0 _, ?_, HF2.out, hbel2.setCell (Nat.le_refl _) _, by simp; omega⟩
        have e1 : (newA (l.take (k + 1))).flatMap encAcc = (newA (l.take k)).flatMap encAcc ++ [.int .i64 x, .int .i64 0, .int .i64 0] := by
          rw [take_snoc HX.out]
          unfold newA
          rw [List.map_append, List.flatMap_append]
          rfl
        show Own _ _ _ _ _ _
        rw [e1]
        exact Own.keep HO2.out (keep_setCell (S := fun j => j = w.heap.size) (Keep.refl _ w2) (a := ⟨w.heap.size, 0, none⟩) rfl _) (fun g hg he => by have := HF2.out g hg; have h : g = w.heap.size := he; omega)
      case measure => simp [intOf]; omega
    · obtain rfl : k = l.length := by omega
      have hoo := HO.out
      rw [List.take_length] at hoo
      have HOO := Lib.hid hoo
      clear hoo
      go_wp2
      go_ret2
      have hl : (newA l).length = l.length := by simp [newA]
      have hcase := HOO.out.2
      rcases hcase with ⟨hv, hz⟩ | ⟨g, cp, cur, hv, _⟩
      · omega
      · subst hv
        refine ⟨_, rfl, g, cp, ⟨?_, ?_, ?_, by omega, by omega⟩, hbel, Nat.le_refl _, by have := HF.out g rfl; omega⟩
        · rw [hl]
          exact HB.out
        · rw [hl]
          exact HOO.out
        · have := HF.out g rfl
          omega
end Go.Proofs.Ytfphdcfbkknpbaa

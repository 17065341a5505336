/- Package window: all that is left; the reference's May; the small case. -/
import Derived.Test.YtfphdcfbkknpbaaWinC
import Derived.Test.YtfphdcfbkknpbaaRs
namespace Go.Proofs.Ytfphdcfbkknpbaa
open Go.RowKit

/-- may limits be -/
def limitsB (l : List Int) : Bool := mayL l && (decide (0 < l.length) && decide (l.length ≤ 16))

set_option maxHeartbeats 400000 in
theorem limits_any (v : Value) (l : List Int) (w : World) (hv : RInts w v l) :
    Calls Try.prog 22 #[v] w fun e w' => e = .returned (.bool (limitsB l)) ∧ w = w' := by
  obtain ⟨a, cap, rfl, hc1, hc2⟩ := hv.shape
  obtain ⟨R, hR⟩ : ∃ R, limitsB l = R := ⟨_, rfl⟩
  have HR := Lib.hid hR
  rw [hR]
  clear hR
  go_enter Try.func22, Try.ntmps22
  go_wp2
  go_loop [4, 7] (fun x i => ∃ k : Nat, k ≤ l.length ∧ i = .int .i64 k ∧ mayL (l.take k) = true) (fun _ i => l.length - (intOf i).toNat)
  case atStart => exact ⟨0, Nat.zero_le _, rfl, rfl⟩
  case round =>
    obtain ⟨k, hk, rfl, hall⟩ := hrel
    have HALL := Lib.hid hall
    clear hall
    by_cases hlt : k < l.length
    · obtain ⟨b, off, x, rfl, hbb, hx, hcx, hx1, hx2⟩ := hv.at hlt
      have HX := Lib.hid hx
      clear hx hv
      by_cases h0 : 0 ≤ x
      · by_cases h1 : x ≤ 1099511627776
        · go_wp2
          go_round
          case rel => exact ⟨k + 1, by omega, by go_num, by rw [mayL_take_succ HX.out, HALL.out]; simp [h0, h1]⟩
          case measure => simp [intOf]; omega
        · go_wp2
          go_ret
          exact ⟨ret_bool (by rw [← HR.out]; unfold limitsB; rw [mayL_no HX.out (by omega)]; rfl), rfl⟩
      · go_wp2
        go_ret
        exact ⟨ret_bool (by rw [← HR.out]; unfold limitsB; rw [mayL_no HX.out (by omega)]; rfl), rfl⟩
    · obtain rfl : k = l.length := by omega
      have hall := HALL.out
      rw [List.take_length] at hall
      have HM := Lib.hid hall
      clear hv hall
      by_cases h0 : 0 < l.length
      · by_cases h1 : l.length ≤ 16
        · have h0' : (0 : Int) < (l.length : Int) := by omega
          have h1' : (l.length : Int) ≤ 16 := by omega
          go_wp2
          go_ret
          exact ⟨ret_bool (by rw [← HR.out]; unfold limitsB; rw [HM.out, decide_eq_true h0, decide_eq_true h1]; first | rfl | (simp; omega)), rfl⟩
        · have h0' : (0 : Int) < (l.length : Int) := by omega
          have h1' : (16 : Int) < (l.length : Int) := by omega
          go_wp2
          go_ret
          exact ⟨ret_bool (by rw [← HR.out]; unfold limitsB; rw [HM.out, decide_eq_true h0, decide_eq_false (show ¬ l.length ≤ 16 by omega)]; first | rfl | (simp; omega)), rfl⟩
      · have h0' : (l.length : Int) ≤ 0 := by omega
        go_wp2
        go_ret
        exact ⟨ret_bool (by rw [← HR.out]; unfold limitsB; rw [HM.out, decide_eq_false (show ¬ 0 < l.length by omega)]; first | rfl | (simp; omega)), rfl⟩

def mayM (span : Int) (Q : List Int) : Bool := decide (1 ≤ span) && (decide (span ≤ 1048576) && limitsB Q)

set_option maxHeartbeats 400000 in
theorem maym_any (span : Int) (v : Value) (Q : List Int) (w : World) (hv : RInts w v Q) :
    Calls Try.prog 15 #[.int .i64 span, v] w fun e w' => e = .returned (.bool (mayM span Q)) ∧ w = w' := by
  have HL := Lib.hid (limits_any v Q w hv)
  obtain ⟨a, cap, rfl, hc1, hc2⟩ := hv.shape
  clear hv
  obtain ⟨R, hR⟩ : ∃ R, mayM span Q = R := ⟨_, rfl⟩
  have HR := Lib.hid hR
  rw [hR]
  clear hR
  by_cases h1 : 1 ≤ span
  · by_cases h2 : span ≤ 1048576
    · go_enter Try.func15, Try.ntmps15
      go_wp2_with fail
      refine HL.out.mono ?_
      rintro e w' ⟨rfl, rfl⟩
      clear HL
      go_wp2
      go_ret
      exact ⟨ret_bool (by rw [← HR.out]; unfold mayM; simp [h1, h2]), rfl⟩
    · go_enter Try.func15, Try.ntmps15
      go_wp2
      go_ret
      exact ⟨ret_bool (by rw [← HR.out]; unfold mayM; simp; omega), rfl⟩
  · go_enter Try.func15, Try.ntmps15
    go_wp2
    go_ret
    exact ⟨ret_bool (by rw [← HR.out]; unfold mayM; simp; omega), rfl⟩

theorem mayM_yes {span : Int} {Q : List Int} (h : mayM span Q = true) : 1 ≤ span ∧ span ≤ 1048576 ∧ 0 < Q.length ∧ Q.length ≤ 16 ∧ mayL Q = true := by
  unfold mayM limitsB at h
  simp at h
  exact ⟨h.1, h.2.1, by have := h.2.2.2.1; cases Q <;> simp_all, h.2.2.2.2, h.2.2.1⟩

theorem small_zeros (n : Nat) : small (List.replicate n 0) := by
  intro x hx
  rw [List.mem_replicate] at hx
  omega

/-- what is charged is within the quotas -/
def within (Q C : List Int) : Prop := ∀ (i : Nat) (c q : Int), C[i]? = some c → Q[i]? = some q → 0 ≤ c ∧ c ≤ q
theorem within_small {Q C : List Int} (h : within Q C) (hl : C.length = Q.length) (hm : mayL Q = true) : small C := by
  intro x hx
  obtain ⟨i, hi⟩ := List.getElem?_of_mem hx
  have hil : i < Q.length := by have := (List.getElem?_eq_some_iff.1 hi).1; omega
  have hq : Q[i]? = some Q[i] := List.getElem?_eq_getElem hil
  have := h i x _ hi hq
  have := mayL_at hm hq
  omega
theorem within_zeros {Q : List Int} (hm : mayL Q = true) (n : Nat) : within Q (List.replicate n 0) := by
  intro i c q hc hq
  have := mayL_at hm hq
  rw [List.getElem?_replicate] at hc
  split at hc
  · simp at hc; omega
  · simp at hc

theorem chargeE_zero {Q C : List Int} {t n : Int} (h : chargeE Q C t n = 0) : isIn t Q = true ∧ 0 ≤ n ∧ n ≤ 1099511627776 ∧ n ≤ leftL Q C t := by
  unfold chargeE at h
  split at h
  · exact absurd h (by decide)
  · rename_i h1
    split at h
    · exact absurd h (by decide)
    · rename_i h2
      split at h
      · exact absurd h (by decide)
      · rename_i h3
        refine ⟨by simpa using h1, ?_, ?_, by omega⟩ <;> omega

theorem within_charge {Q C : List Int} {t n : Int} (h : within Q C) (hl : C.length = Q.length) : within Q (chargeC Q C t n) := by
  unfold chargeC
  split
  · rename_i h0
    obtain ⟨hin, hn1, hn2, hn3⟩ := chargeE_zero h0
    obtain ⟨k, rfl, hk⟩ := isIn_yes hin
    intro i c q hc hq
    rw [Int.toNat_natCast, List.getElem?_set] at hc
    split at hc
    · rename_i e
      subst e
      have hck : C[k]? = some C[k] := List.getElem?_eq_getElem (by omega)
      have h2 := h k _ q hck hq
      rw [if_pos (by omega), getD_of hck] at hc
      simp at hc
      unfold leftL at hn3
      rw [hin, if_pos rfl, Int.toNat_natCast, getD_of hck, getD_of hq] at hn3
      omega
    · exact h i c q hc hq
  · exact h
theorem chargeC_len {Q C : List Int} {t n : Int} : (chargeC Q C t n).length = C.length := by unfold chargeC; split <;> simp
theorem chargeT_len {Q C T : List Int} {t n : Int} : (chargeT Q C T t n).length = T.length := by unfold chargeT; split <;> simp
theorem small_chargeT {Q C T : List Int} {t n : Int} (h : small T) : small (chargeT Q C T t n) := by
  unfold chargeT
  split
  · rename_i h0
    obtain ⟨hin, hn1, hn2, hn3⟩ := chargeE_zero h0
    intro x hx
    rcases List.mem_or_eq_of_mem_set hx with h1 | h1
    · exact h x h1
    · have : 0 ≤ T.getD t.toNat 0 := by
        rw [List.getD_eq_getElem?_getD]
        cases hg : T[t.toNat]? with
        | none => simp
        | some y => have := small_at h hg; simpa using this.1
      omega
  · exact h
theorem tickC_within {Q C : List Int} {span at_ : Int} (h : within Q C) (hm : mayL Q = true) : within Q (tickC span at_ C) := by
  unfold tickC
  split
  · exact within_zeros hm _
  · exact h
theorem tickC_len {C : List Int} {span at_ : Int} : (tickC span at_ C).length = C.length := by unfold tickC; split <;> simp

/-- what all tenants may yet use -/
def allL (Q C : List Int) : List Int := (List.range Q.length).map fun (t : Nat) => leftL Q C (t : Int)

set_option maxHeartbeats 400000 in
theorem wall_any (m : MB) (span at_ : Int) (Q C T : List Int) (w : World) (h : MeterAt w m span at_ Q C T) (hc : within Q C) :
    Calls Try.prog 44 #[m.ptr] w fun e w' => ∃ v', e = .returned v' ∧ RInts w' v' (allL Q C) ∧ Below w.heap.size w w' := by
  have hlb : ∀ t : Int, -9223372036854775808 ≤ leftL Q C t ∧ leftL Q C t ≤ 9223372036854775807 := by
    intro t
    unfold leftL
    split
    · rename_i hin
      obtain ⟨k, rfl, hk⟩ := isIn_yes hin
      have hkc : k < C.length := by have := h.lenC; omega
      have hck : C[k]? = some C[k] := List.getElem?_eq_getElem hkc
      have hqk : Q[k]? = some Q[k] := List.getElem?_eq_getElem hk
      rw [Int.toNat_natCast, getD_of hck, getD_of hqk]
      have := hc k _ _ hck hqk
      have := mayL_at h.mayQ hqk
      omega
    · decide
  have hsm := within_small hc h.lenC h.mayQ
  have H := Lib.hid h
  have HLB := Lib.hid hlb
  have HSM := Lib.hid hsm
  obtain ⟨aq, capq, h0, h1, h2, h3, h4, hr⟩ := h.cells
  have hq16 := h.q16
  unfold MB.ptr
  clear h hr h0 h1 h3 h4 hlb hsm hc
  go_enter Try.func44, Try.ntmps44
  go_wp2_with (at_make; refine wpList_make_blk _ rfl _ _ 22 rfl 3 (.int .i64 0) 8 Try.underlying22 intinfo rfl _ _ _ _ Q.length rfl rfl rfl rfl (by omega) (by unfold maxLen; omega) ?_)
  intro w1 hb1 hk1
  clear h2
  go_wp2
  go_loopw [4, 15] (fun x i wr => ∃ k : Nat, k ≤ Q.length ∧ i = .int .i64 k ∧ Blk wr w.heap.size (((allL Q C).take k ++ List.replicate (Q.length - k) 0).map (Value.int .i64)) 3 ∧ Below w.heap.size w wr) (fun _ i _ => Q.length - (intOf i).toNat)
  case atStart => exact ⟨0, Nat.zero_le _, rfl, by simpa using hb1, hk1⟩
  case round =>
    obtain ⟨k, hk, rfl, hblk, hbel⟩ := hrel
    by_cases hlt : k < Q.length
    · have hsz := hbel.size
      have HM := Lib.hid (wleft_any m span at_ k Q C T wr (H.out.below hbel) HSM.out)
      obtain ⟨L, hL⟩ : ∃ L, leftL Q C (k : Int) = L := ⟨_, rfl⟩
      rw [hL] at HM
      have HL := Lib.hid hL
      unfold MB.ptr at HM
      have HBLK := Lib.hid hblk
      clear hb1 hk1 hL hblk
      go_wp2_with fail
      refine HM.out.mono ?_
      rintro e w' ⟨rfl, d, rfl⟩
      have hblk2 := HBLK.out.below (below_drewN (Below.refl _ _) d)
      have hbel2 := below_drewN hbel d
      have hu : ∃ u, (wr.drewN d).cell? ⟨w.heap.size, k, none⟩ = some u := by
        have : k < (((allL Q C).take k ++ List.replicate (Q.length - k) 0).map (Value.int .i64)).length := by simp [allL]; omega
        exact ⟨_, hblk2.cell (List.getElem?_eq_getElem this)⟩
      obtain ⟨u, hu⟩ := hu
      have hfr := hblk2.free k
      have HBLK2 := Lib.hid hblk2
      have hkq : (k : Int) < (Q.length : Int) := by omega
      clear HM hbel hblk2 HBLK
      generalize wr.drewN d = w2 at *
      go_wp2
      go_roundw
      case rel =>
        refine ⟨k + 1, by omega, by go_num, ?_, hbel2.setCell (Nat.le_refl _) _⟩
        have hat : (allL Q C)[k]? = some L := by unfold allL; simp [hlt, HL.out]
        have e1 : ((allL Q C).take k ++ List.replicate (Q.length - k) 0).set k L = (allL Q C).take (k + 1) ++ List.replicate (Q.length - (k + 1)) 0 := by
          have hlen : ((allL Q C).take k).length = k := by simp [allL]; omega
          rw [take_snoc hat, List.set_append_right _ _ (by omega), hlen, Nat.sub_self]
          rw [show Q.length - k = (Q.length - (k + 1)) + 1 from by omega, List.replicate_succ]
          simp
        rw [← e1, List.map_set]
        exact HBLK2.out.set _ _
      case measure => simp [intOf]; omega
    · obtain rfl : k = Q.length := by omega
      have hll : (allL Q C).length = Q.length := by simp [allL]
      rw [Nat.sub_self, List.replicate_zero, List.append_nil, List.take_of_length_le (by omega)] at hblk
      have hfin : RInts wr (.slice (some ⟨w.heap.size, 0, none⟩) Q.length Q.length) (allL Q C) := by
        refine ⟨?_, fun x hx => ?_⟩
        · rw [hll]
          exact hblk.reads _ _ (Nat.le_refl _) (by unfold maxLen; omega)
        · unfold allL at hx
          obtain ⟨t, _, rfl⟩ := List.mem_map.1 hx
          exact HLB.out t
      have HF := Lib.hid hfin
      clear hb1 hk1 hblk hfin hll
      go_wp2
      go_ret
      exact ⟨_, rfl, HF.out, hbel⟩

theorem wall_nil (w : World) : Calls Try.prog 44 #[.pointer none] w fun e w' => e = .returned (.slice none 0 0) ∧ w = w' := by
  go_enter Try.func44, Try.ntmps44
  go_wp2
  go_ret
  exact ⟨rfl, rfl⟩
end Go.Proofs.Ytfphdcfbkknpbaa

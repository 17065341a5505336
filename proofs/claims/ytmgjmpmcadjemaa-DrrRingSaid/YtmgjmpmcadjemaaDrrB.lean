/- Package drr: of, whose, Credit, Ring, Jobs, Add, out, Remove, first, Spent. -/
import Derived.Test.YtmgjmpmcadjemaaDrrL
import Derived.Deep.RegionHeld3
namespace Go.Proofs.Ytmgjmpmcadjemaa
open Go.RowKit

section
variable {ow : Nat → Nat} {B : Nat} {w : World} {p rq : Nat} {vt : Value} {tb qb : Nat → Nat} {s : Sch}

theorem DAt.shape (h : DAt ow B w p rq vt tb qb s) : ∃ a cap, vt = .slice a s.Q.length cap ∧ s.Q.length ≤ cap ∧ cap ≤ 9223372036854775807 := by
  obtain ⟨a, cap, rfl, h1, h2, -⟩ := Own.reads h.row
  exact ⟨a, cap, rfl, h1, by unfold maxLen at h2; omega⟩
theorem DAt.at (h : DAt ow B w p rq vt tb qb s) {i : Nat} (hi : i < s.Q.length) : ∃ b off cap, vt = .slice (some ⟨b, off, none⟩) s.Q.length cap ∧ w.cell? ⟨b, off + i, none⟩ = some (.pointer (some ⟨tb i, 0, none⟩)) := by
  obtain ⟨a, cap, rfl, h1, h2, h3⟩ := Own.reads h.row
  obtain ⟨b, off, rfl, hb, hc⟩ := h3 (by omega)
  refine ⟨b, off, cap, rfl, hc i _ ?_⟩
  rw [List.getElem?_map, List.getElem?_range hi]
  rfl

theorem of_in (i : Nat) (h : DAt ow B w p rq vt tb qb s) (hi : i < s.Q.length) :
    Calls Try.prog 57 #[.pointer (some ⟨p, 0, none⟩), .int .i64 (i : Int)] w fun e w' => e = .returned (.pointer (some ⟨tb i, 0, none⟩)) ∧ w = w' := by
  have c0 := h.box.cell (i := 0) (x := vt) rfl
  obtain ⟨b, off, cap, rfl, hc⟩ := h.at hi
  have d0 : decide ((i : Int) < 0) = false := decide_eq_false (by omega)
  have d1 : decide ((s.Q.length : Int) ≤ (i : Int)) = false := decide_eq_false (by omega)
  have d1' : decide (s.Q.length ≤ i) = false := decide_eq_false (by omega)
  have hii : (i : Int) < (s.Q.length : Int) := by omega
  have hi0 : (0 : Int) ≤ (i : Int) := by omega
  clear h
  go_enter Try.func57, Try.ntmps57
  go_wp2
  go_ret
  exact ⟨rfl, rfl⟩
theorem of_out (t : Int) (h : DAt ow B w p rq vt tb qb s) (ht : t < 0 ∨ (s.Q.length : Int) ≤ t) :
    Calls Try.prog 57 #[.pointer (some ⟨p, 0, none⟩), .int .i64 t] w fun e w' => e = .returned (.pointer none) ∧ w = w' := by
  have c0 := h.box.cell (i := 0) (x := vt) rfl
  obtain ⟨a, cap, rfl, -, -⟩ := h.shape
  clear h
  by_cases h0 : t < 0
  · have d0 : decide (t < 0) = true := decide_eq_true h0
    clear ht h0
    go_enter Try.func57, Try.ntmps57
    go_wp2
    go_ret
    exact ⟨rfl, rfl⟩
  · have d0 : decide (t < 0) = false := decide_eq_false h0
    have d1 : decide ((s.Q.length : Int) ≤ t) = true := decide_eq_true (ht.elim (fun h => absurd h h0) id)
    clear ht h0
    go_enter Try.func57, Try.ntmps57
    go_wp2
    go_ret
    exact ⟨rfl, rfl⟩
theorem of_nil (t : Int) (w : World) :
    Calls Try.prog 57 #[.pointer none, .int .i64 t] w fun e w' => e = .returned (.pointer none) ∧ w = w' := by
  go_enter Try.func57, Try.ntmps57
  go_wp2
  go_ret
  exact ⟨rfl, rfl⟩

theorem cellB {w w' : World} {a : Addr} {v : Value} (h : w.cell? a = some v) (k : Below w.heap.size w w') : w'.cell? a = some v := by
  rw [← h]
  exact World.cell?_of_block (k.block a.block (World.block_lt_of_cell? w _ h))

theorem dcredit_in (i : Nat) (h : DAt ow B w p rq vt tb qb s) (hi : i < s.Q.length) :
    Calls Try.prog 38 #[.pointer (some ⟨p, 0, none⟩), .int .i64 (i : Int)] w fun e w' => e = .returned (.int .i64 (s.C.getD i 0)) ∧ w = w' := by
  have HO := Lib.hid (of_in i h hi)
  have c2 := (h.ten i hi).1.cell (i := 2) (x := .int .i64 (s.C.getD i 0)) rfl
  obtain ⟨z, hz⟩ : ∃ z, s.C.getD i 0 = z := ⟨_, rfl⟩
  rw [hz] at c2 ⊢
  clear h hz
  go_enter Try.func38, Try.ntmps38
  go_wp2_with fail
  refine HO.out.mono ?_
  rintro e w1 ⟨rfl, rfl⟩
  go_wp2
  go_ret
  exact ⟨rfl, rfl⟩
theorem dcredit_nil (t : Int) (w : World) :
    Calls Try.prog 38 #[.pointer none, .int .i64 t] w fun e w' => e = .returned (.int .i64 0) ∧ w = w' := by
  go_enter Try.func38, Try.ntmps38
  go_wp2_with fail
  refine (of_nil t w).mono ?_
  rintro e w1 ⟨rfl, rfl⟩
  go_wp2
  go_ret
  exact ⟨rfl, rfl⟩
theorem djobs_in (i : Nat) (h : DAt ow B w p rq vt tb qb s) (hi : i < s.Q.length) (hl : (s.J.getD i []).length ≤ 1000) :
    Calls Try.prog 37 #[.pointer (some ⟨p, 0, none⟩), .int .i64 (i : Int)] w fun e w' => ∃ v', e = .returned v' ∧ RInts w' v' (s.J.getD i []) ∧ FreshV w.heap.size v' ∧ Below w.heap.size w w' := by
  have HO := Lib.hid (of_in i h hi)
  have HA := Lib.hid (tall_any i h hi hl)
  have c0 := (h.ten i hi).1.cell (i := 0) (x := .pointer (some ⟨qb i, 0, none⟩)) rfl
  clear h hl
  go_enter Try.func37, Try.ntmps37
  go_wp2_with fail
  refine HO.out.mono ?_
  rintro e w1 ⟨rfl, rfl⟩
  go_wp2_with fail
  refine HA.out.mono ?_
  rintro e w1 ⟨v1, rfl, h1, h2, h3⟩
  clear HO HA c0
  go_wp2
  go_ret
  exact ⟨_, rfl, h1, h2, h3⟩
theorem djobs_nil (t : Int) (w : World) :
    Calls Try.prog 37 #[.pointer none, .int .i64 t] w fun e w' => e = .returned (.slice none 0 0) ∧ w = w' := by
  go_enter Try.func37, Try.ntmps37
  go_wp2_with fail
  refine (of_nil t w).mono ?_
  rintro e w1 ⟨rfl, rfl⟩
  go_wp2
  go_ret
  exact ⟨rfl, rfl⟩
theorem dring_any (h : DAt ow B w p rq vt tb qb s) (hl : s.R.length ≤ 1000) :
    Calls Try.prog 35 #[.pointer (some ⟨p, 0, none⟩)] w fun e w' => ∃ v', e = .returned v' ∧ RInts w' v' s.R ∧ FreshV w.heap.size v' ∧ Below w.heap.size w w' := by
  have HA := Lib.hid (rall_any h hl)
  have c1 := h.box.cell (i := 1) (x := .pointer (some ⟨rq, 0, none⟩)) rfl
  clear h hl
  go_enter Try.func35, Try.ntmps35
  go_wp2_with fail
  refine HA.out.mono ?_
  rintro e w1 ⟨v1, rfl, h1, h2, h3⟩
  clear HA c1
  go_wp2
  go_ret
  exact ⟨_, rfl, h1, h2, h3⟩
theorem dring_nil (w : World) :
    Calls Try.prog 35 #[.pointer none] w fun e w' => e = .returned (.slice none 0 0) ∧ w = w' := by
  go_enter Try.func35, Try.ntmps35
  go_wp2
  go_ret
  exact ⟨rfl, rfl⟩
theorem dfirst_any (h : DAt ow B w p rq vt tb qb s) (hl : s.R.length ≤ 1000) :
    Calls Try.prog 63 #[.pointer (some ⟨p, 0, none⟩)] w fun e w' => e = .returned (.int .i64 (if s.R = [] then -1 else s.R.headD 0)) ∧ w = w' := by
  have HF := Lib.hid (rfront_any h hl)
  have c1 := h.box.cell (i := 1) (x := .pointer (some ⟨rq, 0, none⟩)) rfl
  clear h hl
  by_cases hr : s.R = []
  · rw [if_pos hr]
    rw [hr] at HF
    clear hr
    go_enter Try.func63, Try.ntmps63
    go_wp2_with fail
    refine HF.out.mono ?_
    rintro e w1 ⟨rfl, rfl⟩
    have e6 : popE [] = 6 := rfl
    rw [e6]
    clear HF e6
    go_wp2
    go_ret
    exact ⟨rfl, rfl⟩
  · rw [if_neg hr]
    have e0 : popE s.R = 0 := by unfold popE; rw [if_neg (fun e => hr (List.length_eq_zero_iff.1 e))]
    rw [e0] at HF
    obtain ⟨t, ht⟩ : ∃ t, s.R.headD 0 = t := ⟨_, rfl⟩
    rw [ht] at HF ⊢
    clear hr e0 ht
    go_enter Try.func63, Try.ntmps63
    go_wp2_with fail
    refine HF.out.mono ?_
    rintro e w1 ⟨rfl, rfl⟩
    clear HF
    go_wp2
    go_ret
    exact ⟨rfl, rfl⟩

set_option maxHeartbeats 1000000 in
set_option maxRecDepth 100000 in
theorem whose1_any (i : Nat) (c : Nat) (job : Int) (h : DAt ow B w p rq vt tb qb s) (hi : i < s.Q.length) (hc : w.cell? ⟨c, 0, none⟩ = some (.int .i64 job)) :
    Calls Try.prog 74 #[.pointer (some ⟨tb i, 0, none⟩), .pointer (some ⟨c, 0, none⟩)] w fun e w' => e = .returned (.bool (hasI (s.J.getD i []) job)) ∧ Below w.heap.size w w' := by
  have HH := Lib.hid (fun (w1 : World) (k : Below w.heap.size w w1) => thas_any i job (h.below k) hi)
  have c0 := (h.ten i hi).1.cell (i := 0) (x := .pointer (some ⟨qb i, 0, none⟩)) rfl
  obtain ⟨z, hz⟩ : ∃ z, hasI (s.J.getD i []) job = z := ⟨_, rfl⟩
  rw [hz] at HH ⊢
  clear h hz
  go_enter Try.func74, Try.ntmps74
  go_wp2
  have HCALL := Lib.hid ((HH.out w.drew (Below.drew (Below.refl _ _))).mono (fun e w' h => (⟨h.1, h.2.symm⟩ : e = .returned (.bool z) ∧ w' = w.drew)))
  go_still_tail 6, (by kernel_rfl)
  still_call (HCALL.out)
  repeat still_step
  refine wpStill_nil ?_
  change wpList _ _ _ _ _ w.drew
  clear HCALL HH
  go_wp2
  go_ret
  exact ⟨rfl, Below.drew (Below.refl _ _)⟩

theorem didxf_any (c : Nat) (job : Int) (h : DAt ow B w p rq vt tb qb s) (hn : s.Q.length ≤ 16) (hc : w.cell? ⟨c, 0, none⟩ = some (.int .i64 job)) :
    Calls Try.prog 73 #[vt, .func (.func 74) #[] #[.pointer (some ⟨c, 0, none⟩)]] w fun e w' => e = .returned (.int .i64 (whoS s job)) ∧ Below w.heap.size w w' := by
  have H := Lib.hid h
  have HC := Lib.hid hc
  have hent := fun args w => enter_of (P := Try.prog) Try.func74 (by kernel_rfl) rfl args w
  obtain ⟨a, cap, rfl, hc1, hc2⟩ := h.shape
  obtain ⟨R, hR⟩ : ∃ R, whoS s job = R := ⟨_, rfl⟩
  have HR := Lib.hid hR
  rw [hR]
  clear hR h hc
  go_enter Try.func73, Try.ntmps73
  go_wp2
  go_loopw [5, 8] (fun x i w1 => ∃ k : Nat, k ≤ s.Q.length ∧ i = .int .i64 (k : Int) ∧ Hid (∀ i, i < k → hasI (s.J.getD i []) job = false) ∧ Hid (Below w.heap.size w w1)) (fun _ i _ => s.Q.length - (intOf i).toNat)
  case atStart => exact ⟨0, Nat.zero_le _, rfl, fun i h => absurd h (Nat.not_lt_zero _), Below.refl _ _⟩
  case round =>
    obtain ⟨k, hk, rfl, HALL, HB⟩ := hrel
    rcases Nat.lt_or_ge k s.Q.length with hlt | hge
    · obtain ⟨b, off, cap', hv, hcx⟩ := (H.out.below HB.out).at hlt
      obtain ⟨rfl, -, rfl⟩ : a = some ⟨b, off, none⟩ ∧ s.Q.length = s.Q.length ∧ cap = cap' := by simpa using hv
      have hki : (k : Int) < (s.Q.length : Int) := by omega
      have hk0 : (0 : Int) ≤ (k : Int) := by omega
      have HW1 := Lib.hid (whose1_any k c job (H.out.below HB.out) hlt (cellB HC.out HB.out))
      clear hv
      cases hp : hasI (s.J.getD k []) job with
      | true =>
        rw [hp] at HW1
        have HP := Lib.hid hp
        clear hp
        go_wp2_with fail
        refine HW1.out.mono ?_
        rintro e w2 ⟨rfl, hb⟩
        have HB2 := Lib.hid (below_two HB.out hb)
        clear hb HW1
        go_wp2
        go_ret
        exact ⟨ret_int (by rw [← HR.out]; exact (firstT_some hlt HP.out HALL.out).symm), HB2.out⟩
      | false =>
        rw [hp] at HW1
        have HP := Lib.hid (show ∀ i, i < k + 1 → hasI (s.J.getD i []) job = false from fun i hi => by
          by_cases e : i = k
          · subst e; exact hp
          · exact HALL.out i (by omega))
        clear hp
        go_wp2_with fail
        refine HW1.out.mono ?_
        rintro e w2 ⟨rfl, hb⟩
        have HB2 := Lib.hid (below_two HB.out hb)
        clear hb HW1
        go_wp2
        go_roundw
        case rel => exact ⟨k + 1, hlt, by go_num, HP.out, HB2.out⟩
        case measure => simp [intOf]; omega
    · obtain rfl : k = s.Q.length := by omega
      go_wp2
      go_ret
      exact ⟨ret_int (by rw [← HR.out]; exact (firstT_none HALL.out).symm), HB.out⟩
theorem whose_any (job : Int) (h : DAt ow B w p rq vt tb qb s) (hn : s.Q.length ≤ 16) :
    Calls Try.prog 58 #[.pointer (some ⟨p, 0, none⟩), .int .i64 job] w fun e w' => e = .returned (.int .i64 (whoS s job)) ∧ Below w.heap.size w w' := by
  have hal := below_alloc w (.cells #[.int .i64 job] 3 (0, 0))
  have HI := Lib.hid (didxf_any w.heap.size job (h.below hal) hn ((Blk.new w [.int .i64 job] 3).cell (i := 0) rfl))
  have c0 := cellB (h.box.cell (i := 0) (x := vt) rfl) hal
  have HAL := Lib.hid hal
  obtain ⟨z, hz⟩ : ∃ z, whoS s job = z := ⟨_, rfl⟩
  rw [hz] at HI ⊢
  obtain ⟨a, cap, rfl, -, -⟩ := h.shape
  clear h hal hz
  go_enter Try.func58, Try.ntmps58
  go_wp2_with fail
  refine HI.out.mono ?_
  rintro e w1 ⟨rfl, hb⟩
  have HB := Lib.hid (below_two HAL.out hb)
  clear hb HI
  go_wp2
  go_ret
  exact ⟨rfl, HB.out⟩

set_option maxHeartbeats 1000000 in
theorem dout_any (i : Nat) (job : Int) (h : DAt ow B w p rq vt tb qb s) (hi : i < s.Q.length) (hl : (s.J.getD i []).length ≤ 1000) (hr : s.R.length ≤ 1000) :
    Calls Try.prog 64 #[.pointer (some ⟨p, 0, none⟩), .int .i64 (i : Int), .int .i64 job] w fun e w' => e = .returned (.tuple #[]) ∧ DDid ow B p rq vt tb qb (outM s i job) w w' := by
  obtain ⟨b, off, cap, rfl, hc⟩ := h.at hi
  have c0 := h.box.cell (i := 0) (x := .slice (some ⟨b, off, none⟩) s.Q.length cap) rfl
  have q0 := (h.ten i hi).1.cell (i := 0) (x := .pointer (some ⟨qb i, 0, none⟩)) rfl
  have HR := Lib.hid (trem_any i job h hi hl)
  have hlj : i < s.J.length := by rw [h.lj]; exact hi
  have hii : (i : Int) < (s.Q.length : Int) := by omega
  have hi0 : (0 : Int) ≤ (i : Int) := by omega
  clear h hl
  go_enter Try.func64, Try.ntmps64
  go_wp2_with fail
  refine HR.out.mono ?_
  rintro e w1 ⟨⟨c, rfl⟩, ow1, h1, f1⟩
  have HL := Lib.hid (tlen_any i h1 hi)
  have e1 : ({ s with J := s.J.set i ((s.J.getD i []).erase job) } : Sch).J.getD i [] = (s.J.getD i []).erase job := getD_set_eq hlj _ _
  rw [e1] at HL
  have q1 := (h1.ten i hi).1.cell (i := 0) (x := .pointer (some ⟨qb i, 0, none⟩)) rfl
  obtain ⟨u2, q2⟩ : ∃ u, w1.cell? ⟨tb i, 2, none⟩ = some u := ⟨_, (h1.ten i hi).1.cell (i := 2) rfl⟩
  have q3 := (h1.ten i hi).1.free 2
  have H1 := Lib.hid h1
  have F1 := Lib.hid f1
  clear h1 f1 e1 HR c0 q0 hc
  by_cases he : (s.J.getD i []).erase job = []
  · have HE := Lib.hid he
    rw [he] at HL
    clear he
    go_wp2_with fail
    refine HL.out.mono ?_
    rintro e w2 ⟨rfl, rfl⟩
    obtain ⟨h2, f2⟩ := DAt.credit H1.out hi 0
    have p1 := h2.box.cell (i := 1) (x := .pointer (some ⟨rq, 0, none⟩)) rfl
    have HRR := Lib.hid (rrem_any (i : Int) h2 hr)
    have F2 := Lib.hid (F1.out.trans f2)
    clear h2 f2 HL
    go_wp2_with fail
    refine HRR.out.mono ?_
    rintro e w3 ⟨⟨c3, rfl⟩, ow3, h3, f3⟩
    have H3 := Lib.hid (show DDid ow B p rq (.slice (some ⟨b, off, none⟩) s.Q.length cap) tb qb (outM s i job) w w3 by
      unfold outM
      rw [if_pos HE.out]
      exact ⟨ow3, h3, F2.out.trans f3⟩)
    clear h3 f3 HRR
    go_wp2
    go_end0
    exact ⟨rfl, H3.out⟩
  · have H3 := Lib.hid (show DDid ow B p rq (.slice (some ⟨b, off, none⟩) s.Q.length cap) tb qb (outM s i job) w w1 by
      unfold outM
      rw [if_neg he]
      exact ⟨ow1, H1.out, F1.out⟩)
    have hN : (((s.J.getD i []).erase job).length : Int) ≠ 0 := by
      have : ((s.J.getD i []).erase job).length ≠ 0 := fun e => he (List.length_eq_zero_iff.1 e)
      omega
    obtain ⟨N, hNN⟩ : ∃ N, ((s.J.getD i []).erase job).length = N := ⟨_, rfl⟩
    rw [hNN] at HL hN
    have t1 : ((N : Int) == 0) = false := beq_eq_false_iff_ne.2 hN
    clear he hNN hN H1 F1
    go_wp2_with fail
    refine HL.out.mono ?_
    rintro e w2 ⟨rfl, rfl⟩
    go_wp2
    go_end0
    exact ⟨rfl, H3.out⟩

set_option maxHeartbeats 1000000 in
theorem drem_any {K : Nat} (job : Int) (h : DAt ow B w p rq vt tb qb s) (ok : Ok K s) (hK : K ≤ 1000) :
    Calls Try.prog 39 #[.pointer (some ⟨p, 0, none⟩), .int .i64 job] w fun e w' => e = .returned (.int .i64 (remM s job).1) ∧ DDid ow B p rq vt tb qb (remM s job).2 w w' := by
  have HW := Lib.hid (whose_any job h ok.n16)
  have H := Lib.hid h
  have OK := Lib.hid ok
  unfold remM
  by_cases h0 : whoS s job < 0
  · rw [if_pos h0]
    obtain ⟨z, hz⟩ : ∃ z, whoS s job = z := ⟨_, rfl⟩
    rw [hz] at HW h0
    clear h ok hz
    go_enter Try.func39, Try.ntmps39
    go_wp2_with fail
    refine HW.out.mono ?_
    rintro e w1 ⟨rfl, hb⟩
    have HD := Lib.hid (DDid.same H.out hb)
    clear hb HW
    go_wp2
    go_ret
    exact ⟨rfl, HD.out⟩
  · rw [if_neg h0]
    obtain ⟨i, hi, hi2, -⟩ := whoS_at h0
    rw [hi] at HW ⊢
    rw [Int.toNat_natCast]
    have HO := Lib.hid (fun (w1 : World) (k : Below w.heap.size w w1) => dout_any i job (h.below k) hi2 (Nat.le_trans (ok.jk i hi2) hK) (Nat.le_trans ok.rk hK))
    clear h ok h0 hi hi2
    go_enter Try.func39, Try.ntmps39
    go_wp2_with fail
    refine HW.out.mono ?_
    rintro e w1 ⟨rfl, hb⟩
    have HO1 := Lib.hid (HO.out w1 hb)
    have F1 := Lib.hid (Fr.of_below (ow := ow) hb)
    clear hb HW HO
    go_wp2_with fail
    refine HO1.out.mono ?_
    rintro e w2 ⟨rfl, ow2, h2, f2⟩
    have HD := Lib.hid (show DDid ow B p rq vt tb qb (outM s i job) w w2 from ⟨ow2, h2, F1.out.trans f2⟩)
    clear h2 f2 HO1
    go_wp2
    go_ret
    exact ⟨rfl, HD.out⟩
theorem drem_nil (job : Int) (w : World) :
    Calls Try.prog 39 #[.pointer none, .int .i64 job] w fun e w' => e = .returned (.int .i64 7) ∧ w = w' := by
  go_enter Try.func39, Try.ntmps39
  go_wp2
  go_ret
  exact ⟨rfl, rfl⟩

set_option maxHeartbeats 1000000 in
theorem dadd_any {K : Nat} (t job : Int) (h : DAt ow B w p rq vt tb qb s) (ok : Ok K s) (hK : K ≤ 1000) (hj1 : -9223372036854775808 ≤ job) (hj2 : job ≤ 9223372036854775807) :
    Calls Try.prog 29 #[.pointer (some ⟨p, 0, none⟩), .int .i64 t, .int .i64 job] w fun e w' => e = .returned (.int .i64 (addM s t job).1) ∧ DDid ow B p rq vt tb qb (addM s t job).2 w w' := by
  have HW := Lib.hid (whose_any job h ok.n16)
  have H := Lib.hid h
  unfold addM
  by_cases ht : t < 0 ∨ (s.Q.length : Int) ≤ t
  · rw [if_pos ht]
    have HO := Lib.hid (of_out t h ht)
    clear h ok ht hj1 hj2
    go_enter Try.func29, Try.ntmps29
    go_wp2_with fail
    refine HO.out.mono ?_
    rintro e w1 ⟨rfl, rfl⟩
    go_wp2
    go_ret
    exact ⟨rfl, DDid.same H.out (Below.refl _ _)⟩
  · rw [if_neg ht]
    obtain ⟨i, rfl⟩ : ∃ i : Nat, t = i := ⟨t.toNat, by omega⟩
    rw [Int.toNat_natCast]
    have hi : i < s.Q.length := by omega
    have HO := Lib.hid (of_in i h hi)
    by_cases h0 : 0 ≤ whoS s job
    · rw [if_pos h0]
      obtain ⟨z, hz⟩ : ∃ z, whoS s job = z := ⟨_, rfl⟩
      rw [hz] at HW h0
      clear h ok ht hj1 hj2 hz
      go_enter Try.func29, Try.ntmps29
      go_wp2_with fail
      refine HO.out.mono ?_
      rintro e w1 ⟨rfl, rfl⟩
      go_wp2_with fail
      refine HW.out.mono ?_
      rintro e w1 ⟨rfl, hb⟩
      have HD := Lib.hid (DDid.same H.out hb)
      clear hb HW
      go_wp2
      go_ret
      exact ⟨rfl, HD.out⟩
    · rw [if_neg h0]
      have hno : hasI (s.J.getD i []) job = false := by
        unfold whoS at h0
        rcases firstT_cases (fun i => hasI (s.J.getD i []) job) s.Q.length with ⟨k, _, _, _, q⟩ | ⟨q, _⟩
        · rw [q] at h0; omega
        · exact q _ hi
      have HP := Lib.hid (fun (w1 : World) (k : Below w.heap.size w w1) => tpush_any i job (h.below k) hi (Nat.le_trans (ok.jk i hi) hK) hj1 hj2 hno)
      have hrk := Nat.le_trans ok.rk hK
      have hi16 := ok.n16
      obtain ⟨z, hz⟩ : ∃ z, whoS s job = z := ⟨_, rfl⟩
      rw [hz] at HW h0
      clear h ok ht hj1 hj2 hz hno
      go_enter Try.func29, Try.ntmps29
      go_wp2_with fail
      refine HO.out.mono ?_
      rintro e w1 ⟨rfl, rfl⟩
      go_wp2_with fail
      refine HW.out.mono ?_
      rintro e w1 ⟨rfl, hb⟩
      have HP1 := Lib.hid (HP.out w1 hb)
      have F1 := Lib.hid (Fr.of_below (ow := ow) hb)
      have h1 := H.out.below hb
      have q0 := (h1.ten i hi).1.cell (i := 0) (x := .pointer (some ⟨qb i, 0, none⟩)) rfl
      clear hb HW HP h1
      go_wp2_with fail
      refine HP1.out.mono ?_
      rintro e w2 ⟨rfl, ow2, h2, f2⟩
      have HR2 := Lib.hid (rpush_any (i : Int) h2 hrk (by omega) (by omega))
      have F2 := Lib.hid (F1.out.trans f2)
      have p1 := h2.box.cell (i := 1) (x := .pointer (some ⟨rq, 0, none⟩)) rfl
      clear h2 f2 HP1 q0 F1
      go_wp2_with fail
      refine HR2.out.mono ?_
      rintro e w3 ⟨⟨c, rfl⟩, ow3, h3, f3⟩
      have HD := Lib.hid (show DDid ow B p rq vt tb qb (addS s i job) w w3 from ⟨ow3, h3, F2.out.trans f3⟩)
      clear h3 f3 HR2
      go_wp2
      go_ret
      exact ⟨rfl, HD.out⟩
theorem dadd_nil (t job : Int) (w : World) :
    Calls Try.prog 29 #[.pointer none, .int .i64 t, .int .i64 job] w fun e w' => e = .returned (.int .i64 7) ∧ w = w' := by
  go_enter Try.func29, Try.ntmps29
  go_wp2_with fail
  refine (of_nil t w).mono ?_
  rintro e w1 ⟨rfl, rfl⟩
  go_wp2
  go_ret
  exact ⟨rfl, rfl⟩
end
end Go.Proofs.Ytmgjmpmcadjemaa

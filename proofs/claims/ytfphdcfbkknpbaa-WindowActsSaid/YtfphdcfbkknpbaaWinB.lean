/- Package window: what a meter tells, charges and ticks. -/
import Derived.Test.YtfphdcfbkknpbaaWinA
namespace Go.Proofs.Ytfphdcfbkknpbaa
open Go.RowKit

theorem MeterAt.cells {w : World} {m : MB} {span at_ : Int} {Q C T : List Int} (h : MeterAt w m span at_ Q C T) :
    ∃ aq capq, w.cell? ⟨m.b, 0, none⟩ = some (.int .i64 span) ∧ w.cell? ⟨m.b, 1, none⟩ = some (.int .i64 at_) ∧ w.cell? ⟨m.b, 2, none⟩ = some (.slice aq Q.length capq) ∧
      w.cell? ⟨m.b, 3, none⟩ = some (.slice (some ⟨m.bc, 0, none⟩) Q.length Q.length) ∧ w.cell? ⟨m.b, 4, none⟩ = some (.slice (some ⟨m.bt, 0, none⟩) Q.length Q.length) ∧
      RInts w (.slice aq Q.length capq) Q := by
  obtain ⟨vq, hb, hr, hf⟩ := h.box
  obtain ⟨a, cap, rfl, _, _⟩ := hr.shape
  exact ⟨a, cap, hb.cell rfl, hb.cell rfl, hb.cell rfl, hb.cell rfl, hb.cell rfl, hr⟩

/-- the pointer to a meter -/
def MB.ptr (m : MB) : Value := .pointer (some ⟨m.b, 0, none⟩)

def isIn (t : Int) (Q : List Int) : Bool := decide (0 ≤ t) && decide (t < Q.length)

set_option maxHeartbeats 400000 in
theorem wis_any (m : MB) (span at_ t : Int) (Q C T : List Int) (w : World) (h : MeterAt w m span at_ Q C T) :
    Calls Try.prog 60 #[m.ptr, .int .i64 t] w fun e w' => e = .returned (.bool (isIn t Q)) ∧ w = w' := by
  obtain ⟨aq, capq, h0, h1, h2, h3, h4, hr⟩ := h.cells
  have hql := h.q16
  unfold MB.ptr
  by_cases g0 : 0 ≤ t
  · by_cases g1 : t < Q.length
    · clear h hr h3 h4
      go_enter Try.func60, Try.ntmps60
      go_wp2
      go_ret
      exact ⟨ret_bool (by unfold isIn; simp [g0, g1]), rfl⟩
    · clear h hr h3 h4
      go_enter Try.func60, Try.ntmps60
      go_wp2
      go_ret
      exact ⟨ret_bool (by unfold isIn; simp; omega), rfl⟩
  · clear h hr h3 h4
    go_enter Try.func60, Try.ntmps60
    go_wp2
    go_ret
    exact ⟨ret_bool (by unfold isIn; simp; omega), rfl⟩

theorem wis_nil (t : Int) (w : World) : Calls Try.prog 60 #[.pointer none, .int .i64 t] w fun e w' => e = .returned (.bool false) ∧ w = w' := by
  go_enter Try.func60, Try.ntmps60
  go_wp2
  go_ret
  exact ⟨rfl, rfl⟩

/-- what is left to a tenant -/
def leftL (Q C : List Int) (t : Int) : Int := if isIn t Q then Q.getD t.toNat 0 - C.getD t.toNat 0 else 0
def totalL (Q T : List Int) (t : Int) : Int := if isIn t Q then T.getD t.toNat 0 else 0

theorem isIn_yes {t : Int} {Q : List Int} (h : isIn t Q = true) : ∃ k : Nat, t = k ∧ k < Q.length := by
  unfold isIn at h
  simp at h
  exact ⟨t.toNat, by omega, by omega⟩

/-- numbers that may be counts -/
def small (l : List Int) : Prop := ∀ x ∈ l, 0 ≤ x ∧ x ≤ 1099511627776

theorem small_at {l : List Int} (h : small l) {k : Nat} {x : Int} (hx : l[k]? = some x) : 0 ≤ x ∧ x ≤ 1099511627776 := h x (List.mem_of_getElem? hx)
theorem getD_of {l : List Int} {k : Nat} {x : Int} (hx : l[k]? = some x) : l.getD k 0 = x := by rw [List.getD_eq_getElem?_getD, hx]; rfl

set_option maxHeartbeats 400000 in
theorem wleft_any (m : MB) (span at_ t : Int) (Q C T : List Int) (w : World) (h : MeterAt w m span at_ Q C T) (hc : small C) :
    Calls Try.prog 20 #[m.ptr, .int .i64 t] w fun e w' => e = .returned (.int .i64 (leftL Q C t)) ∧ ∃ n, w' = w.drewN n := by
  have HIS := Lib.hid (wis_any m span at_ t Q C T w h)
  obtain ⟨aq, capq, h0, h1, h2, h3, h4, hr⟩ := h.cells
  cases hin : isIn t Q with
  | true =>
    obtain ⟨k, rfl, hk⟩ := isIn_yes hin
    rw [hin] at HIS
    obtain ⟨b, off, x, rfl, hbb, hx, hcx, hx1, hx2⟩ := hr.at hk
    have hlc := h.lenC
    obtain ⟨y, hy⟩ : ∃ y, C[k]? = some y := ⟨C[k], List.getElem?_eq_getElem (by omega)⟩
    obtain ⟨hy1, hy2⟩ := small_at hc hy
    have hcy : w.cell? ⟨m.bc, k, none⟩ = some (.int .i64 y) := h.blc.cell (by rw [List.getElem?_map, hy]; rfl)
    have hkk : (k : Int) < (Q.length : Int) := by omega
    have hmx := mayL_at h.mayQ hx
    obtain ⟨hm1, hm2⟩ := hmx
    have hr0 : leftL Q C k = x - y := by unfold leftL; rw [hin, if_pos rfl, Int.toNat_natCast, getD_of hx, getD_of hy]
    rw [hr0]
    unfold MB.ptr at HIS ⊢
    clear h hr h0 h1 h4 hx hy hc hin hlc hr0
    go_enter Try.func20, Try.ntmps20
    go_wp2_with fail
    refine HIS.out.mono ?_
    rintro e w' ⟨rfl, rfl⟩
    clear HIS
    go_wp2
    go_quiet (fail)
    go_wp2
    go_ret
    exact ⟨rfl, _, rfl⟩
  | false =>
    rw [hin] at HIS
    have hr0 : leftL Q C t = 0 := by unfold leftL; rw [hin]; rfl
    rw [hr0]
    unfold MB.ptr at HIS ⊢
    clear h hr h0 h1 h2 h3 h4 hc hin hr0
    go_enter Try.func20, Try.ntmps20
    go_wp2_with fail
    refine HIS.out.mono ?_
    rintro e w' ⟨rfl, rfl⟩
    clear HIS
    go_wp2
    go_ret
    exact ⟨rfl, 0, rfl⟩

theorem wleft_nil (t : Int) (w : World) : Calls Try.prog 20 #[.pointer none, .int .i64 t] w fun e w' => e = .returned (.int .i64 0) ∧ w = w' := by
  go_enter Try.func20, Try.ntmps20
  go_wp2_with fail
  refine (wis_nil _ _).mono ?_
  rintro e w' ⟨rfl, rfl⟩
  go_wp2
  go_ret
  exact ⟨rfl, rfl⟩

set_option maxHeartbeats 400000 in
theorem wtotal_any (m : MB) (span at_ t : Int) (Q C T : List Int) (w : World) (h : MeterAt w m span at_ Q C T) :
    Calls Try.prog 21 #[m.ptr, .int .i64 t] w fun e w' => e = .returned (.int .i64 (totalL Q T t)) ∧ w = w' := by
  have HIS := Lib.hid (wis_any m span at_ t Q C T w h)
  obtain ⟨aq, capq, h0, h1, h2, h3, h4, hr⟩ := h.cells
  cases hin : isIn t Q with
  | true =>
    obtain ⟨k, rfl, hk⟩ := isIn_yes hin
    rw [hin] at HIS
    have hlc := h.lenT
    obtain ⟨y, hy⟩ : ∃ y, T[k]? = some y := ⟨T[k], List.getElem?_eq_getElem (by omega)⟩
    have hcy : w.cell? ⟨m.bt, k, none⟩ = some (.int .i64 y) := h.blt.cell (by rw [List.getElem?_map, hy]; rfl)
    have hkk : (k : Int) < (Q.length : Int) := by omega
    have hr0 : totalL Q T k = y := by unfold totalL; rw [hin, if_pos rfl, Int.toNat_natCast, getD_of hy]
    rw [hr0]
    unfold MB.ptr at HIS ⊢
    clear h hr h0 h1 h2 h3 hy hin hlc hr0
    go_enter Try.func21, Try.ntmps21
    go_wp2_with fail
    refine HIS.out.mono ?_
    rintro e w' ⟨rfl, rfl⟩
    clear HIS
    go_wp2
    go_ret
    exact ⟨rfl, rfl⟩
  | false =>
    rw [hin] at HIS
    have hr0 : totalL Q T t = 0 := by unfold totalL; rw [hin]; rfl
    rw [hr0]
    unfold MB.ptr at HIS ⊢
    clear h hr h0 h1 h2 h3 h4 hin hr0
    go_enter Try.func21, Try.ntmps21
    go_wp2_with fail
    refine HIS.out.mono ?_
    rintro e w' ⟨rfl, rfl⟩
    clear HIS
    go_wp2
    go_ret
    exact ⟨rfl, rfl⟩

theorem wtotal_nil (t : Int) (w : World) : Calls Try.prog 21 #[.pointer none, .int .i64 t] w fun e w' => e = .returned (.int .i64 0) ∧ w = w' := by
  go_enter Try.func21, Try.ntmps21
  go_wp2_with fail
  refine (wis_nil _ _).mono ?_
  rintro e w' ⟨rfl, rfl⟩
  go_wp2
  go_ret
  exact ⟨rfl, rfl⟩

theorem wat_any (m : MB) (span at_ : Int) (Q C T : List Int) (w : World) (h : MeterAt w m span at_ Q C T) :
    Calls Try.prog 42 #[m.ptr] w fun e w' => e = .returned (.int .i64 at_) ∧ w = w' := by
  obtain ⟨aq, capq, h0, h1, h2, h3, h4, hr⟩ := h.cells
  unfold MB.ptr
  clear h hr h0 h2 h3 h4
  go_enter Try.func42, Try.ntmps42
  go_wp2
  go_ret
  exact ⟨rfl, rfl⟩
theorem wat_nil (w : World) : Calls Try.prog 42 #[.pointer none] w fun e w' => e = .returned (.int .i64 0) ∧ w = w' := by
  go_enter Try.func42, Try.ntmps42
  go_wp2
  go_ret
  exact ⟨rfl, rfl⟩

set_option maxHeartbeats 400000 in
theorem wbegins_any (m : MB) (span at_ : Int) (Q C T : List Int) (w : World) (h : MeterAt w m span at_ Q C T) (hs : 1 ≤ span) (ha : 0 ≤ at_) (ha2 : at_ ≤ 1099511627776) :
    Calls Try.prog 43 #[m.ptr] w fun e w' => e = .returned (.bool (at_ % span == 0)) ∧ ∃ n, w' = w.drewN n := by
  obtain ⟨aq, capq, h0, h1, h2, h3, h4, hr⟩ := h.cells
  unfold MB.ptr
  clear h hr h2 h3 h4
  go_enter Try.func43, Try.ntmps43
  go_wp2_with fail
  go_quiet (fail)
  go_wp2
  go_ret
  exact ⟨rfl, _, rfl⟩
theorem wbegins_nil (w : World) : Calls Try.prog 43 #[.pointer none] w fun e w' => e = .returned (.bool false) ∧ ∃ n, w' = w.drewN n := by
  go_enter Try.func43, Try.ntmps43
  go_wp2_with fail
  go_quiet (fail)
  go_wp2
  go_ret
  exact ⟨rfl, _, rfl⟩
end Go.Proofs.Ytfphdcfbkknpbaa

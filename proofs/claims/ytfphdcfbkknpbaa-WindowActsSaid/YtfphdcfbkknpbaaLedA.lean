/- Package ledger: accounts in memory, and the contracts of its functions. -/
import Derived.Test.YtfphdcfbkknpbaaSame
import Derived.Test.YtfphdcfbkknpbaaRs
namespace Go.Proofs.Ytfphdcfbkknpbaa
open Go.RowKit

/-- an account: its limit, what is used, what was used at most -/
abbrev Acc := Int × Int × Int
def encAcc (x : Acc) : List Value := [.int .i64 x.1, .int .i64 x.2.1, .int .i64 x.2.2]
def okAcc (x : Acc) : Prop := 0 ≤ x.2.1 ∧ x.2.1 ≤ x.2.2 ∧ x.2.2 ≤ x.1 ∧ x.1 ≤ 1099511627776

theorem flat3_at {A : List Acc} {k : Nat} {x : Acc} (h : A[k]? = some x) (j : Nat) (hj : j < 3) : (A.flatMap encAcc)[k * 3 + j]? = (encAcc x)[j]? := by
  induction A generalizing k with
  | nil => simp at h
  | cons a A ih =>
    rw [List.flatMap_cons]
    cases k with
    | zero =>
      simp at h
      subst h
      rw [Nat.zero_mul, Nat.zero_add, List.getElem?_append_left (by simpa [encAcc] using hj)]
    | succ k =>
      simp at h
      rw [List.getElem?_append_right (by simp [encAcc]; omega)]
      rw [show (k + 1) * 3 + j - (encAcc a).length = k * 3 + j from by simp [encAcc]; omega]
      exact ih h
theorem flat3_set {A : List Acc} {k : Nat} {x x' : Acc} {j : Nat} {v : Value} (h : A[k]? = some x) (hj : j < 3) (he : encAcc x' = (encAcc x).set j v) :
    (A.flatMap encAcc).set (k * 3 + j) v = (A.set k x').flatMap encAcc := by
  induction A generalizing k with
  | nil => simp at h
  | cons a A ih =>
    cases k with
    | zero =>
      simp at h
      subst h
      rw [List.set_cons_zero, List.flatMap_cons, List.flatMap_cons, Nat.zero_mul, Nat.zero_add, List.set_append_left _ _ (by simpa [encAcc] using hj), he]
    | succ k =>
      simp at h
      rw [List.set_cons_succ, List.flatMap_cons, List.flatMap_cons, List.set_append_right _ _ (by simp [encAcc]; omega)]
      rw [show (k + 1) * 3 + j - (encAcc a).length = k * 3 + j from by simp [encAcc]; omega, ih h]
theorem flat3_len (A : List Acc) : (A.flatMap encAcc).length = A.length * 3 := by
  induction A with
  | nil => rfl
  | cons a A ih => rw [List.flatMap_cons, List.length_append, ih]; simp [encAcc]; omega

def okL (A : List Acc) : Prop := ∀ x ∈ A, okAcc x
/-- a ledger in memory -/
structure LedgerAt (w : World) (b br cap : Nat) (A : List Acc) : Prop where
  box : Blk w b [.slice (some ⟨br, 0, none⟩) A.length cap] 85
  row : w.ownsRow 0 87 3 (.slice (some ⟨br, 0, none⟩) A.length cap) A.length (A.flatMap encAcc)
  ne : b ≠ br
  n0 : 0 < A.length
  n16 : A.length ≤ 16

theorem LedgerAt.lts {w : World} {b br cap : Nat} {A : List Acc} (h : LedgerAt w b br cap A) : b < w.heap.size ∧ br < w.heap.size := ⟨h.box.lt, (h.row.lt br rfl).2⟩
theorem LedgerAt.keep {S : Nat → Prop} {w w' : World} {b br cap : Nat} {A : List Acc} (h : LedgerAt w b br cap A) (k : Keep S w w') (h1 : ¬ S b) (h2 : ¬ S br) : LedgerAt w' b br cap A :=
  ⟨h.box.keep k h1, Own.keep h.row k (fun g hg hs => h2 (by simp [Value.ownBlock] at hg; subst hg; exact hs)), h.ne, h.n0, h.n16⟩
theorem LedgerAt.below {w w' : World} {b br cap : Nat} {A : List Acc} (h : LedgerAt w b br cap A) (k : Below w.heap.size w w') : LedgerAt w' b br cap A :=
  h.keep (Keep.of_below k (fun _ => False)) (fun h => h) (fun h => h)
theorem LedgerAt.cell {w : World} {b br cap : Nat} {A : List Acc} (h : LedgerAt w b br cap A) {k : Nat} {x : Acc} (hx : A[k]? = some x) (j : Nat) (hj : j < 3) (v : Value) (hv : (encAcc x)[j]? = some v) :
    w.cell? ⟨br, k * 3 + j, none⟩ = some v := by
  have hk : k < A.length := (List.getElem?_eq_some_iff.1 hx).1
  rw [World.ownsRow.cellAt h.row (k * 3 + j) (by omega), flat3_at hx j hj, hv]
theorem LedgerAt.free {w : World} {b br cap : Nat} {A : List Acc} (h : LedgerAt w b br cap A) (j : Nat) : w.frozen? ⟨br, j, none⟩ = false := World.ownsRow.frozenAt h.row j
theorem LedgerAt.set {w : World} {b br cap : Nat} {A : List Acc} (h : LedgerAt w b br cap A) {k : Nat} {x x' : Acc} (hx : A[k]? = some x) (j : Nat) (hj : j < 3) (v : Value) (he : encAcc x' = (encAcc x).set j v) :
    LedgerAt (w.setCell ⟨br, k * 3 + j, none⟩ v) b br cap (A.set k x') := by
  have h1 := (World.ownsRow.stored h.row (k * 3 + j) v).1
  rw [flat3_set hx hj he] at h1
  have hl : (A.set k x').length = A.length := by simp
  refine ⟨?_, ?_, h.ne, by rw [hl]; exact h.n0, by rw [hl]; exact h.n16⟩
  · rw [hl]
    exact h.box.other _ _ h.ne
  · rw [hl]
    exact h1

def inA (t : Int) (A : List Acc) : Bool := decide (0 ≤ t) && decide (t < A.length)
theorem inA_yes {t : Int} {A : List Acc} (h : inA t A = true) : ∃ (k : Nat) (x : Acc), t = k ∧ A[k]? = some x := by
  unfold inA at h
  simp at h
  have : t.toNat < A.length := by omega
  exact ⟨t.toNat, A[t.toNat], by omega, List.getElem?_eq_getElem this⟩
theorem okA_at {A : List Acc} (h : ∀ x ∈ A, okAcc x) {k : Nat} {x : Acc} (hx : A[k]? = some x) : okAcc x := h x (List.mem_of_getElem? hx)

theorem lmay_any (n : Int) (w : World) : Calls Try.prog 62 #[.int .i64 n] w fun e w' => e = .returned (.bool (decide (0 ≤ n) && decide (n ≤ 1099511627776))) ∧ w = w' := by
  by_cases h1 : 0 ≤ n
  · by_cases h2 : n ≤ 1099511627776
    · go_enter Try.func62, Try.ntmps62
      go_wp2
      go_ret
      exact ⟨ret_bool (by simp [h1, h2]), rfl⟩
    · go_enter Try.func62, Try.ntmps62
      go_wp2
      go_ret
      exact ⟨ret_bool (by simp; omega), rfl⟩
  · go_enter Try.func62, Try.ntmps62
    go_wp2
    go_ret
    exact ⟨ret_bool (by simp; omega), rfl⟩
theorem lnew1_any (n : Int) (w : World) : Calls Try.prog 61 #[.int .i64 n] w fun e w' => e = .returned (.bool (wrong n)) ∧ w = w' := by
  go_enter Try.func61, Try.ntmps61
  go_wp2_with fail
  refine (lmay_any _ _).mono ?_
  rintro e w' ⟨rfl, rfl⟩
  go_wp2
  go_ret
  exact ⟨ret_bool (by unfold wrong; simp), rfl⟩
theorem lnew1_enters (args : Array Value) (w : World) : (callFunc 61 args).run Try.prog w = .ok (.enter 61 args) w :=
  enter_of Try.func61 (by kernel_rfl) rfl args w

/-- the pointer to a tenant's account -/
def ofP (br : Nat) (t : Int) (A : List Acc) : Value := if inA t A then .pointer (some ⟨br, t.toNat * 3, none⟩) else .pointer none
theorem ofP_yes {br : Nat} {k : Nat} {A : List Acc} (h : inA k A = true) : ofP br k A = .pointer (some ⟨br, k * 3, none⟩) := by unfold ofP; rw [if_pos h, Int.toNat_natCast]
theorem ofP_no {br : Nat} {t : Int} {A : List Acc} (h : inA t A = false) : ofP br t A = .pointer none := by unfold ofP; rw [h]; rfl

set_option maxHeartbeats 400000 in
theorem lof_any (b br cap : Nat) (A : List Acc) (t : Int) (w : World) (h : LedgerAt w b br cap A) :
    Calls Try.prog 63 #[.pointer (some ⟨b, 0, none⟩), .int .i64 t] w fun e w' => e = .returned (ofP br t A) ∧ w = w' := by
  have hc := h.box.cell (i := 0) (x := .slice (some ⟨br, 0, none⟩) A.length cap) rfl
  have h16 := h.n16
  cases hin : inA t A with
  | true =>
    obtain ⟨k, x, rfl, hx⟩ := inA_yes hin
    have hk : k < A.length := (List.getElem?_eq_some_iff.1 hx).1
    rw [ofP_yes hin]
    have hkk : (k : Int) < (A.length : Int) := by omega
    clear h hx hin
    go_enter Try.func63, Try.ntmps63
    go_wp2
    go_ret
    exact ⟨rfl, rfl⟩
  | false =>
    rw [ofP_no hin]
    have hno : ¬ (0 ≤ t ∧ t < A.length) := by
      unfold inA at hin
      simp at hin
      omega
    clear h hin
    by_cases h0 : 0 ≤ t
    · have h1 : (A.length : Int) ≤ t := by omega
      clear hno
      go_enter Try.func63, Try.ntmps63
      go_wp2
      go_ret
      exact ⟨rfl, rfl⟩
    · clear hno
      go_enter Try.func63, Try.ntmps63
      go_wp2
      go_ret
      exact ⟨rfl, rfl⟩
theorem lof_nil (t : Int) (w : World) : Calls Try.prog 63 #[.pointer none, .int .i64 t] w fun e w' => e = .returned (.pointer none) ∧ w = w' := by
  go_enter Try.func63, Try.ntmps63
  go_wp2
  go_ret
  exact ⟨rfl, rfl⟩

/-- what is asked of a tenant's account; 0: there is none -/
def readA (g : Acc → Int) (A : List Acc) (t : Int) : Int := if inA t A then g (A.getD t.toNat (0, 0, 0)) else 0
theorem readA_yes {g : Acc → Int} {A : List Acc} {k : Nat} {x : Acc} (h : A[k]? = some x) : readA g A k = g x := by
  unfold readA
  have hk : k < A.length := (List.getElem?_eq_some_iff.1 h).1
  have hin : inA (k : Int) A = true := by unfold inA; simp; omega
  rw [if_pos hin, Int.toNat_natCast, List.getD_eq_getElem?_getD, h]
  rfl
theorem readA_no {g : Acc → Int} {A : List Acc} {t : Int} (h : inA t A = false) : readA g A t = 0 := by unfold readA; rw [h]; rfl

set_option maxHeartbeats 400000 in
theorem lread_any (b br cap : Nat) (A : List Acc) (t : Int) (f : Nat) (g : Acc → Int) (w : World) (h : LedgerAt w b br cap A) (hok : okL A)
    (hent : ∀ (args : Array Value) (w : World), (callFunc f args).run Try.prog w = .ok (.enter f args) w)
    (hf : ∀ (x : Acc) (w : World), okAcc x → Calls Try.prog f #[.agg #[.int .i64 x.1, .int .i64 x.2.1, .int .i64 x.2.2]] w fun e w' => e = .returned (.int .i64 (g x)) ∧ Below w.heap.size w w') :
    Calls Try.prog 64 #[.pointer (some ⟨b, 0, none⟩), .int .i64 t, .func (.func f) #[] #[]] w fun e w' => e = .returned (.int .i64 (readA g A t)) ∧ Below w.heap.size w w' := by
  have HO := Lib.hid (lof_any b br cap A t w h)
  cases hin : inA t A with
  | true =>
    obtain ⟨k, x, rfl, hx⟩ := inA_yes hin
    rw [readA_yes hx]
    rw [ofP_yes hin] at HO
    have HF := Lib.hid (hf x w (okA_at hok hx))
    have hc0 := h.cell hx 0 (by decide) _ rfl
    have hc1 := h.cell hx 1 (by decide) _ rfl
    have hc2 := h.cell hx 2 (by decide) _ rfl
    simp only [Nat.add_zero] at hc0
    obtain ⟨G, hG⟩ : ∃ G, g x = G := ⟨_, rfl⟩
    rw [hG] at HF ⊢
    clear h hf hx hin hG hok
    go_enter Try.func64, Try.ntmps64
    go_wp2_with fail
    refine HO.out.mono ?_
    rintro e w' ⟨rfl, rfl⟩
    clear HO
    go_wp2_with fail
    refine HF.out.mono ?_
    rintro e w1 ⟨rfl, hb⟩
    clear HF hc0 hc1 hc2
    go_wp2
    go_ret
    exact ⟨rfl, hb⟩
  | false =>
    rw [readA_no hin]
    rw [ofP_no hin] at HO
    clear h hf hin hok
    go_enter Try.func64, Try.ntmps64
    go_wp2_with fail
    refine HO.out.mono ?_
    rintro e w' ⟨rfl, rfl⟩
    clear HO
    go_wp2
    go_ret
    exact ⟨rfl, Below.refl _ _⟩
theorem lread_nil (t : Int) (f : Nat) (w : World) :
    Calls Try.prog 64 #[.pointer none, .int .i64 t, .func (.func f) #[] #[]] w fun e w' => e = .returned (.int .i64 0) ∧ w = w' := by
  go_enter Try.func64, Try.ntmps64
  go_wp2_with fail
  refine (lof_nil _ _).mono ?_
  rintro e w' ⟨rfl, rfl⟩
  go_wp2
  go_ret
  exact ⟨rfl, rfl⟩

theorem lused1_any (x : Acc) (w : World) (hx : okAcc x) : Calls Try.prog 65 #[.agg #[.int .i64 x.1, .int .i64 x.2.1, .int .i64 x.2.2]] w fun e w' => e = .returned (.int .i64 (x.2.1)) ∧ Below w.heap.size w w' := by
  obtain ⟨a, u, p⟩ := x
  obtain ⟨h1, h2, h3, h4⟩ := hx
  simp only at h1 h2 h3 h4 ⊢
  go_enter Try.func65, Try.ntmps65
  go_wp2
  go_ret
  exact ⟨rfl, below_alloc _ _⟩
theorem lused_any (b br cap : Nat) (A : List Acc) (t : Int) (w : World) (h : LedgerAt w b br cap A) (hok : okL A) :
    Calls Try.prog 27 #[.pointer (some ⟨b, 0, none⟩), .int .i64 t] w fun e w' => e = .returned (.int .i64 (readA (fun x => x.2.1) A t)) ∧ Below w.heap.size w w' := by
  have HR := Lib.hid (lread_any b br cap A t 65 (fun x => x.2.1) w h hok (enter_of Try.func65 (by kernel_rfl) rfl) lused1_any)
  obtain ⟨R, hR⟩ : ∃ R, readA (fun x => x.2.1) A t = R := ⟨_, rfl⟩
  rw [hR] at HR ⊢
  clear h hR hok
  go_enter Try.func27, Try.ntmps27
  go_wp2_with fail
  refine HR.out.mono ?_
  rintro e w1 ⟨rfl, hb⟩
  clear HR
  go_wp2
  go_ret
  exact ⟨rfl, hb⟩
theorem lused_nil (t : Int) (w : World) : Calls Try.prog 27 #[.pointer none, .int .i64 t] w fun e w' => e = .returned (.int .i64 0) ∧ w = w' := by
  go_enter Try.func27, Try.ntmps27
  go_wp2_with fail
  refine (lread_nil _ _ _).mono ?_
  rintro e w1 ⟨rfl, rfl⟩
  go_wp2
  go_ret
  exact ⟨rfl, rfl⟩

theorem lleft1_any (x : Acc) (w : World) (hx : okAcc x) : Calls Try.prog 66 #[.agg #[.int .i64 x.1, .int .i64 x.2.1, .int .i64 x.2.2]] w fun e w' => e = .returned (.int .i64 (x.1 - x.2.1)) ∧ Below w.heap.size w w' := by
  obtain ⟨a, u, p⟩ := x
  obtain ⟨h1, h2, h3, h4⟩ := hx
  simp only at h1 h2 h3 h4 ⊢
  go_enter Try.func66, Try.ntmps66
  go_wp2
  go_ret
  exact ⟨rfl, below_alloc _ _⟩
theorem lleft_any (b br cap : Nat) (A : List Acc) (t : Int) (w : World) (h : LedgerAt w b br cap A) (hok : okL A) :
    Calls Try.prog 28 #[.pointer (some ⟨b, 0, none⟩), .int .i64 t] w fun e w' => e = .returned (.int .i64 (readA (fun x => x.1 - x.2.1) A t)) ∧ Below w.heap.size w w' := by
  have HR := Lib.hid (lread_any b br cap A t 66 (fun x => x.1 - x.2.1) w h hok (enter_of Try.func66 (by kernel_rfl) rfl) lleft1_any)
  obtain ⟨R, hR⟩ : ∃ R, readA (fun x => x.1 - x.2.1) A t = R := ⟨_, rfl⟩
  rw [hR] at HR ⊢
  clear h hR hok
  go_enter Try.func28, Try.ntmps28
  go_wp2_with fail
  refine HR.out.mono ?_
  rintro e w1 ⟨rfl, hb⟩
  clear HR
  go_wp2
  go_ret
  exact ⟨rfl, hb⟩
theorem lleft_nil (t : Int) (w : World) : Calls Try.prog 28 #[.pointer none, .int .i64 t] w fun e w' => e = .returned (.int .i64 0) ∧ w = w' := by
  go_enter Try.func28, Try.ntmps28
  go_wp2_with fail
  refine (lread_nil _ _ _).mono ?_
  rintro e w1 ⟨rfl, rfl⟩
  go_wp2
  go_ret
  exact ⟨rfl, rfl⟩

theorem lpeak1_any (x : Acc) (w : World) (hx : okAcc x) : Calls Try.prog 67 #[.agg #[.int .i64 x.1, .int .i64 x.2.1, .int .i64 x.2.2]] w fun e w' => e = .returned (.int .i64 (x.2.2)) ∧ Below w.heap.size w w' := by
  obtain ⟨a, u, p⟩ := x
  obtain ⟨h1, h2, h3, h4⟩ := hx
  simp only at h1 h2 h3 h4 ⊢
  go_enter Try.func67, Try.ntmps67
  go_wp2
  go_ret
  exact ⟨rfl, below_alloc _ _⟩
theorem lpeak_any (b br cap : Nat) (A : List Acc) (t : Int) (w : World) (h : LedgerAt w b br cap A) (hok : okL A) :
    Calls Try.prog 29 #[.pointer (some ⟨b, 0, none⟩), .int .i64 t] w fun e w' => e = .returned (.int .i64 (readA (fun x => x.2.2) A t)) ∧ Below w.heap.size w w' := by
  have HR := Lib.hid (lread_any b br cap A t 67 (fun x => x.2.2) w h hok (enter_of Try.func67 (by kernel_rfl) rfl) lpeak1_any)
  obtain ⟨R, hR⟩ : ∃ R, readA (fun x => x.2.2) A t = R := ⟨_, rfl⟩
  rw [hR] at HR ⊢
  clear h hR hok
  go_enter Try.func29, Try.ntmps29
  go_wp2_with fail
  refine HR.out.mono ?_
  rintro e w1 ⟨rfl, hb⟩
  clear HR
  go_wp2
  go_ret
  exact ⟨rfl, hb⟩
theorem lpeak_nil (t : Int) (w : World) : Calls Try.prog 29 #[.pointer none, .int .i64 t] w fun e w' => e = .returned (.int .i64 0) ∧ w = w' := by
  go_enter Try.func29, Try.ntmps29
  go_wp2_with fail
  refine (lread_nil _ _ _).mono ?_
  rintro e w1 ⟨rfl, rfl⟩
  go_wp2
  go_ret
  exact ⟨rfl, rfl⟩

theorem llimit1_any (x : Acc) (w : World) (hx : okAcc x) : Calls Try.prog 69 #[.agg #[.int .i64 x.1, .int .i64 x.2.1, .int .i64 x.2.2]] w fun e w' => e = .returned (.int .i64 (x.1)) ∧ Below w.heap.size w w' := by
  obtain ⟨a, u, p⟩ := x
  obtain ⟨h1, h2, h3, h4⟩ := hx
  simp only at h1 h2 h3 h4 ⊢
  go_enter Try.func69, Try.ntmps69
  go_wp2
  go_ret
  exact ⟨rfl, below_alloc _ _⟩
theorem llimit_any (b br cap : Nat) (A : List Acc) (t : Int) (w : World) (h : LedgerAt w b br cap A) (hok : okL A) :
    Calls Try.prog 49 #[.pointer (some ⟨b, 0, none⟩), .int .i64 t] w fun e w' => e = .returned (.int .i64 (readA (fun x => x.1) A t)) ∧ Below w.heap.size w w' := by
  have HR := Lib.hid (lread_any b br cap A t 69 (fun x => x.1) w h hok (enter_of Try.func69 (by kernel_rfl) rfl) llimit1_any)
  obtain ⟨R, hR⟩ : ∃ R, readA (fun x => x.1) A t = R := ⟨_, rfl⟩
  rw [hR] at HR ⊢
  clear h hR hok
  go_enter Try.func49, Try.ntmps49
  go_wp2_with fail
  refine HR.out.mono ?_
  rintro e w1 ⟨rfl, hb⟩
  clear HR
  go_wp2
  go_ret
  exact ⟨rfl, hb⟩
theorem llimit_nil (t : Int) (w : World) : Calls Try.prog 49 #[.pointer none, .int .i64 t] w fun e w' => e = .returned (.int .i64 0) ∧ w = w' := by
  go_enter Try.func49, Try.ntmps49
  go_wp2_with fail
  refine (lread_nil _ _ _).mono ?_
  rintro e w1 ⟨rfl, rfl⟩
  go_wp2
  go_ret
  exact ⟨rfl, rfl⟩
end Go.Proofs.Ytfphdcfbkknpbaa

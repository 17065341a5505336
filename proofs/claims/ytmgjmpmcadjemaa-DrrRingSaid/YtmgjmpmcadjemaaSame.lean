/- Rows of numbers that are held against one another, copied, looked through: contracts that several packages use. -/
import Derived.Test.YtmgjmpmcadjemaaBase
import Derived.StillTailTactics
import Derived.Outline
namespace Go.Proofs.Ytmgjmpmcadjemaa
open Go.RowKit

theorem intinfo : (Try.prog.info? 3).map (fun i => (i.zero, i.size, i.bytes)) = some (some (.int .i64 0), 1, 8) := by kernel_rfl

set_option maxHeartbeats 400000 in
theorem ints_same (va vb : Value) (l : List Int) (w : World) (ha : RInts w va l) (hb : RInts w vb l) :
    Calls Try.prog 48 #[va, vb] w fun e w' => e = .returned (.bool true) ∧ ∃ n, w' = w.drewN n := by
  obtain ⟨a, cap, rfl, hc1, hc2⟩ := ha.shape
  obtain ⟨a2, cap2, rfl, hc3, hc4⟩ := hb.shape
  have hne : ((l.length : Int) != (l.length : Int)) = false := by simp
  go_enter Try.func48, Try.ntmps48
  go_wp2
  go_loopw [5, 13] (fun x i wr => ∃ k : Nat, k ≤ l.length ∧ i = .int .i64 k ∧ ∃ n, wr = w.drewN n) (fun _ i _ => l.length - (intOf i).toNat)
  case atStart => exact ⟨0, Nat.zero_le _, rfl, 0, rfl⟩
  case round =>
    obtain ⟨k, hk, rfl, n, rfl⟩ := hrel
    by_cases hlt : k < l.length
    · obtain ⟨b, off, x, rfl, hbb, hx, hcx, hx1, hx2⟩ := ha.at hlt
      obtain ⟨b2, off2, x2, rfl, hbb2, hx', hcx2, _, _⟩ := hb.at hlt
      obtain rfl : x = x2 := by rw [hx] at hx'; simpa using hx'
      have hkl : (k : Int) < (l.length : Int) := by omega
      have hxx : (x != x) = false := by simp
      clear hx hx' ha hb
      go_wp2
      go_quiet (fail)
      go_wp2
      go_roundw
      case rel => exact ⟨k + 1, by omega, by go_num, _, rfl⟩
      case measure => simp [intOf]; omega
    · obtain rfl : k = l.length := by omega
      go_wp2
      go_ret
      exact ⟨rfl, n, rfl⟩

set_option maxHeartbeats 400000 in
theorem clone_any (v : Value) (l : List Int) (w : World) (hl : l.length ≤ 1000000) (hv : RInts w v l) :
    Calls Try.prog 87 #[v] w fun e w' => ∃ v', e = .returned v' ∧ RInts w' v' l ∧ FreshV w.heap.size v' ∧ Below w.heap.size w w' := by
  obtain ⟨a, cap, rfl, hc1, hc2⟩ := hv.shape
  have hn := fun (w : World) (a : Option Addr) (n c : Nat) => Lib.run_eql_slice_nil (P := Try.prog) w 28 3 a n c 0 0 Try.underlying28
  cases a with
  | none =>
    obtain rfl : l = [] := by
      cases l with
      | nil => rfl
      | cons x l =>
        obtain ⟨b, off, x, h, _⟩ := hv.at (k := 0) (by simp)
        cases h
    go_enter Try.func87, Try.ntmps87
    go_wp2
    go_ret
    exact ⟨_, rfl, RInts.nil _, FreshV.nil _, Below.refl _ _⟩
  | some ad =>
    have hnews := Lib.hid (hv.below (below_alloc w (.cells #[] 3 (0, 0))))
    have hown := own_empty w 3 1
    clear hv
    go_enter Try.func87, Try.ntmps87
    go_wp2_with (at_builtin; refine wpList_append_keep _ rfl _ _ 28 rfl 3 (.int .i64 0) 1 8 Try.underlying28 intinfo rfl (by decide) (.slice (some ⟨w.heap.size, 0, none⟩) 0 0) 0 [] rfl hown ad l.length cap (l.map (Value.int .i64)) rfl (by simp) (hnews.out.1.news (by simp)) (one_ints _ _) (by unfold maxLen; omega) (by omega) ?_)
    intro v2 w2 hown2 hkeep hfresh
    have hb2 : Below w.heap.size w w2 := (below_alloc w _).trans (hkeep.below (by simp) (fun k hk he => by simp [Value.ownBlock] at he; omega))
    have hr2 : RInts w2 v2 l := ⟨by simpa using Own.reads hown2, hnews.out.2⟩
    have hf2 : FreshV w.heap.size v2 := fun g hg => by
      rcases hfresh g hg with h | h
      · simp [Value.ownBlock] at h; omega
      · omega
    clear hown hown2 hkeep hfresh hnews
    go_wp2
    go_ret
    exact ⟨_, rfl, hr2, hf2, hb2⟩

/-- the place of the first number that counts, or -1 -/
def findI (p : Int → Bool) (l : List Int) : Int := match l.findIdx? p with | some k => (k : Int) | none => -1

theorem findI_some {p : Int → Bool} {l : List Int} {k : Nat} {x : Int} (hx : l[k]? = some x) (hp : p x = true) (hno : ∀ (i : Nat) (y : Int), i < k → l[i]? = some y → p y = false) : findI p l = k := by
  have hk : k < l.length := (List.getElem?_eq_some_iff.1 hx).1
  have hxe : l[k] = x := (List.getElem?_eq_some_iff.1 hx).2
  have : l.findIdx? p = some k := by
    rw [List.findIdx?_eq_some_iff_getElem]
    exact ⟨hk, by rw [hxe]; exact hp, fun j hj => by rw [hno j l[j] hj (List.getElem?_eq_getElem (by omega))]; simp⟩
  unfold findI
  rw [this]
theorem findI_none {p : Int → Bool} {l : List Int} (hno : ∀ (i : Nat) (y : Int), l[i]? = some y → p y = false) : findI p l = -1 := by
  have : l.findIdx? p = none := by
    rw [List.findIdx?_eq_none_iff]
    intro x hx
    obtain ⟨i, hi⟩ := List.getElem?_of_mem hx
    exact hno i x hi
  unfold findI
  rw [this]
theorem findI_any (p : Int → Bool) (l : List Int) : (0 ≤ findI p l) ↔ l.any p = true := by
  unfold findI
  cases h : l.findIdx? p with
  | none =>
    rw [List.findIdx?_eq_none_iff] at h
    simp only [List.any_eq_true]
    constructor
    · intro h'; exact absurd h' (by decide)
    · rintro ⟨x, hx, hp⟩; rw [h x hx] at hp; exact absurd hp (by decide)
  | some k =>
    rw [List.findIdx?_eq_some_iff_getElem] at h
    obtain ⟨hk, hp, _⟩ := h
    simp only [List.any_eq_true]
    exact ⟨fun _ => ⟨l[k], List.getElem_mem hk, hp⟩, fun _ => by simp⟩

set_option maxHeartbeats 400000 in
theorem indexfunc_any (v : Value) (l : List Int) (f : Nat) (p : Int → Bool) (w : World) (hv : RInts w v l) (hent : ∀ (args : Array Value) (w : World), (callFunc f args).run Try.prog w = .ok (.enter f args) w)
    (hf : ∀ (x : Int) (w : World), Calls Try.prog f #[.int .i64 x] w fun e w' => e = .returned (.bool (p x)) ∧ w = w') :
    Calls Try.prog 71 #[v, .func (.func f) #[] #[]] w fun e w' => e = .returned (.int .i64 (findI p l)) ∧ w = w' := by
  obtain ⟨a, cap, rfl, hc1, hc2⟩ := hv.shape
  have HF := Lib.hid hf
  clear hf
  go_enter Try.func71, Try.ntmps71
  go_wp2
  go_loop [5, 8] (fun x i => ∃ k : Nat, k ≤ l.length ∧ i = .int .i64 k ∧ Hid (∀ i y, i < k → l[i]? = some y → p y = false)) (fun _ i => l.length - (intOf i).toNat)
  case atStart => exact ⟨0, Nat.zero_le _, rfl, fun i y h _ => absurd h (by omega)⟩
  case round =>
    obtain ⟨k, hk, rfl, HALL⟩ := hrel
    by_cases hlt : k < l.length
    · obtain ⟨b, off, x, rfl, hbb, hx, hcx, hx1, hx2⟩ := hv.at hlt
      have HX := Lib.hid hx
      clear hx hv
      go_wp2_with fail
      refine (HF.out _ _).mono ?_
      rintro e w' ⟨rfl, rfl⟩
      cases hp : p x with
      | true =>
        have HP := Lib.hid hp
        clear hp
        go_wp2
        go_ret
        exact ⟨ret_int (findI_some HX.out HP.out HALL.out).symm, rfl⟩
      | false =>
        have HP := Lib.hid hp
        clear hp
        go_wp2
        go_round
        case rel =>
          refine ⟨k + 1, by omega, by go_num, fun i y hi hy => ?_⟩
          by_cases e : i = k
          · subst e
            have := HX.out
            rw [this] at hy
            cases hy
            exact HP.out
          · exact HALL.out i y (by omega) hy
        case measure => simp [intOf]; omega
    · obtain rfl : k = l.length := by omega
      go_wp2
      go_ret
      exact ⟨ret_int (findI_none fun i y hy => HALL.out i y ((List.getElem?_eq_some_iff.1 hy).1) hy).symm, rfl⟩

theorem containsfunc_any (v : Value) (l : List Int) (f : Nat) (p : Int → Bool) (w : World) (hv : RInts w v l) (hent : ∀ (args : Array Value) (w : World), (callFunc f args).run Try.prog w = .ok (.enter f args) w)
    (hf : ∀ (x : Int) (w : World), Calls Try.prog f #[.int .i64 x] w fun e w' => e = .returned (.bool (p x)) ∧ w = w') :
    Calls Try.prog 54 #[v, .func (.func f) #[] #[]] w fun e w' => e = .returned (.bool (l.any p)) ∧ w = w' := by
  have HI := Lib.hid (indexfunc_any v l f p w hv hent hf)
  obtain ⟨r, hr⟩ : ∃ r, findI p l = r := ⟨_, rfl⟩
  have hr2 := findI_any p l
  rw [hr] at HI hr2
  have HR := Lib.hid hr2
  clear hr2 hr hf hv hent
  go_enter Try.func54, Try.ntmps54
  go_wp2_with fail
  refine HI.out.mono ?_
  rintro e w' ⟨rfl, rfl⟩
  clear HI
  by_cases h0 : 0 ≤ r
  · go_wp2
    go_ret
    exact ⟨ret_bool (by rw [HR.out.1 h0]), rfl⟩
  · go_wp2
    go_ret
    exact ⟨ret_bool (by
      have : l.any p = false := by rw [Bool.eq_false_iff]; exact fun h => absurd (HR.out.2 h) (by omega)
      rw [this]
      simp
      try omega), rfl⟩

/-- may numbers be limits -/
def mayL (l : List Int) : Bool := l.all fun x => decide (0 ≤ x) && decide (x ≤ 1099511627776)
theorem mayL_at {l : List Int} {k : Nat} {x : Int} (h : mayL l = true) (hx : l[k]? = some x) : 0 ≤ x ∧ x ≤ 1099511627776 := by
  unfold mayL at h
  rw [List.all_eq_true] at h
  have := h x (List.mem_of_getElem? hx)
  simpa using this
theorem mayL_take_succ {l : List Int} {k : Nat} {x : Int} (hx : l[k]? = some x) :
    mayL (l.take (k + 1)) = (mayL (l.take k) && (decide (0 ≤ x) && decide (x ≤ 1099511627776))) := by
  rw [take_snoc hx]
  simp [mayL]
theorem mayL_no {l : List Int} {k : Nat} {x : Int} (hx : l[k]? = some x) (h : ¬ (0 ≤ x ∧ x ≤ 1099511627776)) : mayL l = false := by
  rw [Bool.eq_false_iff]
  intro h'
  exact h (mayL_at h' hx)
/-- a number that may not be a limit -/
def wrong (n : Int) : Bool := !(decide (0 ≤ n) && decide (n ≤ 1099511627776))
theorem any_wrong (l : List Int) : l.any wrong = !mayL l := by
  unfold wrong mayL
  rw [List.all_eq_not_any_not]
  simp
end Go.Proofs.Ytmgjmpmcadjemaa

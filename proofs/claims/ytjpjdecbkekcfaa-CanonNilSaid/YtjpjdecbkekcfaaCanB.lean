/- Package canon: what a Code in memory is; Size, Of, and the calls at nil; the law's size. -/
import Derived.Test.YtjpjdecbkekcfaaCanA
namespace Go.Proofs.Ytjpjdecbkekcfaa
open Go.RowKit

def sizC (l : List Int) : Bool := decide (3 ≤ (l.length : Int)) && decide ((l.length : Int) ≤ 258)
theorem sizC_iff {l : List Int} : sizC l = true ↔ 3 ≤ l.length ∧ l.length ≤ 258 := by
  unfold sizC
  rw [Bool.and_eq_true, decide_eq_true_eq, decide_eq_true_eq]
  omega
theorem size10_any (v : Value) (l : List Int) (w : World) (hv : RInts w v l) : Calls Try.prog 16 #[v] w fun e w' => e = .returned (.bool (sizC l)) ∧ w = w' := by
  obtain ⟨a, cap, rfl, hc1, hc2⟩ := hv.shape
  clear hv
  unfold sizC
  obtain ⟨n, hn⟩ : ∃ z, l.length = z := ⟨_, rfl⟩
  rw [hn] at hc1 ⊢
  clear hn
  by_cases h1 : 3 ≤ n
  · have d1 : decide ((3 : Int) ≤ (n : Int)) = true := decide_eq_true (by omega)
    rw [d1, Bool.true_and]
    by_cases h2 : n ≤ 258
    · have d2 : decide ((n : Int) ≤ 258) = true := decide_eq_true (by omega)
      rw [d2]
      clear h1 h2
      go_enter Try.func16, Try.ntmps16
      go_wp2
      go_ret
      exact ⟨rfl, rfl⟩
    · have d2 : decide ((n : Int) ≤ 258) = false := decide_eq_false (by omega)
      rw [d2]
      clear h1 h2
      go_enter Try.func16, Try.ntmps16
      go_wp2
      go_ret
      exact ⟨rfl, rfl⟩
  · have d1 : decide ((3 : Int) ≤ (n : Int)) = false := decide_eq_false (by omega)
    rw [d1, Bool.false_and]
    clear h1
    go_enter Try.func16, Try.ntmps16
    go_wp2
    go_ret
    exact ⟨rfl, rfl⟩

theorem csize_nil (w : World) : Calls Try.prog 19 #[.pointer none] w fun e w' => e = .returned (.int .i64 0) ∧ w = w' := by
  go_enter Try.func19, Try.ntmps19
  go_wp2
  go_ret
  exact ⟨rfl, rfl⟩
theorem cof_nil (n : Int) (w : World) : Calls Try.prog 18 #[.pointer none, .int .i64 n] w fun e w' => e = .returned (.tuple #[.int .u32 0, .int .i64 0, .int .i64 7]) ∧ w = w' := by
  go_enter Try.func18, Try.ntmps18
  go_wp2
  refine bodyPost_ret (v := .tuple #[.int .u32 0, .int .i64 0, .int .i64 7]) (by simp [results, Try.results18, go_sem]) rfl ?_
  exact ⟨rfl, rfl⟩
theorem cput_nil (c : Option Addr) (n : Int) (w : World) : Calls Try.prog 28 #[.pointer c, .pointer none, .int .i64 n] w fun e w' => e = .returned (.int .i64 7) ∧ w = w' := by
  go_enter Try.func28, Try.ntmps28
  go_wp2
  go_ret
  exact ⟨rfl, rfl⟩
theorem cput_nil1 (b : Addr) (n : Int) (w : World) : Calls Try.prog 28 #[.pointer none, .pointer (some b), .int .i64 n] w fun e w' => e = .returned (.int .i64 7) ∧ w = w' := by
  have HO := Lib.hid (cof_nil n w)
  go_enter Try.func28, Try.ntmps28
  go_wp2_with fail
  refine HO.out.mono ?_
  rintro e w1 ⟨rfl, rfl⟩
  go_wp2
  go_ret
  exact ⟨rfl, rfl⟩
theorem cget_nil1 (r : Option Addr) (w : World) : Calls Try.prog 25 #[.pointer none, .pointer r] w fun e w' => e = .returned (.tuple #[.int .i64 0, .int .i64 7]) ∧ w = w' := by
  go_enter Try.func25, Try.ntmps25
  go_wp2
  go_ret2
  exact ⟨rfl, rfl⟩
theorem cget_nil2 (c : Addr) (w : World) : Calls Try.prog 25 #[.pointer (some c), .pointer none] w fun e w' => e = .returned (.tuple #[.int .i64 0, .int .i64 7]) ∧ w = w' := by
  go_enter Try.func25, Try.ntmps25
  go_wp2
  go_ret2
  exact ⟨rfl, rfl⟩
end Go.Proofs.Ytjpjdecbkekcfaa

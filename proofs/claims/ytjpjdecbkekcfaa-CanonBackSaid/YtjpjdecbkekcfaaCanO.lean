/- Package canon: Size, Of, Put at a Code. -/
import Derived.Test.YtjpjdecbkekcfaaCanN
namespace Go.Proofs.Ytjpjdecbkekcfaa
open Go.RowKit

theorem csize_any (p : Nat) (l : List Int) (w : World) (h : CodeAt w p l) : Calls Try.prog 19 #[.pointer (some ⟨p, 0, none⟩)] w fun e w' => e = .returned (.int .i64 (l.length : Int)) ∧ w = w' := by
  obtain ⟨vl, vo, gc, h1, h2, h3, h4⟩ := h.ex
  have c0 := h1.cell (i := 0) (x := vl) rfl
  obtain ⟨a, cap, rfl, -, -⟩ := h4.shape
  clear h h1 h2 h3 h4
  go_enter Try.func19, Try.ntmps19
  go_wp2
  go_ret
  exact ⟨rfl, rfl⟩
theorem cof_out (p : Nat) (l : List Int) (n : Int) (w : World) (h : CodeAt w p l) (hn : n < 0 ∨ (l.length : Int) ≤ n) : Calls Try.prog 18 #[.pointer (some ⟨p, 0, none⟩), .int .i64 n] w fun e w' => e = .returned (.tuple #[.int .u32 0, .int .i64 0, .int .i64 1]) ∧ w = w' := by
  obtain ⟨vl, vo, gc, h1, h2, h3, h4⟩ := h.ex
  have c0 := h1.cell (i := 0) (x := vl) rfl
  obtain ⟨a, cap, rfl, -, -⟩ := h4.shape
  clear h h1 h2 h3 h4
  by_cases h0 : n < 0
  · have d0 : decide (n < 0) = true := decide_eq_true h0
    clear hn h0
    go_enter Try.func18, Try.ntmps18
    go_wp2
    refine bodyPost_ret (v := .tuple #[.int .u32 0, .int .i64 0, .int .i64 1]) (by simp [results, Try.results18, go_sem]) rfl ?_
    exact ⟨rfl, rfl⟩
  · have d0 : decide (n < 0) = false := decide_eq_false h0
    have d1 : decide ((l.length : Int) ≤ n) = true := decide_eq_true (hn.elim (fun h => absurd h h0) id)
    clear hn h0
    go_enter Try.func18, Try.ntmps18
    go_wp2
    refine bodyPost_ret (v := .tuple #[.int .u32 0, .int .i64 0, .int .i64 1]) (by simp [results, Try.results18, go_sem]) rfl ?_
    exact ⟨rfl, rfl⟩
set_option maxHeartbeats 1000000 in
theorem cof_any (p : Nat) (l : List Int) (s : Nat) (x : Int) (w : World) (h : CodeAt w p l) (hx : l[s]? = some x) : Calls Try.prog 18 #[.pointer (some ⟨p, 0, none⟩), .int .i64 (s : Int)] w fun e w' => e = .returned (.tuple #[.int .u32 (codeC l s : Int), .int .i64 x, .int .i64 0]) ∧ Below w.heap.size w w' := by
  obtain ⟨vl, vo, gc, h1, h2, h3, h4⟩ := h.ex
  have hs : s < l.length := (List.getElem?_eq_some_iff.1 hx).1
  obtain ⟨a, cap, rfl, hcp1, hcp2⟩ := h4.shape
  obtain ⟨b, off, y, rfl, -, hy, hcy, -, -⟩ := h4.at hs
  obtain rfl : x = y := by rw [hx] at hy; exact Option.some.inj hy
  have c0 := h1.cell (i := 0) (x := .slice (some ⟨b, off, none⟩) l.length cap) rfl
  have c1 := h1.cell (i := 1) (x := .slice (some ⟨gc, 0, none⟩) l.length l.length) rfl
  have cs := h2.cell (i := s) (x := .int .u32 (codeC l s : Int)) (by rw [List.getElem?_map, List.getElem?_map, List.getElem?_range hs]; rfl)
  have d0 : decide ((s : Int) < 0) = false := decide_eq_false (by omega)
  have d1 : decide ((l.length : Int) ≤ (s : Int)) = false := decide_eq_false (by omega)
  have d1' : decide (l.length ≤ s) = false := decide_eq_false (by omega)
  have hsi : (s : Int) < (l.length : Int) := by omega
  have hs0 : (0 : Int) ≤ (s : Int) := by omega
  obtain ⟨q, hq⟩ : ∃ z, codeC l s = z := ⟨_, rfl⟩
  rw [hq] at cs ⊢
  clear h h1 h2 h3 h4 hx hy hq
  go_enter Try.func18, Try.ntmps18
  go_wp2
  go_quiet (fail)
  go_wp2
  refine bodyPost_ret (v := .tuple #[.int .u32 (q : Int), .int .i64 x, .int .i64 0]) (by simp [results, Try.results18, go_sem]) rfl ?_
  exact ⟨rfl, below_drawn ⟨_, rfl⟩⟩
end Go.Proofs.Ytjpjdecbkekcfaa

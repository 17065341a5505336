/- Package bits: a reader's alignings and forgettings. -/
import Derived.Test.YtbbiohcmfhdmnaaBitC
namespace Go.Proofs.Ytbbiohcmfhdmnaa
open Go.RowKit

set_option maxHeartbeats 1000000 in
theorem ralign_any (b : Nat) (S : List UInt8) (d at_ : Nat) (w : World) (h : ReaderAt w b S d at_) :
    Calls Try.prog 35 #[.pointer (some ⟨b, 0, none⟩)] w fun e w' => e = .returned (.tuple #[]) ∧ RDid b S d ((at_ + 7) / 8 * 8) w w' := by
  have HR := Lib.hid (RDid.same h (Below.refl _ w))
  have hlo := h.lo
  have hhi := h.hi
  clear h
  go_enter Try.func35, Try.ntmps35
  go_wp2
  go_loopg [] ((8 - at_ % 8) % 8) (fun g wr => ∃ a2 : Nat, Hid ((a2 + 7) / 8 * 8 = (at_ + 7) / 8 * 8) ∧ at_ ≤ a2 ∧ (8 - a2 % 8) % 8 = g ∧ Hid (RDid b S d a2 w wr))
  case atStart => exact ⟨at_, rfl, Nat.le_refl _, rfl, HR.out⟩
  case round =>
    obtain ⟨a2, HE, hle, rfl, HD⟩ := hrel
    have hc2 := HD.out.1.box.cell (i := 2) rfl
    have hf2 := HD.out.1.box.free 2
    have hhi2 := HD.out.1.hi
    have hlen2 := HD.out.1.len
    by_cases hz : a2 % 8 = 0
    · have HZ := Lib.hid (show (at_ + 7) / 8 * 8 = a2 by rw [← HE.out]; omega)
      have ht : ((a2 : Int) % 8 != 0) = false := by simp; omega
      clear hz hf2
      go_wp2
      go_end0
      exact ⟨rfl, by rw [HZ.out]; exact HD.out⟩
    · have HZ := Lib.hid (show (a2 + 1 + 7) / 8 * 8 = (at_ + 7) / 8 * 8 by rw [← HE.out]; omega)
      have HLT := Lib.hid (show (8 - (a2 + 1) % 8) % 8 < (8 - a2 % 8) % 8 by omega)
      have HN := Lib.hid (HD.out.trans (HD.out.1.setAt (a2 + 1) (by omega) (by omega)))
      have ht : ((a2 : Int) % 8 != 0) = true := by simp; omega
      clear hz
      go_wp2
      go_roundg ((8 - (a2 + 1) % 8) % 8)
      case rel => exact ⟨a2 + 1, HZ.out, by omega, rfl, HN.out⟩
      case measure => exact HLT.out
theorem ralign_nil (w : World) : Calls Try.prog 35 #[.pointer none] w fun e w' => e = .returned (.tuple #[]) ∧ w = w' := by
  go_enter Try.func35, Try.ntmps35
  go_wp2
  go_loopg [] 1 (fun g wr => w = wr)
  case atStart => rfl
  case round =>
    subst hrel
    go_wp2
    go_end0
    exact ⟨rfl, rfl⟩

theorem rheld_any (b : Nat) (S : List UInt8) (d at_ : Nat) (w : World) (h : ReaderAt w b S d at_) :
    Calls Try.prog 37 #[.pointer (some ⟨b, 0, none⟩)] w fun e w' => e = .returned (.int .i64 ((S.length - d : Nat) : Int)) ∧ w = w' := by
  have hc0 := h.box.cell (i := 0) rfl
  obtain ⟨s, hs⟩ : ∃ s, str (S.drop d) = s := ⟨_, rfl⟩
  have HZ := Lib.hid (show s.size = S.length - d by rw [← hs, str_size, List.length_drop])
  rw [hs] at hc0
  clear h hs
  go_enter Try.func37, Try.ntmps37
  go_wp2
  go_ret
  exact ⟨ret_int (by rw [HZ.out]), rfl⟩
theorem rheld_nil (w : World) : Calls Try.prog 37 #[.pointer none] w fun e w' => e = .returned (.int .i64 0) ∧ w = w' := by
  go_enter Try.func37, Try.ntmps37
  go_wp2
  go_ret
  exact ⟨rfl, rfl⟩

set_option maxHeartbeats 1000000 in
theorem rdrop_any (b : Nat) (S : List UInt8) (d at_ : Nat) (w : World) (h : ReaderAt w b S d at_) :
    Calls Try.prog 31 #[.pointer (some ⟨b, 0, none⟩)] w fun e w' => e = .returned (.int .i64 ((at_ / 8 - d : Nat) : Int)) ∧ RDid b S (at_ / 8) at_ w w' := by
  have hc0 := h.box.cell (i := 0) rfl
  have hc1 := h.box.cell (i := 1) rfl
  have hc2 := h.box.cell (i := 2) rfl
  have hf0 := h.box.free 0
  have hf1 := h.box.free 1
  have hlo := h.lo
  have hhi := h.hi
  have hlen := h.len
  obtain ⟨s, hs⟩ : ∃ s, str (S.drop d) = s := ⟨_, rfl⟩
  obtain ⟨n, hn⟩ : ∃ n, at_ / 8 - d = n := ⟨_, rfl⟩
  have hsz : s.size = S.length - d := by rw [← hs, str_size, List.length_drop]
  have hns : n ≤ s.size := by omega
  have hns2 : (n : Int) ≤ (s.size : Int) := by omega
  have hdd : d ≤ 1000000 := by omega
  have hnn : n ≤ 1000000 := by omega
  have e1 : IntKind.i64.wrap ((at_ : Int) / 8 - (d : Int)) = (n : Int) := by rw [IntWalk.i64_in _ (by omega)]; omega
  have HF : Hid (∀ m, RDid b S (at_ / 8) at_ w (((w.drewN m).setCell ⟨b, 0, none⟩ (.string (s.extract n s.size))).setCell ⟨b, 1, none⟩ (.int .i64 ((d : Int) + (n : Int))))) := by
    intro m
    refine ⟨⟨?_, by omega, hhi, hlen⟩, keep_setCell (S := fun j => j = b) (keep_setCell (S := fun j => j = b) (Keep.of_below (below_drewN (Below.refl _ _) m) _) rfl _) rfl _⟩
    have hb := ((h.box.below (below_drewN (Below.refl _ _) m)).set 0 (.string (s.extract n s.size))).set 1 (.int .i64 ((d : Int) + (n : Int)))
    have e2 : s.extract n s.size = str (S.drop (at_ / 8)) := by
      rw [← hs, str_extract, str_size, List.take_of_length_le (by rw [List.length_drop]; omega), List.drop_drop]
      congr 2
      omega
    have e3 : ((d : Int) + (n : Int)) = ((at_ / 8 : Nat) : Int) := by omega
    rw [← e2, ← e3]
    exact hb
  rw [hs] at hc0
  rw [hn]
  clear h hs hn hsz
  go_enter Try.func31, Try.ntmps31
  go_wp2
  go_quiet (fail)
  go_wp2
  go_ret
  exact ⟨rfl, HF.out _⟩
theorem rdrop_nil (w : World) : Calls Try.prog 31 #[.pointer none] w fun e w' => e = .returned (.int .i64 0) ∧ w = w' := by
  go_enter Try.func31, Try.ntmps31
  go_wp2
  go_ret
  exact ⟨rfl, rfl⟩
end Go.Proofs.Ytbbiohcmfhdmnaa

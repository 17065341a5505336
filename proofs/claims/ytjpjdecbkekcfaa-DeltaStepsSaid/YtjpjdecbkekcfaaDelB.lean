/- Package delta: Bits, Write. -/
import Derived.Test.YtjpjdecbkekcfaaDelA
namespace Go.Proofs.Ytjpjdecbkekcfaa
open Go.RowKit

theorem dbits1 (c : Nat) (n m x : Int) (w : World) (h : Blk w c [.int .i64 n] 3) (hw : IntKind.i64.wrap (n + m) = n + m) :
    Calls Try.prog 70 #[.int .i64 x, .int .i64 m, .pointer (some ⟨c, 0, none⟩)] w fun e w' => e = .returned (.tuple #[]) ∧ Blk w' c [.int .i64 (n + m)] 3 ∧ Keep (fun j => j = c) w w' := by
  have c0 := h.cell (i := 0) rfl
  have f0 := h.free 0
  have HB := Lib.hid (h.set 0 (.int .i64 (n + m)))
  have HK := Lib.hid (keep_setCell (S := fun j => j = c) (Keep.refl _ w) (a := ⟨c, 0, none⟩) rfl (.int .i64 (n + m)))
  clear h
  go_enter Try.func70, Try.ntmps70
  go_wp2
  go_end0
  exact ⟨rfl, HB.out, HK.out⟩

theorem dbits_any (v : Value) (l : List Int) (w : World) (hv : RInts w v l) (hm : mayD l = true) :
    Calls Try.prog 50 #[v] w fun e w' => e = .returned (.tuple #[.int .i64 ((bitsD l).length : Int), .int .i64 0]) ∧ Below w.heap.size w w' := by
  have hmf' := hmf
  have HM := Lib.hid (dmay_any v l w hv)
  rw [hm] at HM
  have hal := below_alloc w (.cells #[.int .i64 0] 3 (0, 0))
  have HST := Lib.hid (steps_any v l 70 #[.pointer (some ⟨w.heap.size, 0, none⟩)] (fun A w' => Blk w' w.heap.size [.int .i64 (A.length : Int)] 3 ∧ Below w.heap.size w w') (w.alloc (.cells #[.int .i64 0] 3 (0, 0))) hm
    ⟨Blk.new w [.int .i64 0] 3, hal⟩ (fun A w' h => hv.below h.2) (fun args w => enter_of Try.func70 (by kernel_rfl) rfl args w)
    (fun A x n w' h hA hx hn => by
      refine (dbits1 w.heap.size (A.length : Int) (n : Int) (x : Int) w' h.1 (IntWalk.i64_in _ (by omega))).mono ?_
      rintro e w2 ⟨rfl, h1, h2⟩
      refine ⟨rfl, ?_, h.2.trans (h2.below h.2.size (fun j hj e => by have : j = w.heap.size := e; omega))⟩
      rw [List.length_append, fieldL_len]
      exact h1))
  obtain ⟨a, cap, rfl, hc1, hc2⟩ := hv.shape
  obtain ⟨N, hN⟩ : ∃ z, (bitsD l).length = z := ⟨_, rfl⟩
  rw [hN] at HST ⊢
  clear hv hm hal hN
  go_enter Try.func50, Try.ntmps50
  go_wp2_with fail
  refine HM.out.mono ?_
  rintro e w1 ⟨rfl, rfl⟩
  clear HM
  go_wp2_with fail
  refine HST.out.mono ?_
  rintro e w2 ⟨rfl, h1, h2⟩
  have c0 := h1.cell (i := 0) rfl
  have HB := Lib.hid h2
  clear HST h1 h2
  go_wp2
  go_ret2
  exact ⟨rfl, HB.out⟩
theorem dbits_no (v : Value) (l : List Int) (w : World) (hv : RInts w v l) (hm : mayD l = false) :
    Calls Try.prog 50 #[v] w fun e w' => e = .returned (.tuple #[.int .i64 0, .int .i64 1]) ∧ w = w' := by
  have HM := Lib.hid (dmay_any v l w hv)
  rw [hm] at HM
  obtain ⟨a, cap, rfl, hc1, hc2⟩ := hv.shape
  clear hv hm
  go_enter Try.func50, Try.ntmps50
  go_wp2_with fail
  refine HM.out.mono ?_
  rintro e w1 ⟨rfl, rfl⟩
  go_wp2
  go_ret2
  exact ⟨rfl, rfl⟩

theorem put_small {all : List Bool} {x n : Nat} (hx : x < 2 ^ n) (hn : n ≤ 32) : putE x (n : Int) = 0 ∧ putA all x (n : Int) = all ++ fieldL x n := by
  have hf : fitsB x (n : Int) = true := by
    unfold fitsB
    simp only [Bool.and_eq_true, decide_eq_true_eq]
    refine ⟨by omega, by omega, ?_⟩
    rw [Int.toNat_natCast]
    exact hx
  unfold putE putA
  rw [hf, if_pos rfl, if_pos rfl, Int.toNat_natCast]
  exact ⟨rfl, rfl⟩
theorem conv_u32 (x : Nat) (hx : x < 4294967296) : IntKind.u32.wrap (x : Int) = (x : Int) := IntWalk.u32_in _ (by omega)
theorem dwrite1 (G : Nat → Prop) (B b c : Nat) (all : List Bool) (k x n : Nat) (w : World) (h : WLive G B b all k w) (hl : all.length ≤ 900000000) (hc : w.cell? ⟨c, 0, none⟩ = some (.pointer (some ⟨b, 0, none⟩))) (hx : x < 2 ^ n) (hn : n ≤ 5) :
    Calls Try.prog 66 #[.int .i64 (x : Int), .int .i64 (n : Int), .pointer (some ⟨c, 0, none⟩)] w fun e w' => e = .returned (.tuple #[]) ∧ WActs G B b (all ++ fieldL x n) k w w' := by
  have hx2 : x < 32 := Nat.lt_of_lt_of_le hx (Nat.le_trans (Nat.pow_le_pow_right (by decide) hn) (by decide))
  have HP := Lib.hid (lwput_any G B b all k x (n : Int) w h hl (by omega))
  rw [(put_small (all := all) hx (by omega)).1, (put_small (all := all) hx (by omega)).2] at HP
  have hcv := conv_u32 x (by omega)
  clear h hx hn
  go_enter Try.func66, Try.ntmps66
  go_wp2_with fail
  refine HP.out.mono ?_
  rintro e w1 ⟨rfl, h1⟩
  have H1 := Lib.hid h1
  clear HP h1
  go_wp2
  go_end0
  exact ⟨rfl, H1.out⟩

set_option maxHeartbeats 1000000 in
theorem dwrite_any (G : Nat → Prop) (B b : Nat) (all : List Bool) (k : Nat) (v : Value) (l : List Int) (w : World) (h : WLive G B b all k w) (hl : all.length ≤ 800000000) (hv : RInts w v l) (hz : ∀ g, v.ownBlock = some g → ¬ Zone B G g) (hm : mayD l = true) :
    Calls Try.prog 42 #[.pointer (some ⟨b, 0, none⟩), v] w fun e w' => e = .returned (.int .i64 0) ∧ WActs G B b (all ++ bitsD l) k w w' := by
  have hmf' := hmf
  have hal := below_alloc w (.cells #[.pointer (some ⟨b, 0, none⟩)] 47 (0, 0))
  have hbx := Blk.new w [.pointer (some ⟨b, 0, none⟩)] 47
  have HM := Lib.hid (dmay_any v l _ (hv.below hal))
  rw [hm] at HM
  have hw0 : WLive (fun j => G j ∨ j = w.heap.size) B b all k (w.alloc (.cells #[.pointer (some ⟨b, 0, none⟩)] 47 (0, 0))) := h.more hal (fun j hj => hj.imp id (fun e => by simp; omega))
  have HST := Lib.hid (steps_any v l 66 #[.pointer (some ⟨w.heap.size, 0, none⟩)]
    (fun A w' => WLive (fun j => G j ∨ j = w.heap.size) B b (all ++ A) k w' ∧ Keep (Zone B (fun j => G j ∨ j = w.heap.size)) (w.alloc (.cells #[.pointer (some ⟨b, 0, none⟩)] 47 (0, 0))) w') _ hm
    ⟨by rw [List.append_nil]; exact hw0, Keep.refl _ _⟩ (fun A w' h => (hv.below hal).keep h.2 (fun g hg hzg => hz g hg ⟨hzg.1, fun hG => hzg.2 (.inl hG)⟩)) (fun args w => enter_of Try.func66 (by kernel_rfl) rfl args w)
    (fun A x n w' h hA hx hn => by
      have hbc : w'.cell? ⟨w.heap.size, 0, none⟩ = some (.pointer (some ⟨b, 0, none⟩)) := (hbx.keep h.2 (fun hzg => hzg.2 (.inr rfl))).cell (i := 0) rfl
      refine (dwrite1 _ B b w.heap.size (all ++ A) k x n w' h.1 (by rw [List.length_append]; omega) hbc hx hn).mono ?_
      rintro e w2 ⟨rfl, h1, h2⟩
      rw [List.append_assoc] at h1
      exact ⟨rfl, h1, h.2.trans h2⟩))
  have HFIN := Lib.hid (fun w' (h1 : WLive (fun j => G j ∨ j = w.heap.size) B b (all ++ bitsD l) k w') (h2 : Keep (Zone B (fun j => G j ∨ j = w.heap.size)) (w.alloc (.cells #[.pointer (some ⟨b, 0, none⟩)] 47 (0, 0))) w') =>
    show WActs G B b (all ++ bitsD l) k w w' from ⟨h1.less (fun j hj => .inl hj), (Keep.of_below hal _).trans (h2.mono (fun j _ hj => ⟨hj.1, fun hG => hj.2 (.inl hG)⟩))⟩)
  obtain ⟨a, cap, rfl, hc1, hc2⟩ := hv.shape
  have c0 := hbx.cell (i := 0) rfl
  clear hv hm hal hbx hw0 h hz
  go_enter Try.func42, Try.ntmps42
  go_wp2_with fail
  refine HM.out.mono ?_
  rintro e w1 ⟨rfl, rfl⟩
  clear HM
  go_wp2_with fail
  refine HST.out.mono ?_
  rintro e w2 ⟨rfl, h1, h2⟩
  have H := Lib.hid (HFIN.out w2 h1 h2)
  clear HST h1 h2 HFIN c0
  go_wp2
  go_ret
  exact ⟨rfl, H.out⟩
theorem dwrite_no (b : Nat) (v : Value) (l : List Int) (w : World) (hv : RInts w v l) (hm : mayD l = false) :
    Calls Try.prog 42 #[.pointer (some ⟨b, 0, none⟩), v] w fun e w' => e = .returned (.int .i64 1) ∧ Below w.heap.size w w' := by
  have hal := below_alloc w (.cells #[.pointer (some ⟨b, 0, none⟩)] 47 (0, 0))
  have HM := Lib.hid (dmay_any v l _ (hv.below hal))
  rw [hm] at HM
  have HAL := Lib.hid hal
  obtain ⟨a, cap, rfl, hc1, hc2⟩ := hv.shape
  clear hv hm hal
  go_enter Try.func42, Try.ntmps42
  go_wp2_with fail
  refine HM.out.mono ?_
  rintro e w1 ⟨rfl, rfl⟩
  go_wp2
  go_ret
  exact ⟨rfl, HAL.out⟩
theorem dwrite_nil (v : Value) (w : World) :
    Calls Try.prog 42 #[.pointer none, v] w fun e w' => e = .returned (.int .i64 7) ∧ Below w.heap.size w w' := by
  have HAL := Lib.hid (below_alloc w (.cells #[.pointer none] 47 (0, 0)))
  go_enter Try.func42, Try.ntmps42
  go_wp2
  go_ret
  exact ⟨rfl, HAL.out⟩
end Go.Proofs.Ytjpjdecbkekcfaa

/- Package bits: BitsReads and BitsNil. -/
import Derived.Test.YtbbiohcmfhdmnaaBitK
import Derived.Test.YtbbiohcmfhdmnaaBitG
namespace Go.Proofs.Ytbbiohcmfhdmnaa
open Go.RowKit

theorem step_any (br : Nat) (S : List UInt8) (s : ByteArray) (d at_ : Nat) (xk xn : Int) (xv : Nat) (xs : ByteArray) (w : World) (h : ReaderAt w br S d at_) (hs : s = stx (bitsL S)) (hl : S.length + xs.size ≤ 1000) :
    Calls Try.prog 33 #[.agg #[.string s, .int .i64 (at_ : Int), .int .i64 (d : Int)], .pointer (some ⟨br, 0, none⟩), .agg #[.int .i64 xk, .int .i64 xn, .int .u32 (xv : Int), .string xs]] w
      fun e w' => ∃ S2 d2 a2, Stepped br S2 d2 a2 w e w' ∧ S2.length ≤ S.length + xs.size := by
  by_cases h1 : xk = 1
  · refine (step_more br S s d at_ ⟨xk, xn, xv, xs⟩ w h hs hl h1).mono ?_
    intro e w' hst
    exact ⟨_, _, _, hst, by rw [List.length_append]; exact Nat.le_refl _⟩
  · by_cases h2 : xk = 2
    · by_cases hn : 8 * (d : Int) ≤ xn ∧ xn ≤ 8 * (S.length : Int)
      · refine (step_seek_ok br S s d at_ ⟨xk, xn, xv, xs⟩ w h hs (by omega) h2 hn).mono ?_
        intro e w' hst
        exact ⟨_, _, _, hst, by omega⟩
      · refine (step_seek_no br S s d at_ ⟨xk, xn, xv, xs⟩ w h hs (by omega) h2 (by dsimp only; omega)).mono ?_
        intro e w' hst
        exact ⟨_, _, _, hst, by omega⟩
    · by_cases h3 : xk = 3
      · refine (step_align br S s d at_ ⟨xk, xn, xv, xs⟩ w h hs (by omega) h3).mono ?_
        intro e w' hst
        exact ⟨_, _, _, hst, by omega⟩
      · by_cases h4 : xk = 4
        · refine (step_drop br S s d at_ ⟨xk, xn, xv, xs⟩ w h hs (by omega) h4).mono ?_
          intro e w' hst
          exact ⟨_, _, _, hst, by omega⟩
        · by_cases hn : xn < 0 ∨ 32 < xn
          · refine (step_get_arg br S s d at_ ⟨xk, xn, xv, xs⟩ w h hs (by omega) h1 h2 h3 h4 hn).mono ?_
            intro e w' hst
            exact ⟨_, _, _, hst, by omega⟩
          · by_cases hn2 : 8 * (S.length : Int) < (at_ : Int) + xn
            · refine (step_get_short br S s d at_ ⟨xk, xn, xv, xs⟩ w h hs (by omega) h1 h2 h3 h4 (by dsimp only; omega)).mono ?_
              intro e w' hst
              exact ⟨_, _, _, hst, by omega⟩
            · refine (step_get_ok br S s d at_ ⟨xk, xn, xv, xs⟩ w h hs (by omega) h1 h2 h3 h4 (by dsimp only; omega)).mono ?_
              intro e w' hst
              exact ⟨_, _, _, hst, by omega⟩

set_option maxRecDepth 100000 in
set_option maxHeartbeats 4000000 in
theorem lawBitsReads {first : ByteArray} {v : Value} {L : List OpB} {w : World} (_hf : first.size ≤ maxLen) (hv : RS w v L encO 4 goodO) :
    Calls Try.prog 6 #[.string first, v] w fun e w' => e = .returned (.bool true) ∧ Below w.heap.size w w' := by
  have HV := Lib.hid hv
  obtain ⟨a, cap, rfl, hc1, hc2⟩ := hv.shape
  clear hv
  go_enter Try.func6, Try.ntmps6
  go_wp2_with fail
  refine (large_any _ L _ HV.out).mono ?_
  rintro e w1 ⟨r, rfl, hsm, hb1⟩
  cases r with
  | true =>
    clear hsm
    go_wp2_with fail
    refine (five_any _).mono ?_
    rintro e w2 ⟨rfl, hb⟩
    have hb := below_two hb1 hb
    go_wp2
    go_ret
    exact ⟨rfl, hb⟩
  | false =>
    have HSM := Lib.hid (hsm rfl)
    have hlen : L.length ≤ 60 := (hsm rfl).1
    clear hsm
    by_cases hz : first.size ≤ 100
    · have d1 : decide ((100 : Int) < (first.size : Int)) = false := decide_eq_false (by omega)
      obtain ⟨S0, hS0⟩ : ∃ z, first.data.toList = z := ⟨_, rfl⟩
      have HFS := Lib.hid (show first = str S0 by rw [← hS0]; exact str_of first)
      have HSL := Lib.hid (show S0.length ≤ 100 by rw [← hS0]; exact hz)
      have HS0 := Lib.hid hS0
      clear hS0
      go_wp2_with fail
      refine (rnew_any first _ (by omega)).mono ?_
      rintro e w2 ⟨br, rfl, hbr, hr2, hb2⟩
      rw [HS0.out] at hr2
      have HBR := Lib.hid (show w.heap.size ≤ br by have := hb1.size; omega)
      have hbel2 := below_two hb1 hb2
      have HR2 := Lib.hid hr2
      have HBI := Lib.hid (refbits_any first S0 w2 HFS.out (by have := HSL.out; omega))
      obtain ⟨s0, hs0⟩ : ∃ z, stx (bitsL S0) = z := ⟨_, rfl⟩
      rw [hs0] at HBI
      have HSS := Lib.hid hs0.symm
      clear hbr hr2 hb1 hb2 hs0 d1
      go_wp2_with fail
      refine HBI.out.mono ?_
      rintro e w3 ⟨rfl, rfl⟩
      clear HBI
      have HB6 := Lib.hid (Blk.new w2 [.string s0, .int .i64 ((0 : Nat) : Int), .int .i64 ((0 : Nat) : Int)] 44)
      have hal2 := below_alloc w2 (.cells #[.string s0, .int .i64 ((0 : Nat) : Int), .int .i64 ((0 : Nat) : Int)] 44 (0, 0))
      have HR3 := Lib.hid (HR2.out.below hal2)
      have hbel3 := hbel2.trans (below_of hal2 hbel2.size)
      have HNE := Lib.hid (show br < w2.heap.size ∧ w.heap.size ≤ w2.heap.size from ⟨HR2.out.box.lt, hbel2.size⟩)
      have HBEL3 := Lib.hid hbel3
      clear hal2 HR2 hbel2 hbel3
      go_wp2
      obtain ⟨b6, hb6⟩ : ∃ z, w2.heap.size = z := ⟨_, rfl⟩
      rw [hb6] at HB6 HNE ⊢
      clear hb6
      go_loopw [8, 9, 10, 26] (fun p q u i wr => ∃ (k : Nat) (S : List UInt8) (d at_ : Nat) (s : ByteArray), k ≤ L.length ∧ i = .int .i64 k ∧ Hid (Blk wr b6 [.string s, .int .i64 (at_ : Int), .int .i64 (d : Int)] 44) ∧ Hid (s = stx (bitsL S)) ∧ Hid (ReaderAt wr br S d at_) ∧ Hid (S.length ≤ 100 + bytesO (L.take k)) ∧ Hid (Below w.heap.size w wr)) (fun _ _ _ i _ => L.length - (intOf i).toNat)
      case atStart => exact ⟨0, S0, 0, 0, s0, Nat.zero_le _, rfl, HB6.out, HSS.out, HR3.out, by have := HSL.out; show _ ≤ _; omega, HBEL3.out⟩
      case round =>
        obtain ⟨k, S, d, at_, s, hk, rfl, HBX, HS, HR, HL, HBEL⟩ := hrel
        by_cases hlt : k < L.length
        · obtain ⟨b2, off2, x, rfl, hbb2, hx, hgx, hcx⟩ := (HV.out.below HBEL.out).at hlt
          have HX := Lib.hid (bytesO_take hx)
          have HXS := Lib.hid (HSM.out.2.1 x (List.mem_of_getElem? hx))
          have HTOT := Lib.hid (show bytesO (L.take (k + 1)) ≤ 200 by
            have h1 := HSM.out.2.2
            have h2 : bytesO L = bytesO (L.take (k + 1)) + bytesO (L.drop (k + 1)) := by
              conv => lhs; rw [← List.take_append_drop (k + 1) L]
              unfold bytesO
              rw [List.map_append, List.sum_append]
            omega)
          obtain ⟨xk, xn, xv, xs⟩ := x
          have hc0 : wr.cell? ⟨b2, off2 + k * 4, none⟩ = some (.int .i64 xk) := hcx 0 _ rfl
          have hc1 : wr.cell? ⟨b2, off2 + k * 4 + 1, none⟩ = some (.int .i64 xn) := hcx 1 _ rfl
          have hc2 : wr.cell? ⟨b2, off2 + k * 4 + 2, none⟩ = some (.int .u32 (xv : Int)) := hcx 2 _ rfl
          have hc3 : wr.cell? ⟨b2, off2 + k * 4 + 3, none⟩ = some (.string xs) := hcx 3 _ rfl
          have g0 := HBX.out.cell (i := 0) (x := .string s) rfl
          have g1 := HBX.out.cell (i := 1) (x := .int .i64 (at_ : Int)) rfl
          have g2 := HBX.out.cell (i := 2) (x := .int .i64 (d : Int)) rfl
          have g3 := HBX.out.lt
          dsimp only at HX HXS
          have hal := below_alloc wr (Obj.cells #[.int .i64 xk, .int .i64 xn, .int .u32 (xv : Int), .string xs] 29)
          have HAL := Lib.hid hal
          have HST := Lib.hid (step_any br S s d at_ xk xn xv xs _ (HR.out.below hal) HS.out (by have := HL.out; have := HX.out; have := HTOT.out; omega))
          clear hx hcx hgx hal
          go_wp2_with fail
          refine HST.out.mono ?_
          rintro e w4 ⟨S2, d2, a2, ⟨s2, rfl, hs2, hd⟩, hl2⟩
          have HBX4 := Lib.hid ((HBX.out.below HAL.out).keep hd.2 (fun e => by have h : b6 = br := e; have := HNE.out; omega))
          have HR4 := Lib.hid hd.1
          have HBEL4 := Lib.hid ((HBEL.out.trans (below_of HAL.out HBEL.out.size)).trans (hd.2.below (B := w.heap.size) (by have := HBEL.out.size; simp; omega) (fun j hj e => by have h : j = br := e; have := HBR.out; omega)))
          have HL4 := Lib.hid (show S2.length ≤ 100 + bytesO (L.take (k + 1)) by have := HL.out; have := HX.out; omega)
          have HS2 := Lib.hid hs2
          have hal4 := below_alloc w4 (.cells #[.string s2, .int .i64 (a2 : Int), .int .i64 (d2 : Int)] 44 (0, 0))
          have HN9 := Lib.hid (Blk.new w4 [.string s2, .int .i64 (a2 : Int), .int .i64 (d2 : Int)] 44)
          have HFIT := Lib.hid (fit_any br S2 s2 d2 a2 _ (HR4.out.below hal4) HS2.out (by have := HL4.out; have := HTOT.out; omega))
          have HAL4 := Lib.hid hal4
          have hn9 : w4.heap.size < (w4.alloc (.cells #[.string s2, .int .i64 (a2 : Int), .int .i64 (d2 : Int)] 44 (0, 0))).heap.size := by simp
          clear HST hs2 hd hl2 hal4 HBX HR HBEL HL HX hc0 hc1 hc2 hc3 g0 g1 g2 g3 hn9
          go_wp2_with fail
          refine HFIT.out.mono ?_
          rintro e w5 ⟨rfl, hb5⟩
          have C9 := HN9.out.below hb5
          have C6 := (HBX4.out.below HAL4.out).below hb5
          have c90 := C9.cell (i := 0) (x := .string s2) rfl
          have c91 := C9.cell (i := 1) (x := .int .i64 (a2 : Int)) rfl
          have c92 := C9.cell (i := 2) (x := .int .i64 (d2 : Int)) rfl
          have c60 := C6.cell (i := 0) rfl
          have c61 := C6.cell (i := 1) rfl
          have c62 := C6.cell (i := 2) rfl
          have f60 := C6.free 0
          have f61 := C6.free 1
          have f62 := C6.free 2
          have HR5 := Lib.hid ((HR4.out.below HAL4.out).below hb5)
          have HBEL5 := Lib.hid ((HBEL4.out.trans (below_of HAL4.out HBEL4.out.size)).trans (below_of hb5 (by have := HBEL4.out.size; simp; omega)))
          have HC6 := Lib.hid C6
          clear hb5 C9 C6 HFIT HBX4 HR4 HBEL4 HN9 HAL4 HAL
          go_wp2
          go_roundw
          case rel =>
            have k3 : Keep (fun j => j = b6) w5 (((w5.setCell ⟨b6, 0, none⟩ (.string s2)).setCell ⟨b6, 1, none⟩ (.int .i64 (a2 : Int))).setCell ⟨b6, 2, none⟩ (.int .i64 (d2 : Int))) :=
              keep_setCell (S := fun j => j = b6) (keep_setCell (S := fun j => j = b6) (keep_setCell (S := fun j => j = b6) (Keep.refl _ _) rfl _) rfl _) rfl _
            refine ⟨k + 1, S2, d2, a2, s2, by omega, by go_num, ?_, HS2.out, ?_, HL4.out, ?_⟩
            · exact ((HC6.out.set 0 (.string s2)).set 1 (.int .i64 (a2 : Int))).set 2 (.int .i64 (d2 : Int))
            · exact HR5.out.keep k3 (fun e => by have h : br = b6 := e; have := HNE.out; omega)
            · exact HBEL5.out.trans (k3.below (B := w.heap.size) HBEL5.out.size (fun j hj e => by have h : j = b6 := e; have := HNE.out; omega))
          case measure => simp [intOf]; omega
        · obtain rfl : k = L.length := by omega
          have g0 := HBX.out.cell (i := 0) (x := .string s) rfl
          have g1 := HBX.out.cell (i := 1) (x := .int .i64 (at_ : Int)) rfl
          have g2 := HBX.out.cell (i := 2) (x := .int .i64 (d : Int)) rfl
          have HFIT := Lib.hid (fit_any br S s d at_ _ HR.out HS.out (by have h1 := HL.out; rw [List.take_length] at h1; have := HSM.out.2.2; omega))
          go_wp2_with fail
          refine HFIT.out.mono ?_
          rintro e w5 ⟨rfl, hb5⟩
          have HB5 := Lib.hid (HBEL.out.trans (below_of hb5 HBEL.out.size))
          clear hb5 HFIT
          go_wp2_with fail
          refine (five_any _).mono ?_
          rintro e w7 ⟨rfl, hb7⟩
          have hbel7 := HB5.out.trans (below_of hb7 HB5.out.size)
          clear hb7
          go_wp2
          go_ret
          exact ⟨rfl, hbel7⟩
    · have d1 : decide ((100 : Int) < (first.size : Int)) = true := decide_eq_true (by omega)
      go_wp2_with fail
      refine (five_any _).mono ?_
      rintro e w2 ⟨rfl, hb⟩
      have hb := below_two hb1 hb
      go_wp2
      go_ret
      exact ⟨rfl, hb⟩

set_option maxRecDepth 100000 in
set_option maxHeartbeats 4000000 in
theorem lawBitsNil {x : OpB} {w : World} (_hg : goodO x) :
    Calls Try.prog 7 #[.agg (encO x).toArray] w fun e w' => e = .returned (.bool true) ∧ Below w.heap.size w w' := by
  obtain ⟨xk, xn, xv, xs⟩ := x
  unfold encO
  dsimp only
  have hA : ∀ w', Below (w.alloc (.cells #[.int .i64 xk, .int .i64 xn, .int .u32 (xv : Int), .string xs] 29 (0, 0))).heap.size (w.alloc (.cells #[.int .i64 xk, .int .i64 xn, .int .u32 (xv : Int), .string xs] 29 (0, 0))) w' → Below w.heap.size w w' := fun w' h => below_two (below_alloc w _) h
  have HA := Lib.hid hA
  clear hA
  go_enter Try.func7, Try.ntmps7
  go_wp2_with fail
  refine (wpad_nil _).mono ?_
  rintro e w1 ⟨rfl, rfl⟩
  go_wp2_with fail
  refine (ralign_nil _).mono ?_
  rintro e w1 ⟨rfl, rfl⟩
  go_wp2_with fail
  refine (rget_nil _ _).mono ?_
  rintro e w1 ⟨rfl, rfl⟩
  go_wp2_with fail
  refine (wput_nil _ _ _).mono ?_
  rintro e w1 ⟨rfl, rfl⟩
  go_wp2_with fail
  refine (wlen_nil _).mono ?_
  rintro e w1 ⟨rfl, rfl⟩
  go_wp2_with fail
  refine (wheld_nil _).mono ?_
  rintro e w1 ⟨rfl, rfl⟩
  go_wp2_with fail
  refine (wtake_nil _).mono ?_
  rintro e w1 ⟨rfl, rfl⟩
  rw [show str [] = ⟨#[]⟩ from rfl]
  go_wp2_with fail
  refine (rmore_nil _ _).mono ?_
  rintro e w1 ⟨rfl, rfl⟩
  go_wp2_with fail
  refine (rseek_nil _ _).mono ?_
  rintro e w1 ⟨rfl, rfl⟩
  go_wp2_with fail
  refine (rat_nil _).mono ?_
  rintro e w1 ⟨rfl, rfl⟩
  go_wp2_with fail
  refine (rleft_nil _).mono ?_
  rintro e w1 ⟨rfl, rfl⟩
  go_wp2_with fail
  refine (rdrop_nil _).mono ?_
  rintro e w1 ⟨rfl, rfl⟩
  go_wp2_with fail
  refine (rheld_nil _).mono ?_
  rintro e w1 ⟨rfl, rfl⟩
  go_wp2_with fail
  refine (five_any _).mono ?_
  rintro e w1 ⟨rfl, hb⟩
  have hb2 := HA.out _ hb
  clear hb
  go_wp2
  go_ret
  exact ⟨rfl, hb2⟩
end Go.Proofs.Ytbbiohcmfhdmnaa

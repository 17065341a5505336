/- Package used: Read, Bits. -/
import Derived.Test.YtbbiohcmfhdmnaaUsdG
namespace Go.Proofs.Ytbbiohcmfhdmnaa
open Go.RowKit

def ReadQ (br : Nat) (S : List UInt8) (d at_ : Nat) (w : World) (e : Ending) (w' : World) : Prop :=
  e = .returned (.tuple #[.string (str (refRead (restB S at_)).1), .int .i64 (refRead (restB S at_)).2.2]) ∧
    RDid br S d (at_ + (refRead (restB S at_)).2.1) w w'

theorem refRead_err {all : List Bool} (h : (refRead all).2.2 ≠ 0) : (refRead all).2.1 = 0 := by
  revert h
  unfold refRead
  split
  · exact fun _ => rfl
  · split
    · exact fun _ => rfl
    · split
      · exact fun _ => rfl
      · exact fun h => absurd rfl h

set_option maxHeartbeats 1000000 in
set_option maxRecDepth 100000 in
theorem Read_any (br : Nat) (S : List UInt8) (d at_ : Nat) (w : World) (h : ReaderAt w br S d at_) :
    Calls Try.prog 39 #[.pointer (some ⟨br, 0, none⟩)] w (ReadQ br S d at_ w) := by
  have HA := Lib.hid (rat_any br S d at_ w h)
  have H := Lib.hid h
  have HR := Lib.hid (fun w h => read_any br S d at_ w h)
  obtain ⟨er, her⟩ : ∃ z, (refRead (restB S at_)).2.2 = z := ⟨_, rfl⟩
  have HER := Lib.hid her
  clear h her
  go_enter Try.func39, Try.ntmps39
  go_wp2_with fail
  refine HA.out.mono ?_
  rintro e w1 ⟨rfl, rfl⟩
  clear HA
  go_wp2_with fail
  refine (HR.out _ H.out).mono ?_
  rintro e w2 ⟨rfl, hp⟩
  rw [HER.out] at hp ⊢
  obtain ⟨a', hd2, hle, he0⟩ := hp
  have HD2 := Lib.hid hd2
  clear hd2 HR
  by_cases hz : er = 0
  · have HE := Lib.hid (he0 hz)
    have HZ := Lib.hid hz
    clear he0
    subst hz
    go_wp2
    go_ret2
    refine ⟨by rw [HER.out]; rfl, ?_⟩
    rw [← HE.out]; exact HD2.out
  · have HS := Lib.hid (rseek_ok br S d a' at_ w2 HD2.out.1 H.out.lo H.out.hi)
    have HE := Lib.hid (refRead_err (all := restB S at_) (by rw [HER.out]; exact hz))
    clear he0
    go_wp2_with fail
    refine HS.out.mono ?_
    rintro e w3 ⟨rfl, hd3⟩
    have HD3 := Lib.hid (HD2.out.trans hd3)
    clear HS hd3
    go_wp2
    go_ret2
    refine ⟨by rw [HER.out]; rfl, ?_⟩
    rw [HE.out]; exact HD3.out

set_option maxRecDepth 100000 in
theorem read_nil (w : World) : Calls Try.prog 56 #[.pointer none] w fun e w' => e = .returned (.tuple #[.string ⟨#[]⟩, .int .i64 7]) ∧ w = w' := by
  have HG := Lib.hid (fun w => rget_nil 16 w)
  go_enter Try.func56, Try.ntmps56
  go_wp2_with fail
  refine (HG.out _).mono ?_
  rintro e w1 ⟨rfl, rfl⟩
  clear HG
  go_wp2
  go_ret2
  exact ⟨rfl, rfl⟩

set_option maxRecDepth 100000 in
theorem Read_nil (w : World) : Calls Try.prog 39 #[.pointer none] w fun e w' => e = .returned (.tuple #[.string ⟨#[]⟩, .int .i64 7]) ∧ w = w' := by
  have HA := Lib.hid (fun w => rat_nil w)
  have HR := Lib.hid (fun w => read_nil w)
  have HS := Lib.hid (fun w => rseek_nil 0 w)
  go_enter Try.func39, Try.ntmps39
  go_wp2_with fail
  refine (HA.out _).mono ?_
  rintro e w1 ⟨rfl, rfl⟩
  clear HA
  go_wp2_with fail
  refine (HR.out _).mono ?_
  rintro e w1 ⟨rfl, rfl⟩
  clear HR
  go_wp2_with fail
  refine (HS.out _).mono ?_
  rintro e w1 ⟨rfl, rfl⟩
  clear HS
  go_wp2
  go_ret2
  exact ⟨rfl, rfl⟩

def countR (f : Nat → Bool) (j : Nat) : Nat := ((List.range j).filter (someR f)).length
theorem countR_succ (f : Nat → Bool) (j : Nat) : countR f (j + 1) = countR f j + (if someR f j then 1 else 0) := by
  unfold countR
  rw [List.range_succ, List.filter_append, List.length_append]
  congr 1
  cases h : someR f j <;> simp [List.filter_cons, h]
theorem countR_le (f : Nat → Bool) (j : Nat) : countR f j ≤ j := Nat.le_trans (List.length_filter_le _ _) (by simp)

set_option maxRecDepth 100000 in
theorem bits_no (s : ByteArray) (S : List UInt8) (w : World) (hs : s = str S) (hsl : S.length ≤ 1000000) (his : isL S = false) :
    Calls Try.prog 49 #[.string s] w fun e w' => e = .returned (.tuple #[.int .i64 0, .int .i64 1]) ∧ Below w.heap.size w w' := by
  have HI := Lib.hid (is_any s S w hs hsl)
  rw [his] at HI
  clear hs hsl his
  go_enter Try.func49, Try.ntmps49
  go_wp2_with fail
  refine HI.out.mono ?_
  rintro e w1 ⟨rfl, hd1⟩
  have HB1 := Lib.hid (below_drawn hd1)
  clear HI hd1
  go_wp2
  go_ret2
  exact ⟨rfl, HB1.out⟩

set_option maxHeartbeats 1000000 in
set_option maxRecDepth 100000 in
theorem bits_yes (s : ByteArray) (S : List UInt8) (w : World) (hs : s = str S) (hsl : S.length ≤ 1000000) (his : isL S = true) :
    Calls Try.prog 49 #[.string s] w fun e w' => e = .returned (.tuple #[.int .i64 ((usedBits (thereL S)).length : Nat), .int .i64 0]) ∧ Below w.heap.size w w' := by
  have HI := Lib.hid (is_any s S w hs hsl)
  rw [his] at HI
  have HRO := Lib.hid (fun w => rows_any s S w hs hsl)
  obtain ⟨f, hf⟩ : ∃ z, thereL S = z := ⟨_, rfl⟩
  rw [hf] at HRO ⊢
  obtain ⟨A, hA⟩ : ∃ z, (rowsA f).toArray = z := ⟨_, rfl⟩
  have HAT := Lib.hid (show ∀ i, i < 16 → A[i]? = some (.int .u32 (rowV f i : Nat)) from fun i hi => by rw [← hA]; simpa using rowsA_at f hi)
  rw [hA] at HRO
  clear hs hf hA his
  go_enter Try.func49, Try.ntmps49
  go_wp2_with fail
  refine HI.out.mono ?_
  rintro e w1 ⟨rfl, hd1⟩
  have HB1 := Lib.hid (below_drawn hd1)
  clear HI hd1
  go_wp2_with fail
  refine (HRO.out _).mono ?_
  rintro e w2 ⟨rfl, hb2⟩
  have HB2 := Lib.hid (below_two HB1.out hb2)
  clear HRO hb2 HB1
  go_wp2
  go_loop [4, 6, 12] (fun v x i => ∃ (j : Nat), j ≤ 16 ∧ i = .int .i64 j ∧ v = .int .i64 (16 + 16 * countR f j : Nat)) (fun _ _ i => 16 - (intOf i).toNat)
  case atStart => exact ⟨0, by omega, rfl, rfl⟩
  case round =>
    obtain ⟨j, hj, rfl, rfl⟩ := hrel
    by_cases hlt : j < 16
    · have hix := fun w => run_index_arr (P := Try.prog) w 77 27 16 A .i64 j _ Try.underlying77 u32_flat u32info hlt (HAT.out j hlt)
      have hzr := rowV_zero f j
      have HC := Lib.hid (countR_succ f j)
      have hcl := countR_le f j
      obtain ⟨C, hC⟩ : ∃ z, countR f j = z := ⟨_, rfl⟩
      obtain ⟨R, hR⟩ : ∃ z, rowV f j = z := ⟨_, rfl⟩
      rw [hR] at hix hzr
      rw [hC] at HC hcl ⊢
      clear hC hR
      cases hsr : someR f j with
      | true =>
        have hne : ((R : Int) != 0) = true := by
          rw [hsr] at hzr
          rw [bne_iff_ne]
          intro e
          have := hzr.1 (by omega)
          cases this
        have HC2 := Lib.hid (show countR f (j + 1) = C + 1 by rw [HC.out, hsr]; rfl)
        clear hsr hzr
        go_wp2
        go_round
        case rel => exact ⟨j + 1, by omega, by go_num, by rw [HC2.out] <;> go_num⟩
        case measure => simp [intOf]; omega
      | false =>
        have hne : ((R : Int) != 0) = false := by
          have : R = 0 := hzr.2 hsr
          subst this
          rfl
        have HC2 := Lib.hid (show countR f (j + 1) = C by rw [HC.out, hsr]; rfl)
        clear hsr hzr
        go_wp2
        go_round
        case rel => exact ⟨j + 1, by omega, by go_num, by rw [HC2.out]⟩
        case measure => simp [intOf]; omega
    · obtain rfl : j = 16 := by omega
      clear hj hlt
      have HL := Lib.hid (show (usedBits f).length = 16 + 16 * countR f 16 from usedBits_len f)
      go_wp2
      go_ret2
      refine ⟨?_, HB2.out⟩
      have e : ((usedBits f).length : Int) = 16 + 16 * (countR f 16 : Int) := by rw [HL.out]; omega
      rw [e]
      rfl

end Go.Proofs.Ytbbiohcmfhdmnaa

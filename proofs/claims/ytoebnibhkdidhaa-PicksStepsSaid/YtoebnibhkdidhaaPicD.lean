/- Package picks: Write; a reader in memory: NewReader, Done, Tables, Picks, fail, head. -/
import Derived.Test.YtoebnibhkdidhaaPicC
import Derived.Test.YtoebnibhkdidhaaBitC
namespace Go.Proofs.Ytoebnibhkdidhaa
open Go.RowKit

theorem nog : ∀ (w : World) (j : Nat), (fun _ : Nat => False) j → j < w.heap.size := fun _ _ h => h.elim
theorem put_small {all : List Bool} {x n : Nat} (hx : x < 2 ^ n) (hn : n ≤ 32) : putE x (n : Int) = 0 ∧ putA all x (n : Int) = all ++ fieldL x n := by
  have hf : fitsB x (n : Int) = true := by
    unfold fitsB
    simp only [Bool.and_eq_true, decide_eq_true_eq]
    refine ⟨by omega, by omega, ?_⟩
    rw [Int.toNat_natCast]
    exact hx
  unfold putE putA
  rw [hf, if_pos rfl, if_pos rfl, Int.toNat_natCast]
  exact ⟨rfl, rfl⟩
theorem rints_lt {w : World} {v : Value} {l : List Int} (h : RInts w v l) (hl : 0 < l.length) : ∀ g, v.ownBlock = some g → g < w.heap.size := by
  obtain ⟨a, cap, rfl, -, -⟩ := h.shape
  obtain ⟨b, off, x, rfl, hb, -⟩ := h.at hl
  intro g hg
  simp [Value.ownBlock] at hg
  omega
theorem put_un (G : Nat → Prop) (B b : Nat) (all : List Bool) (k j : Nat) (x : Int) (w : World) (h : WLive G B b all k w) (hl : all.length ≤ 900000000) (hj : j < 6) (hx : x = 2 ^ (j + 1) - 2) :
    Calls Try.prog 48 #[.pointer (some ⟨b, 0, none⟩), .int .u32 x, .int .i64 ((j : Int) + 1)] w fun e w' => e = .returned (.int .i64 0) ∧ WActs G B b (all ++ unP j) k w w' := by
  have hp : (2 ^ (j + 1) - 2 : Nat) < 2 ^ (j + 1) := by have := Nat.two_pow_pos (j + 1); omega
  have hle : (2 : Nat) ^ (j + 1) ≤ 64 := Nat.le_trans (Nat.pow_le_pow_right (by decide) (show j + 1 ≤ 6 by omega)) (by decide)
  have h2 : 2 ≤ (2 : Nat) ^ (j + 1) := Nat.le_trans (by decide) (Nat.pow_le_pow_right (by decide) (show 1 ≤ j + 1 by omega))
  have hxe : x = ((2 ^ (j + 1) - 2 : Nat) : Int) := by
    rw [hx]
    have : ((2 : Int) ^ (j + 1)) = ((2 ^ (j + 1) : Nat) : Int) := by simp
    rw [this]
    omega
  have hq := lwput_any G B b all k (2 ^ (j + 1) - 2) ((j + 1 : Nat) : Int) w h hl (by omega)
  rw [(put_small (all := all) hp (by omega)).1, (put_small (all := all) hp (by omega)).2, unP_field hj] at hq
  rw [hxe]
  exact hq

set_option maxHeartbeats 2000000 in
theorem pwrite_any (G : Nat → Prop) (B b : Nat) (all : List Bool) (k : Nat) (v : Value) (l : List Int) (q : Nat) (w : World) (h : WLive G B b all k w) (hl : all.length ≤ 800000000) (hv : RInts w v l) (hz : ∀ g, v.ownBlock = some g → ¬ Zone B G g) (hm : mayP l (q : Int) = true) :
    Calls Try.prog 38 #[.pointer (some ⟨b, 0, none⟩), v, .int .i64 (q : Int)] w fun e w' => e = .returned (.int .i64 0) ∧ WActs G B b (all ++ bitsP l q) k w w' := by
  obtain ⟨h1, h2, h3, h4⟩ := mayP_iff.1 hm
  have hp5 : ∀ p ∈ l, 0 ≤ p ∧ p ≤ 5 := fun p hp => by have := h4 p hp; omega
  have hk6 := (ordP_ok (l := l) (List.Perm.refl LET) hp5).2
  have HK6 := Lib.hid hk6
  have HM := Lib.hid (pmay_any v l (q : Int) w hv)
  rw [hm] at HM
  have HPL := Lib.hid (fun w h => places_any v l w h h3 hp5)
  have HV := Lib.hid hv
  have HZ := Lib.hid hz
  have H := Lib.hid h
  have hPL := plV_len l
  have HPN := Lib.hid (show (placesP LET l).length = l.length from placesP_len _ _)
  have HFL := Lib.hid (fun j => show (((placesP LET l).take j).flatMap unP).length ≤ 200000 from by
    have h := (flatP_len (ks := (placesP LET l).take j) (fun x hx => hk6 x (List.mem_of_mem_take hx))).1
    rw [List.length_take, placesP_len] at h
    omega)
  have HB0 := Lib.hid (show bitsP l q = fieldL q 3 ++ fieldL l.length 15 ++ (placesP LET l).flatMap unP from rfl)
  have HP1 := Lib.hid (fun w h => lwput_any G B b all k q (3 : Int) w h (by omega) (by omega))
  have e1 := put_small (all := all) (x := q) (n := 3) (by show q < 8; omega) (by decide)
  have HP2 := Lib.hid (fun w h => lwput_any G B b (all ++ fieldL q 3) k l.length (15 : Int) w h (by rw [List.length_append, fieldL_len]; omega) (by omega))
  have e2 := put_small (all := all ++ fieldL q 3) (x := l.length) (n := 15) (by show l.length < 32768; omega) (by decide)
  have e1a : putE q (3 : Int) = 0 := e1.1
  have e1b : putA all q (3 : Int) = all ++ fieldL q 3 := e1.2
  have e2a : putE l.length (15 : Int) = 0 := e2.1
  have e2b : putA (all ++ fieldL q 3) l.length (15 : Int) = all ++ fieldL q 3 ++ fieldL l.length 15 := e2.2
  rw [e1a, e1b] at HP1
  rw [e2a, e2b] at HP2
  have hw1 : IntKind.u32.wrap (q : Int) = (q : Int) := IntWalk.u32_in _ (by omega)
  have hw2 : IntKind.u32.wrap (l.length : Int) = (l.length : Int) := IntWalk.u32_in _ (by omega)
  obtain ⟨a, cap, rfl, hc1, hc2⟩ := hv.shape
  have HLP := Lib.hid (show 0 < l.length ∧ l.length ≤ 32767 from ⟨h2, h3⟩)
  obtain ⟨A, hA⟩ : ∃ z, all ++ fieldL q 3 ++ fieldL l.length 15 = z := ⟨_, rfl⟩
  have HAL := Lib.hid (show A.length ≤ 800000018 by rw [← hA, List.length_append, List.length_append, fieldL_len, fieldL_len]; omega)
  have HBE := Lib.hid (show all ++ bitsP l q = A ++ (placesP LET l).flatMap unP by rw [HB0.out, ← hA]; simp)
  rw [hA] at HP2
  obtain ⟨n, hn⟩ : ∃ z, l.length = z := ⟨_, rfl⟩
  rw [hn] at HM HPL HV HZ HP2 hw2 HLP HPN hPL hc1
  rw [hn]
  clear h hv hz hm h1 h2 h3 h4 hp5 hk6 e1 e2 e1a e1b e2a e2b hA hn HB0
  go_enter Try.func38, Try.ntmps38
  go_wp2_with fail
  refine HM.out.mono ?_
  rintro e w1 ⟨rfl, hb1⟩
  have HB1 := Lib.hid hb1
  have HW1 := Lib.hid (H.out.below hb1)
  clear HM hb1
  go_wp2_with fail
  refine (HP1.out _ HW1.out).mono ?_
  rintro e w2 ⟨rfl, hw2a, hk2⟩
  have HW2 := Lib.hid hw2a
  have HK2 := Lib.hid ((Keep.of_below HB1.out (Zone B G)).trans hk2)
  clear HP1 hw2a hk2
  go_wp2_with fail
  refine (HP2.out _ HW2.out).mono ?_
  rintro e w3 ⟨rfl, hw3a, hk3⟩
  have HW3 := Lib.hid hw3a
  have HK3 := Lib.hid (HK2.out.trans hk3)
  clear HP2 hw3a hk3
  go_wp2_with fail
  refine (HPL.out _ (HV.out.keep HK3.out HZ.out)).mono ?_
  rintro e w4 ⟨v4, rfl, hv4, hf4, hb4⟩
  have hlt4 := rints_lt hv4 (by rw [hPL]; exact HLP.out.1)
  have HW4 := Lib.hid (HW3.out.more (G' := fun j => G j ∨ v4.ownBlock = some j) hb4 (fun j hj => hj.imp id (fun e => ⟨hf4 j e, hlt4 j e⟩)))
  have HK4 := Lib.hid (HK3.out.trans (Keep.of_below hb4 _))
  have HV4 := Lib.hid hv4
  obtain ⟨a4, c4, rfl, -, -⟩ := hv4.shape
  have hPL2 := hPL
  clear HPL hv4 hf4 hb4 hlt4 HW3
  rw [hPL2] at HV4 HW4 ⊢
  clear hPL2
  go_wp2
  go_loopw [8, 29] (fun _ i wr => ∃ j : Nat, j ≤ n ∧ i = .int .i64 (j : Int) ∧ Hid (WLive (fun j => G j ∨ (Value.slice a4 n c4).ownBlock = some j) B b (A ++ ((placesP LET l).take j).flatMap unP) k wr) ∧ Hid (RInts wr (.slice a4 n c4) (plV l)) ∧ Hid (Keep (Zone B G) w wr)) (fun _ i _ => n - (intOf i).toNat)
  case atStart => exact ⟨0, Nat.zero_le _, rfl, (show WLive _ _ _ _ _ _ by rw [List.take_zero]; simpa using HW4.out), HV4.out, HK4.out⟩
  case round =>
    clear HW4 HV4 HK4
    obtain ⟨j, hj, rfl, HW, HVP, HK⟩ := hrel
    by_cases hlt : j < n
    · obtain ⟨b3, off3, x, rfl, -, hx, hcx, -, -⟩ := HVP.out.at hlt
      obtain ⟨m, hmx, rfl⟩ := plV_at hx
      have hm6 := HK6.out m (List.mem_of_getElem? hmx)
      have HT := Lib.hid (show A ++ ((placesP LET l).take (j + 1)).flatMap unP = A ++ ((placesP LET l).take j).flatMap unP ++ unP m by rw [take_snoc hmx, List.flatMap_append, List.append_assoc]; simp)
      have HPU := Lib.hid (fun x h => put_un _ B b _ k m x wr HW.out (by rw [List.length_append]; have := HFL.out j; have := HAL.out; omega) hm6 h)
      have hcs : m = 0 ∨ m = 1 ∨ m = 2 ∨ m = 3 ∨ m = 4 ∨ m = 5 := by omega
      have HCS := Lib.hid hcs
      clear hx hmx hm6 hcs
      have HFIN := Lib.hid (fun w' (h : WActs (fun j => G j ∨ (Value.slice (some ⟨b3, off3, none⟩) n c4).ownBlock = some j) B b (A ++ ((placesP LET l).take j).flatMap unP ++ unP m) k wr w') =>
        show WLive (fun j => G j ∨ (Value.slice (some ⟨b3, off3, none⟩) n c4).ownBlock = some j) B b (A ++ ((placesP LET l).take (j + 1)).flatMap unP) k w' ∧ RInts w' (.slice (some ⟨b3, off3, none⟩) n c4) (plV l) ∧ Keep (Zone B G) w w' from
        ⟨by rw [HT.out]; exact h.1, HVP.out.keep h.2 (fun g hg hzz => hzz.2 (.inr hg)), HK.out.trans (h.2.mono (fun j _ hj => ⟨hj.1, fun hG => hj.2 (.inl hG)⟩))⟩)
      clear HW HVP HK HT
      rcases HCS.out with rfl | rfl | rfl | rfl | rfl | rfl
      all_goals
        go_wp2_with fail
        refine (HPU.out _ (by decide)).mono ?_
        rintro e w5 ⟨rfl, h5⟩
        have HF5 := Lib.hid (HFIN.out w5 h5)
        clear h5 hcx
        go_wp2
        go_roundw
        case rel => exact ⟨j + 1, by omega, by go_num, HF5.out.1, HF5.out.2.1, HF5.out.2.2⟩
        case measure => simp [intOf]; omega
    · obtain rfl : j = n := by omega
      have HE := Lib.hid (show WActs G B b (all ++ bitsP l q) k w wr from ⟨by
        rw [HBE.out]
        have := HW.out
        rw [List.take_of_length_le (by rw [HPN.out]; exact Nat.le_refl _)] at this
        exact this.less (fun j hj => .inl hj), HK.out⟩)
      go_wp2
      go_ret
      exact ⟨rfl, HE.out⟩
theorem pwrite_no (b : Nat) (v : Value) (l : List Int) (t : Int) (w : World) (hv : RInts w v l) (hm : mayP l t = false) :
    Calls Try.prog 38 #[.pointer (some ⟨b, 0, none⟩), v, .int .i64 t] w fun e w' => e = .returned (.int .i64 1) ∧ Below w.heap.size w w' := by
  have HM := Lib.hid (pmay_any v l t w hv)
  rw [hm] at HM
  obtain ⟨a, cap, rfl, hc1, hc2⟩ := hv.shape
  clear hv hm
  go_enter Try.func38, Try.ntmps38
  go_wp2_with fail
  refine HM.out.mono ?_
  rintro e w1 ⟨rfl, hb1⟩
  go_wp2
  go_ret
  exact ⟨rfl, hb1⟩
theorem pwrite_nil (v : Value) (t : Int) (w : World) :
    Calls Try.prog 38 #[.pointer none, v, .int .i64 t] w fun e w' => e = .returned (.int .i64 7) ∧ w = w' := by
  go_enter Try.func38, Try.ntmps38
  go_wp2
  go_ret
  exact ⟨rfl, rfl⟩
end Go.Proofs.Ytoebnibhkdidhaa

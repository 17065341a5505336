/- Package picks: places, Bits, Write. -/
import Derived.Test.YtoebnibhkdidhaaPicB
namespace Go.Proofs.Ytoebnibhkdidhaa
open Go.RowKit

theorem pfind0_any (b : Nat) (T : TypeId) (O : List UInt8) (p : Int) (w : World) (h : Blk w b (ordV O) T) (hO : OrdP O) (h0 : 0 ≤ p) (h5 : p ≤ 5) :
    Calls Try.prog 75 #[.pointer (some ⟨b, 0, none⟩), .int .i64 p] w fun e w' => e = .returned (.int .i64 (placeP O p : Int)) ∧ Blk w' b (ordV (touchL O (placeP O p))) T ∧ Keep (fun j => j = b) w w' := by
  have := pfind_any b [] [] T O p w (by simpa using h) hO h0 h5
  simpa using this
def fillI (L : List Nat) (n j : Nat) : List Value := L.map (fun (k : Nat) => Value.int .i64 (k : Int)) ++ List.replicate (n - j) (.int .i64 0)
theorem fillI_at {L : List Nat} {n j : Nat} (hL : L.length = j) (hj : j < n) : (fillI L n j)[j]? = some (.int .i64 0) := by
  unfold fillI
  rw [List.getElem?_append_right (by rw [List.length_map]; omega), List.length_map, hL, Nat.sub_self, List.getElem?_replicate, if_pos (by omega)]
theorem fillI_set {L : List Nat} {n j : Nat} (k : Nat) (hL : L.length = j) (hj : j < n) : (fillI L n j).set j (.int .i64 (k : Int)) = fillI (L ++ [k]) n (j + 1) := by
  unfold fillI
  rw [List.set_append_right _ _ (by rw [List.length_map]; omega), List.length_map, hL, Nat.sub_self, show n - j = (n - (j + 1)) + 1 by omega, List.replicate_succ, List.set_cons_zero, List.map_append]
  simp
def plV (l : List Int) : List Int := (placesP LET l).map fun (k : Nat) => (k : Int)
theorem plV_len (l : List Int) : (plV l).length = l.length := by unfold plV; rw [List.length_map, placesP_len]

set_option maxHeartbeats 2000000 in
set_option maxRecDepth 100000 in
theorem places_any (v : Value) (l : List Int) (w : World) (hv : RInts w v l) (hl : l.length ≤ 32767) (hp : ∀ p ∈ l, 0 ≤ p ∧ p ≤ 5) :
    Calls Try.prog 62 #[v] w fun e w' => ∃ v', e = .returned v' ∧ RInts w' v' (plV l) ∧ FreshV w.heap.size v' ∧ Below w.heap.size w w' := by
  have HV := Lib.hid hv
  obtain ⟨a, cap, rfl, hc1, hc2⟩ := hv.shape
  have HP := Lib.hid hp
  have HL := Lib.hid hl
  have hred : (ordV LET).toArray = #[.int .i64 0, .int .i64 1, .int .i64 2, .int .i64 3, .int .i64 4, .int .i64 5] := rfl
  have HFR := Lib.hid (fun w => fresh_any w)
  rw [hred] at HFR
  clear hv hp hred
  go_enter Try.func62, Try.ntmps62
  go_wp2_with fail
  refine (HFR.out _).mono ?_
  rintro e w1 ⟨rfl, hb1⟩
  have hal := below_alloc w1 (.cells #[.int .i64 0, .int .i64 1, .int .i64 2, .int .i64 3, .int .i64 4, .int .i64 5] 89 (0, 0))
  have HO1 := Lib.hid (show Blk (w1.alloc (.cells #[.int .i64 0, .int .i64 1, .int .i64 2, .int .i64 3, .int .i64 4, .int .i64 5] 89 (0, 0))) w1.heap.size (ordV LET) 89 from Blk.new w1 _ _)
  have HB1 := Lib.hid (hb1.trans (below_of hal hb1.size))
  have HN1 := Lib.hid hb1.size
  clear hb1 hal HFR
  go_wp2_with (at_make; refine wpList_make_blk _ rfl _ _ 23 rfl 3 (.int .i64 0) 8 Try.underlying23 intinfo rfl _ _ _ _ l.length rfl rfl rfl rfl (by have := HL.out; omega) (by have := HL.out; unfold maxLen; omega) ?_)
  intro w2 hblk hk2
  rw [← World.size_alloc w1 (.cells #[.int .i64 0, .int .i64 1, .int .i64 2, .int .i64 3, .int .i64 4, .int .i64 5] 89 (0, 0))] at hk2
  have HO2 := Lib.hid (HO1.out.below hk2)
  have HB2 := Lib.hid (HB1.out.trans (below_of hk2 HB1.out.size))
  obtain ⟨B, hB⟩ : ∃ z, w1.heap.size = z := ⟨_, rfl⟩
  rw [hB] at hblk HO2 HN1 ⊢
  have HBB := Lib.hid hB
  have HBLK := Lib.hid (show Blk w2 (B + 1) (fillI [] l.length 0) 3 from hblk)
  clear hblk hk2 HO1 HB1 hB
  go_wp2
  go_loopw [5, 6, 13] (fun _ _ i wr => ∃ k : Nat, k ≤ l.length ∧ i = .int .i64 (k : Int) ∧ Hid (Blk wr B (ordV (ordP LET (l.take k))) 89) ∧ Hid (Blk wr (B + 1) (fillI (placesP LET (l.take k)) l.length k) 3) ∧ Hid (Below w.heap.size w wr)) (fun _ _ i _ => l.length - (intOf i).toNat)
  case atStart => exact ⟨0, Nat.zero_le _, rfl, HO2.out, HBLK.out, HB2.out⟩
  case round =>
    clear HO2 HBLK HB2
    obtain ⟨k, hk, rfl, HO, HK, HB⟩ := hrel
    by_cases hlt : k < l.length
    · obtain ⟨b2, off2, x, rfl, hbb, hx, hcx, -, -⟩ := (HV.out.below HB.out).at hlt
      have hxp := HP.out x (List.mem_of_getElem? hx)
      have hord := (ordP_ok (l := l.take k) (List.Perm.refl LET) (fun p hp => HP.out p (List.mem_of_mem_take hp))).1
      have HF := Lib.hid (pfind0_any B 89 _ x wr HO.out hord hxp.1 hxp.2)
      have HT1 := Lib.hid (show ordP LET (l.take (k + 1)) = touchL (ordP LET (l.take k)) (placeP (ordP LET (l.take k)) x) by rw [take_snoc hx, ordP_snoc])
      have HT2 := Lib.hid (show placesP LET (l.take (k + 1)) = placesP LET (l.take k) ++ [placeP (ordP LET (l.take k)) x] by rw [take_snoc hx, placesP_snoc])
      have HPL := Lib.hid (show (placesP LET (l.take k)).length = k by rw [placesP_len, List.length_take]; omega)
      obtain ⟨q, hq⟩ : ∃ z, placeP (ordP LET (l.take k)) x = z := ⟨_, rfl⟩
      rw [hq] at HF HT1 HT2
      have hkl : (k : Int) < (l.length : Int) := by omega
      clear hx hxp hord hq
      go_wp2_with fail
      refine HF.out.mono ?_
      rintro e w3 ⟨rfl, ho3, hk3⟩
      have HB3 := Lib.hid (HB.out.trans (hk3.below (B := w.heap.size) HB.out.size (fun j hj e => by have h : j = B := e; have := HN1.out; omega)))
      have HK3 := Lib.hid (HK.out.keep hk3 (fun e => by have h : B + 1 = B := e; omega))
      have hcell := HK3.out.cell (fillI_at HPL.out hlt)
      have hfr := HK3.out.free k
      have HK4 := Lib.hid (show Blk (w3.setCell ⟨B + 1, k, none⟩ (.int .i64 (q : Int))) (B + 1) (fillI (placesP LET (l.take (k + 1))) l.length (k + 1)) 3 by
        rw [HT2.out, ← fillI_set q HPL.out hlt]
        exact HK3.out.set k _)
      have HO4 := Lib.hid (show Blk (w3.setCell ⟨B + 1, k, none⟩ (.int .i64 (q : Int))) B (ordV (ordP LET (l.take (k + 1)))) 89 by
        rw [HT1.out]
        exact ho3.other _ _ (by show B ≠ B + 1; omega))
      have HB4 := Lib.hid (HB3.out.setCell (p := ⟨B + 1, k, none⟩) (by show w.heap.size ≤ B + 1; have := HN1.out; omega) (.int .i64 (q : Int)))
      clear HF ho3 hk3 HO HK HB HB3 HK3 HT1 HT2
      go_wp2
      go_roundw
      case rel => exact ⟨k + 1, by omega, by go_num, HO4.out, HK4.out, HB4.out⟩
      case measure => simp [intOf]; omega
    · obtain rfl : k = l.length := by omega
      have hok := (ordP_ok (l := l) (List.Perm.refl LET) (fun p hp => HP.out p hp)).2
      have HR := Lib.hid (show RInts wr (.slice (some ⟨B + 1, 0, none⟩) l.length l.length) (plV l) by
        have hb := HK.out
        rw [List.take_length] at hb
        unfold fillI at hb
        rw [Nat.sub_self, List.replicate_zero, List.append_nil] at hb
        refine ⟨?_, fun x hx => ?_⟩
        · rw [plV_len]
          unfold plV
          rw [List.map_map]
          exact hb.reads _ _ (Nat.le_refl _) (by have := HL.out; unfold maxLen; omega)
        · unfold plV at hx
          obtain ⟨j, hj, rfl⟩ := List.mem_map.1 hx
          have := hok j hj
          omega)
      clear hok HO HK
      go_wp2
      go_ret
      exact ⟨_, rfl, HR.out, fun g hg => by simp [Value.ownBlock] at hg; have := HN1.out; omega, HB.out⟩

theorem sum_take {l : List Nat} {k : Nat} {x : Nat} (h : l[k]? = some x) : ((l.take (k + 1)).map (· + 1)).sum = ((l.take k).map (· + 1)).sum + (x + 1) := by rw [take_snoc h]; simp
theorem plV_at {l : List Int} {k : Nat} {x : Int} (h : (plV l)[k]? = some x) : ∃ j : Nat, (placesP LET l)[k]? = some j ∧ x = (j : Int) := by
  unfold plV at h
  rw [List.getElem?_map] at h
  cases hq : (placesP LET l)[k]? with
  | none => rw [hq] at h; simp at h
  | some j => rw [hq] at h; simp at h; exact ⟨j, rfl, h.symm⟩

set_option maxHeartbeats 1000000 in
theorem pbits_any (v : Value) (l : List Int) (t : Int) (w : World) (hv : RInts w v l) (hm : mayP l t = true) :
    Calls Try.prog 49 #[v, .int .i64 t] w fun e w' => e = .returned (.tuple #[.int .i64 ((bitsP l t.toNat).length : Int), .int .i64 0]) ∧ Below w.heap.size w w' := by
  obtain ⟨h1, h2, h3, h4⟩ := mayP_iff.1 hm
  have hp5 : ∀ p ∈ l, 0 ≤ p ∧ p ≤ 5 := fun p hp => by have := h4 p hp; omega
  have hk6 := (ordP_ok (l := l) (List.Perm.refl LET) hp5).2
  have HK6 := Lib.hid hk6
  have HM := Lib.hid (pmay_any v l t w hv)
  rw [hm] at HM
  have HPL := Lib.hid (fun w h => places_any v l w h h3 hp5)
  have HV := Lib.hid hv
  have HLN := Lib.hid (show (bitsP l t.toNat).length = 18 + ((placesP LET l).map (· + 1)).sum by unfold bitsP; rw [List.length_append, headP_len, (flatP_len hk6).2])
  have HN := Lib.hid (show (placesP LET l).length = l.length from placesP_len _ _)
  have hN := plV_len l
  have HSB := Lib.hid (fun k => show (((placesP LET l).take k).map (· + 1)).sum ≤ 6 * k from by
    have h := flatP_len (ks := (placesP LET l).take k) (fun x hx => hk6 x (List.mem_of_mem_take hx))
    have h' := h.1
    rw [h.2, List.length_take] at h'
    omega)
  obtain ⟨R, hR⟩ : ∃ z, (bitsP l t.toNat).length = z := ⟨_, rfl⟩
  rw [hR] at HLN ⊢
  obtain ⟨a, cap, rfl, hc1, hc2⟩ := hv.shape
  clear hv hm h1 h2 h4 hp5 hk6 hR
  obtain ⟨n, hn⟩ : ∃ z, l.length = z := ⟨_, rfl⟩
  rw [hn] at HM HPL HV HN hN h3
  rw [hn]
  clear hn hc1
  go_enter Try.func49, Try.ntmps49
  go_wp2_with fail
  refine HM.out.mono ?_
  rintro e w1 ⟨rfl, hb1⟩
  have HB1 := Lib.hid hb1
  clear HM hb1
  go_wp2_with fail
  refine (HPL.out _ (HV.out.below HB1.out)).mono ?_
  rintro e w2 ⟨v2, rfl, hv2, hf2, hb2⟩
  have HV2 := Lib.hid hv2
  have HB2 := Lib.hid (below_two HB1.out hb2)
  obtain ⟨a2, c2, rfl, -, -⟩ := hv2.shape
  have hN2 := hN
  clear HPL hv2 hf2 hb2 HB1
  rw [hN2] at HV2 ⊢
  clear hN2
  go_wp2
  go_loop [6, 8, 16] (fun s _ i => ∃ (k m : Nat), k ≤ n ∧ i = .int .i64 (k : Int) ∧ s = .int .i64 (m : Int) ∧ Hid (m = 18 + (((placesP LET l).take k).map (· + 1)).sum)) (fun _ _ i => n - (intOf i).toNat)
  case atStart => exact ⟨0, 18, Nat.zero_le _, rfl, rfl, rfl⟩
  case round =>
    obtain ⟨k, m, hk, rfl, rfl, HMM⟩ := hrel
    by_cases hlt : k < n
    · obtain ⟨b3, off3, x, rfl, -, hx, hcx, -, -⟩ := HV2.out.at hlt
      obtain ⟨j, hj, rfl⟩ := plV_at hx
      have hj6 := HK6.out j (List.mem_of_getElem? hj)
      have HM2 := Lib.hid (show m + (j + 1) = 18 + (((placesP LET l).take (k + 1)).map (· + 1)).sum by rw [sum_take hj, HMM.out]; omega)
      have hmb : m ≤ 300000 := by rw [HMM.out]; have := HSB.out k; omega
      have e1 : IntKind.i64.wrap ((j : Int) + 1) = (j : Int) + 1 := IntWalk.i64_in _ (by omega)
      have e2 : IntKind.i64.wrap ((m : Int) + ((j : Int) + 1)) = ((m + (j + 1) : Nat) : Int) := by rw [IntWalk.i64_in _ (by omega)]; omega
      clear hx hj HMM
      go_wp2
      go_round
      case rel => exact ⟨k + 1, m + (j + 1), by omega, by go_num, (show Value.int .i64 _ = _ by congr 1), HM2.out⟩
      case measure => simp [intOf]; omega
    · obtain rfl : k = n := by omega
      have HE := Lib.hid (show m = R by rw [HLN.out, HMM.out, List.take_of_length_le (by rw [HN.out]; exact Nat.le_refl _)])
      go_wp2
      go_ret2
      exact ⟨by rw [HE.out]; rfl, HB2.out⟩
theorem pbits_no (v : Value) (l : List Int) (t : Int) (w : World) (hv : RInts w v l) (hm : mayP l t = false) :
    Calls Try.prog 49 #[v, .int .i64 t] w fun e w' => e = .returned (.tuple #[.int .i64 0, .int .i64 1]) ∧ Below w.heap.size w w' := by
  have HM := Lib.hid (pmay_any v l t w hv)
  rw [hm] at HM
  obtain ⟨a, cap, rfl, hc1, hc2⟩ := hv.shape
  clear hv hm
  go_enter Try.func49, Try.ntmps49
  go_wp2_with fail
  refine HM.out.mono ?_
  rintro e w1 ⟨rfl, hb1⟩
  go_wp2
  go_ret2
  exact ⟨rfl, hb1⟩
end Go.Proofs.Ytoebnibhkdidhaa

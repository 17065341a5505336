/- The reference's Groups; the laws FreqGroups and FreqParts walked. -/
import Derived.Test.YtnkjmaignpnkpaaFreqI
namespace Go.Proofs.Ytnkjmaignpnkpaa
open Go.RowKit

/-- two slices do not lie in one block -/
def Apart (v v' : Value) : Prop := ∀ g, v.ownBlock = some g → v'.ownBlock ≠ some g
theorem Apart.nil (v : Value) : Apart (.slice none 0 0) v := fun g h => by simp [Value.ownBlock] at h
theorem Apart.symm {v v' : Value} (h : Apart v v') : Apart v' v := fun g h1 h2 => h g h2 h1
theorem Apart.step {v u v' : Value} {w : World} (h : Apart v u) (hu : ∀ g, u.ownBlock = some g → g < w.heap.size) (hf : ∀ g, v'.ownBlock = some g → v.ownBlock = some g ∨ w.heap.size ≤ g) : Apart v' u := by
  intro g hg hg'
  rcases hf g hg with h1 | h1
  · exact h g h1 hg'
  · have := hu g hg'
    omega

/-- what the reference's Groups has gathered: d groups in vs, a row that it fills -/
structure GrpSt (B : Nat) (w wr : World) (l : List Int) (d : Nat) (nowl : List Int) (vs : List Value) (vout vnow : Value) : Prop where
  len : vs.length = d
  out : Own wr 22 1 vout d vs
  now : OwnI wr 3 vnow nowl
  each : ∀ (i : Nat) (vi : Value), vs[i]? = some vi → RInts wr vi (chunk l i) ∧ FreshV B vi ∧ (∀ g, vi.ownBlock = some g → g < wr.heap.size) ∧ Apart vnow vi ∧ Apart vout vi
  apart : Apart vnow vout
  fout : FreshV B vout
  fnow : FreshV B vnow
  bel : Below B w wr
  size : B ≤ wr.heap.size

theorem GrpSt.grow {B : Nat} {w wr w2 : World} {l : List Int} {d : Nat} {nowl : List Int} {vs : List Value} {vout vnow v2 : Value} {x : Int} (h : GrpSt B w wr l d nowl vs vout vnow)
    (hown : OwnI w2 3 v2 (nowl ++ [x])) (hk : Keep (fun k => vnow.ownBlock = some k) wr w2) (hf : ∀ g, v2.ownBlock = some g → vnow.ownBlock = some g ∨ wr.heap.size ≤ g) :
    GrpSt B w w2 l d (nowl ++ [x]) vs vout v2 where
  len := h.len
  out := h.out.keep hk (fun b hb hn => h.apart b hn hb)
  now := hown
  each := fun i vi hi => by
    obtain ⟨h1, h2, h3, h4, h5⟩ := h.each i vi hi
    exact ⟨h1.keep hk (fun b hb hn => h4 b hn hb), h2, fun g hg => Nat.lt_of_lt_of_le (h3 g hg) hk.size, h4.step h3 hf, h5⟩
  apart := h.apart.step h.out.lt hf
  fout := h.fout
  fnow := h.fnow.step h.size hf
  bel := below_append h.bel hk h.fnow h.size
  size := Nat.le_trans h.size hk.size

theorem GrpSt.flush {B : Nat} {w wr w2 : World} {l : List Int} {d : Nat} {nowl : List Int} {vs : List Value} {vout vnow v2 : Value} (h : GrpSt B w wr l d nowl vs vout vnow)
    (hn : nowl = chunk l d) (hl : ∀ x ∈ l, -9223372036854775808 ≤ x ∧ x ≤ 9223372036854775807)
    (hown : Own w2 22 1 v2 (d + 1) (vs ++ [vnow])) (hk : Keep (fun k => vout.ownBlock = some k) wr w2) (hf : ∀ g, v2.ownBlock = some g → vout.ownBlock = some g ∨ wr.heap.size ≤ g) :
    GrpSt B w w2 l (d + 1) [] (vs ++ [vnow]) v2 (.slice none 0 0) where
  len := by simp [h.len]
  out := hown
  now := OwnI.nil _ _
  each := fun i vi hi => by
    rw [List.getElem?_append] at hi
    split at hi
    · obtain ⟨h1, h2, h3, h4, h5⟩ := h.each i vi hi
      exact ⟨h1.keep hk (fun b hb hn => h5 b hn hb), h2, fun g hg => Nat.lt_of_lt_of_le (h3 g hg) hk.size, Apart.nil _, h5.step h3 hf⟩
    · have hid : i = d := by
        have h1 := h.len
        have := (List.getElem?_eq_some_iff.1 hi).1
        simp at this
        omega
      subst hid
      rw [h.len, Nat.sub_self] at hi
      simp at hi
      subst hi
      have hx : RInts wr vnow (chunk l i) := by
        rw [← hn]
        exact h.now.reads (fun x hx => by rw [hn] at hx; exact hl x (List.mem_of_mem_drop (List.mem_of_mem_take hx)))
      exact ⟨hx.keep hk (fun b hb hn' => h.apart b hb hn'), h.fnow, fun g hg => Nat.lt_of_lt_of_le (Own.lt h.now g hg) hk.size, Apart.nil _, h.apart.symm.step (Own.lt h.now) hf⟩
  apart := Apart.nil _
  fout := h.fout.step h.size hf
  fnow := FreshV.nil _
  bel := below_append h.bel hk h.fout h.size
  size := Nat.le_trans h.size hk.size

/-- the groups of a row -/
def RGroups (w : World) (v : Value) (l : List Int) : Prop :=
  ∃ vs : List Value, Reads w v ((l.length + 49) / 50) vs ∧ vs.length = (l.length + 49) / 50 ∧ ∀ (i : Nat) (vi : Value), vs[i]? = some vi → RInts w vi (chunk l i)
theorem RGroups.below {w w' : World} {v : Value} {l : List Int} (h : RGroups w v l) (k : Below w.heap.size w w') : RGroups w' v l := by
  obtain ⟨vs, h1, h2, h3⟩ := h
  exact ⟨vs, h1.below k, h2, fun i vi hi => (h3 i vi hi).below k⟩

theorem slinfo : (Try.prog.info? 22).map (fun i => (i.zero, i.size, i.bytes)) = some (some (.slice none 0 0), 1, 24) := by kernel_rfl

theorem now_snoc {l : List Int} {k d : Nat} {x : Int} (hd : 50 * d ≤ k) (hx : l[k]? = some x) : (l.drop (50 * d)).take (k - 50 * d) ++ [x] = (l.drop (50 * d)).take (k + 1 - 50 * d) := by
  have h : (l.drop (50 * d))[k - 50 * d]? = some x := by rw [List.getElem?_drop, ← hx]; congr 1; omega
  rw [show k + 1 - 50 * d = (k - 50 * d) + 1 from by omega, take_snoc h]

theorem OwnI.shape {w : World} {e : TypeId} {v : Value} {l : List Int} (h : OwnI w e v l) : ∃ a cap, v = .slice a l.length cap := by
  obtain ⟨a, cap, hv, _⟩ := Own.reads h
  exact ⟨a, cap, hv⟩

set_option maxHeartbeats 1000000 in
theorem refgroups_any (v : Value) (l : List Int) (w : World) (hl : l.length ≤ 300) (hv : RInts w v l) :
    Calls Try.prog 22 #[v] w fun e w' => ∃ v', e = .returned v' ∧ RGroups w' v' l ∧ Below w.heap.size w w' := by
  have HB := Lib.hid hv.2
  obtain ⟨a, cap, rfl, hc1, hc2⟩ := hv.shape
  go_enter Try.func22, Try.ntmps22
  go_wp2
  go_loopw [3, 4, 5, 6, 9] (fun vout vnow j x i wr => ∃ (k d : Nat) (nowl : List Int) (vs : List Value), k ≤ l.length ∧ i = .int .i64 k ∧ GrpSt w.heap.size w wr l d nowl vs vout vnow ∧
      Hid ((k < l.length → d = k / 50 ∧ nowl = (l.drop (50 * d)).take (k - 50 * d)) ∧ (k = l.length → d = (l.length + 49) / 50)))
    (fun _ _ _ _ i _ => l.length - (intOf i).toNat)
  case atStart =>
    refine ⟨0, 0, [], [], Nat.zero_le _, rfl, ?_, ⟨fun _ => ⟨rfl, rfl⟩, fun h => by omega⟩⟩
    exact ⟨rfl, Own.nil _ _ _, OwnI.nil _ _, fun i vi h => by simp at h, Apart.nil _, FreshV.nil _, FreshV.nil _, Below.refl _ _, Nat.le_refl _⟩
  case round =>
    obtain ⟨k, d, nowl, vs, hk, rfl, hst, HK⟩ := hrel
    by_cases hlt : k < l.length
    · obtain ⟨b, off, x, rfl, hbb, hx, hcx, hx1, hx2⟩ := (hv.below hst.bel).at hlt
      obtain ⟨hd, hn⟩ := HK.out.1 hlt
      have hnl : nowl.length = k - 50 * d := by rw [hn]; simp; omega
      have hnb : nowl.length < 1000000000 := by omega
      have HNB := Lib.hid hnb
      have HD := Lib.hid hd
      have HN := Lib.hid hn
      have HX := Lib.hid hx
      have HNL := Lib.hid hnl
      have hkl : (k : Int) < (l.length : Int) := by omega
      have HST := Lib.hid hst
      have hnow := hst.now
      clear hv hx hd hn hnl hnb hst
      go_wp2_with (at_builtin; refine wpList_append_int _ _ rfl _ _ 22 rfl 3 Try.underlying22 intinfo _ nowl _ _ rfl rfl rfl hnow HNB.out ?_)
      intro v2 w2 hown2 hkeep hfresh
      have HST2 := Lib.hid (HST.out.grow hown2 hkeep hfresh)
      obtain ⟨a2, cap2, rfl⟩ := hown2.shape
      clear hnow hown2 hkeep hfresh HST
      have hlenv : (nowl ++ [x]).length = nowl.length + 1 := by simp
      obtain ⟨m, hm⟩ : ∃ m, (nowl ++ [x]).length = m := ⟨_, rfl⟩
      have hm2 : m = k + 1 - 50 * d := by rw [← hm, hlenv, HNL.out]; have := HD.out; omega
      rw [hm] at HST2 ⊢
      have HM2 := Lib.hid hm2
      have hout := HST2.out.out
      have hdd : d < 1000000000 := by have := HD.out; omega
      have hmb : m ≤ 50 := by have := HD.out; omega
      clear hlenv hm hm2
      by_cases hfl : k + 1 = l.length ∨ m = 50
      · have hch : nowl ++ [x] = chunk l d := by
          have h1 := HD.out
          have h2 := HM2.out
          rw [HN.out, now_snoc (by omega) HX.out]
          unfold chunk
          by_cases h50 : m = 50
          · congr 1
            omega
          · rw [List.take_of_length_le (by simp; omega), List.take_of_length_le (by simp; omega)]
        have HCH := Lib.hid hch
        have HK2 : Hid ((k + 1 < l.length → d + 1 = (k + 1) / 50 ∧ ([] : List Int) = (l.drop (50 * (d + 1))).take (k + 1 - 50 * (d + 1))) ∧ (k + 1 = l.length → d + 1 = (l.length + 49) / 50)) := by
          have h1 := HD.out
          have h2 := HM2.out
          refine ⟨fun h => ⟨by omega, ?_⟩, fun h => by omega⟩
          rw [show k + 1 - 50 * (d + 1) = 0 from by omega]
          simp
        by_cases h50 : m = 50
        · subst h50
          clear hfl hch
          go_wp2_with (at_builtin; refine wpList_append_one _ _ rfl _ _ 38 rfl 22 (.slice none 0 0) 24 Try.underlying38 slinfo rfl _ d vs (.slice a2 50 cap2) _ rfl rfl rfl rfl hout hdd (by decide) ?_)
          intro v3 w3 hown3 hkeep3 hfresh3
          have HST3 := Lib.hid (HST2.out.flush HCH.out HB.out hown3 hkeep3 hfresh3)
          clear hown3 hkeep3 hfresh3 hout
          go_wp2
          go_roundw
          case rel => exact ⟨k + 1, d + 1, [], vs ++ [.slice a2 50 cap2], by omega, by go_num, HST3.out, HK2⟩
          case measure => simp [intOf]; omega
        · have hm50 : ((m : Int) == 50) = false := by simp; omega
          have hkl1 : ((k : Int) + 1 == (l.length : Int)) = true := by simp; omega
          clear hfl hch h50
          go_wp2_with (at_builtin; refine wpList_append_one _ _ rfl _ _ 38 rfl 22 (.slice none 0 0) 24 Try.underlying38 slinfo rfl _ d vs (.slice a2 m cap2) _ rfl rfl rfl rfl hout hdd (by decide) ?_)
          intro v3 w3 hown3 hkeep3 hfresh3
          have HST3 := Lib.hid (HST2.out.flush HCH.out HB.out hown3 hkeep3 hfresh3)
          clear hown3 hkeep3 hfresh3 hout
          go_wp2
          go_roundw
          case rel => exact ⟨k + 1, d + 1, [], vs ++ [.slice a2 m cap2], by omega, by go_num, HST3.out, HK2⟩
          case measure => simp [intOf]; omega
      · have hm50 : ((m : Int) == 50) = false := by simp; omega
        have hkl1 : ((k : Int) + 1 == (l.length : Int)) = false := by simp; omega
        have HK2 : Hid ((k + 1 < l.length → d = (k + 1) / 50 ∧ nowl ++ [x] = (l.drop (50 * d)).take (k + 1 - 50 * d)) ∧ (k + 1 = l.length → d = (l.length + 49) / 50)) := by
          have h1 := HD.out
          have h2 := HM2.out
          refine ⟨fun h => ⟨by omega, ?_⟩, fun h => by omega⟩
          rw [HN.out, now_snoc (by omega) HX.out]
        clear hfl hout
        go_wp2
        go_roundw
        case rel => exact ⟨k + 1, d, nowl ++ [x], vs, by omega, by go_num, HST2.out, HK2⟩
        case measure => simp [intOf]; omega
    · obtain rfl : k = l.length := by omega
      have hd := HK.out.2 rfl
      have HST := Lib.hid hst
      clear hv hst
      go_wp2
      go_ret
      refine ⟨_, rfl, ⟨vs, ?_, ?_, fun i vi hi => (HST.out.each i vi hi).1⟩, HST.out.bel⟩
      · rw [← hd]
        exact HST.out.out.reads
      · rw [← hd]
        exact HST.out.len

theorem RGroups.shape {w : World} {v : Value} {l : List Int} (h : RGroups w v l) : ∃ a cap, v = .slice a ((l.length + 49) / 50) cap := by
  obtain ⟨vs, ⟨a, cap, hv, _⟩, _⟩ := h
  exact ⟨a, cap, hv⟩
theorem RGroups.at {w : World} {a : Option Addr} {n cap : Nat} {l : List Int} (h : RGroups w (.slice a n cap) l) {k : Nat} (hk : k < n) :
    ∃ b off vi, a = some ⟨b, off, none⟩ ∧ w.cell? ⟨b, off + k, none⟩ = some vi ∧ RInts w vi (chunk l k) := by
  obtain ⟨vs, ⟨a', cap', hv, h1, h2, h3⟩, hlen, hall⟩ := h
  simp only [Value.slice.injEq] at hv
  obtain ⟨rfl, rfl, rfl⟩ := hv
  obtain ⟨b, off, rfl, hb, hc⟩ := h3 (by omega)
  have hx : vs[k]? = some vs[k] := List.getElem?_eq_getElem (by omega)
  exact ⟨b, off, vs[k], rfl, hc k _ hx, hall k _ hx⟩

set_option maxHeartbeats 1000000 in
theorem lawFreqGroups {v : Value} {l : List Int} {i n : Int} {w : World} (hv : RInts w v l) (hi1 : -9223372036854775808 ≤ i) (hi2 : i ≤ 9223372036854775807) (hn1 : -9223372036854775808 ≤ n) (hn2 : n ≤ 9223372036854775807) :
    Calls Try.prog 7 #[v, .int .i64 i, .int .i64 n] w fun e w' => e = .returned (.bool true) ∧ Below w.heap.size w w' := by
  have HV := Lib.hid hv
  obtain ⟨a, cap, rfl, hc1, hc2⟩ := hv.shape
  clear hv
  by_cases hl : l.length ≤ 300
  · -- how many groups: both ways
    have hlen : ∀ w, Calls Try.prog 24 #[.int .i64 (l.length : Int)] w fun e w' => e = .returned (.int .i64 (((l.length + 49) / 50 : Nat) : Int)) ∧ w = w' := by
      intro w
      by_cases h0 : l.length = 0
      · refine (groups_neg _ w (by omega)).mono ?_
        rintro e w' ⟨rfl, rfl⟩
        exact ⟨ret_int (by omega), rfl⟩
      · refine (groups_pos _ w (by omega) (by omega)).mono ?_
        rintro e w' ⟨rfl, rfl⟩
        exact ⟨ret_int (by omega), rfl⟩
    have hnum : ∃ k : Int, (∀ w, Calls Try.prog 24 #[.int .i64 n] w fun e w' => e = .returned (.int .i64 k) ∧ w = w') ∧ ((n ≤ 0 → k = 0) ∧ (0 < n → k = (n - 1) / 50 + 1)) := by
      by_cases h0 : n ≤ 0
      · exact ⟨0, fun w => groups_neg _ w h0, fun _ => rfl, fun h => absurd h (by omega)⟩
      · exact ⟨(n - 1) / 50 + 1, fun w => groups_pos _ w (by omega) hn2, fun h => absurd h h0, fun _ => rfl⟩
    obtain ⟨k, hk, hk2⟩ := hnum
    have HLEN := Lib.hid hlen
    have HNUM := Lib.hid hk
    have HK2 := Lib.hid hk2
    clear hlen hk hk2
    have hgg : ∀ m : Int, (m != m) = false := by simp
    by_cases hin : 0 ≤ i ∧ 50 * i < l.length
    · obtain ⟨hin1, hin2⟩ := hin
      obtain ⟨i, rfl⟩ := Int.eq_ofNat_of_zero_le hin1
      go_enter Try.func7, Try.ntmps7
      go_wp2_with fail
      refine (refgroups_any _ l w hl HV.out).mono ?_
      rintro e w1 ⟨v1, rfl, hr1, hb1⟩
      have HV := Lib.hid (HV.out.below hb1)
      obtain ⟨a3, cap3, rfl⟩ := hr1.shape
      have HR := Lib.hid hr1
      clear hr1
      go_wp2_with fail
      refine (group_ok _ l i _ hl (by omega) HV.out).mono ?_
      rintro e w2 ⟨v2, rfl, hr2, hb2⟩
      have HV := Lib.hid (HV.out.below hb2)
      have HR := Lib.hid (HR.out.below hb2)
      have hb := below_two hb1 hb2
      clear hb1 hb2
      go_wp2_with fail
      refine (HNUM.out _).mono ?_
      rintro e w3 ⟨rfl, rfl⟩
      obtain ⟨D, hD⟩ : ∃ D, (l.length + 49) / 50 = D := ⟨_, rfl⟩
      rw [hD] at HLEN HR ⊢
      have hiD : i < D := by omega
      have hDD := hgg (D : Int)
      have HD := Lib.hid hD
      clear hD
      have hiD' : (i : Int) < (D : Int) := by omega
      obtain ⟨b, off, vi, rfl, hcell, hri⟩ := HR.out.at hiD
      have HRI := Lib.hid hri
      have HR2 := Lib.hid hr2
      clear hri hr2 hgg
      by_cases hn0 : n ≤ 0
      · have hkk := HK2.out.1 hn0
        subst hkk
        go_wp2_with fail
        refine (HLEN.out _).mono ?_
        rintro e w3 ⟨rfl, rfl⟩
        go_wp2_with fail
        refine (ints_same _ _ _ _ HR2.out HRI.out).mono ?_
        rintro e w4 ⟨rfl, hd⟩
        have hb := below_two hb (below_drawn hd)
        clear hd
        go_wp2_with fail
        refine (three_any _).mono ?_
        rintro e w5 ⟨rfl, hb5⟩
        have hb := below_two hb hb5
        go_wp2
        go_ret
        exact ⟨rfl, hb⟩
      · have hkk := HK2.out.2 (by omega)
        subst hkk
        have hnn : (((n - 1) / 50 + 1 - 1 : Int) != (n - 1) / 50) = false := by rw [Int.add_sub_cancel]; simp
        go_wp2_with fail
        refine (HLEN.out _).mono ?_
        rintro e w3 ⟨rfl, rfl⟩
        go_wp2_with fail
        refine (ints_same _ _ _ _ HR2.out HRI.out).mono ?_
        rintro e w4 ⟨rfl, hd⟩
        have hb := below_two hb (below_drawn hd)
        clear hd
        go_wp2_with fail
        refine (three_any _).mono ?_
        rintro e w5 ⟨rfl, hb5⟩
        have hb := below_two hb hb5
        go_wp2
        go_ret
        exact ⟨rfl, hb⟩
    · go_enter Try.func7, Try.ntmps7
      have HIN := Lib.hid hin
      clear hin
      go_wp2_with fail
      refine (refgroups_any _ l w hl HV.out).mono ?_
      rintro e w1 ⟨v1, rfl, hr1, hb⟩
      have HV := Lib.hid (HV.out.below hb)
      obtain ⟨a3, cap3, rfl⟩ := hr1.shape
      clear hr1
      go_wp2_with fail
      refine (group_bad _ l i _ hl HIN.out HV.out).mono ?_
      rintro e w2 ⟨rfl, rfl⟩
      go_wp2_with fail
      refine (HNUM.out _).mono ?_
      rintro e w3 ⟨rfl, rfl⟩
      obtain ⟨D, hD⟩ : ∃ D, (l.length + 49) / 50 = D := ⟨_, rfl⟩
      have hiD : ¬ (0 ≤ i ∧ i < D) := by have := HIN.out; omega
      rw [hD] at HLEN ⊢
      have hDD := hgg (D : Int)
      clear hD hgg
      have HID := Lib.hid hiD
      clear hiD
      by_cases hi0 : 0 ≤ i
      · have hiD : (D : Int) ≤ i := by have := HID.out; omega
        by_cases hn0 : n ≤ 0
        · have hkk := HK2.out.1 hn0
          subst hkk
          go_wp2_with fail
          refine (HLEN.out _).mono ?_
          rintro e w3 ⟨rfl, rfl⟩
          go_wp2_with fail
          refine (three_any _).mono ?_
          rintro e w5 ⟨rfl, hb5⟩
          have hb := below_two hb hb5
          go_wp2
          go_ret
          exact ⟨rfl, hb⟩
        · have hkk := HK2.out.2 (by omega)
          subst hkk
          have hnn : (((n - 1) / 50 + 1 - 1 : Int) != (n - 1) / 50) = false := by rw [Int.add_sub_cancel]; simp
          go_wp2_with fail
          refine (HLEN.out _).mono ?_
          rintro e w3 ⟨rfl, rfl⟩
          go_wp2_with fail
          refine (three_any _).mono ?_
          rintro e w5 ⟨rfl, hb5⟩
          have hb := below_two hb hb5
          go_wp2
          go_ret
          exact ⟨rfl, hb⟩
      · by_cases hn0 : n ≤ 0
        · have hkk := HK2.out.1 hn0
          subst hkk
          go_wp2_with fail
          refine (HLEN.out _).mono ?_
          rintro e w3 ⟨rfl, rfl⟩
          go_wp2_with fail
          refine (three_any _).mono ?_
          rintro e w5 ⟨rfl, hb5⟩
          have hb := below_two hb hb5
          go_wp2
          go_ret
          exact ⟨rfl, hb⟩
        · have hkk := HK2.out.2 (by omega)
          subst hkk
          have hnn : (((n - 1) / 50 + 1 - 1 : Int) != (n - 1) / 50) = false := by rw [Int.add_sub_cancel]; simp
          go_wp2_with fail
          refine (HLEN.out _).mono ?_
          rintro e w3 ⟨rfl, rfl⟩
          go_wp2_with fail
          refine (three_any _).mono ?_
          rintro e w5 ⟨rfl, hb5⟩
          have hb := below_two hb hb5
          go_wp2
          go_ret
          exact ⟨rfl, hb⟩
  · have h2 : (300 : Int) < (l.length : Int) := by omega
    go_enter Try.func7, Try.ntmps7
    go_wp2_with fail
    refine (three_any _).mono ?_
    rintro e w5 ⟨rfl, hb5⟩
    go_wp2
    go_ret
    exact ⟨rfl, hb5⟩
end Go.Proofs.Ytnkjmaignpnkpaa

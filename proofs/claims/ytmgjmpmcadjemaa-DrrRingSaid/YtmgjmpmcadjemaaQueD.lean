/- Package queue: the reference's functions. -/
import Derived.Test.YtmgjmpmcadjemaaQueC
import Derived.Laws.AppendOwnNone
namespace Go.Proofs.Ytmgjmpmcadjemaa
open Go.RowKit

set_option maxHeartbeats 400000 in
theorem place_any (v : Value) (l : List Int) (n : Int) (w : World) (hv : RInts w v l) :
    Calls Try.prog 36 #[v, .int .i64 n] w fun e w' => e = .returned (.int .i64 (placeI l n)) ∧ w = w' := by
  obtain ⟨a, cap, rfl, hc1, hc2⟩ := hv.shape
  obtain ⟨R, hR⟩ : ∃ R, placeI l n = R := ⟨_, rfl⟩
  have HR := Lib.hid hR
  rw [hR]
  clear hR
  go_enter Try.func36, Try.ntmps36
  go_wp2
  go_loop [5, 6, 9] (fun x0 x i => ∃ k : Nat, k ≤ l.length ∧ i = .int .i64 k ∧ Hid (∀ (i : Nat) (y : Int), i < k → l[i]? = some y → eqI n y = false)) (fun _ _ i => l.length - (intOf i).toNat)
  case atStart => exact ⟨0, Nat.zero_le _, rfl, fun i y h _ => absurd h (by omega)⟩
  case round =>
    obtain ⟨k, hk, rfl, HALL⟩ := hrel
    by_cases hlt : k < l.length
    · obtain ⟨b, off, x, rfl, hbb, hx, hcx, hx1, hx2⟩ := hv.at hlt
      have HX := Lib.hid hx
      clear hx hv
      cases hp : (x == n) with
      | true =>
        have HP := Lib.hid (show eqI n x = true by unfold eqI; rw [BEq.comm]; exact hp)
        go_wp2
        go_ret
        exact ⟨ret_int (by rw [← HR.out]; exact (findI_some HX.out HP.out HALL.out).symm), rfl⟩
      | false =>
        have HP := Lib.hid (show eqI n x = false by unfold eqI; rw [BEq.comm]; exact hp)
        go_wp2
        go_round
        case rel =>
          refine ⟨k + 1, by omega, by go_num, fun i y hi hy => ?_⟩
          by_cases e : i = k
          · subst e
            have := HX.out
            rw [this] at hy
            cases hy
            exact HP.out
          · exact HALL.out i y (by omega) hy
        case measure => simp [intOf]; omega
    · obtain rfl : k = l.length := by omega
      go_wp2
      go_ret
      exact ⟨ret_int (by rw [← HR.out]; exact (findI_none fun i y hy => HALL.out i y ((List.getElem?_eq_some_iff.1 hy).1) hy).symm), rfl⟩

theorem bd_snoc {l : List Int} {n : Int} (h : ∀ x ∈ l, -9223372036854775808 ≤ x ∧ x ≤ 9223372036854775807) (h1 : -9223372036854775808 ≤ n) (h2 : n ≤ 9223372036854775807) :
    ∀ x ∈ l ++ [n], -9223372036854775808 ≤ x ∧ x ≤ 9223372036854775807 := by
  intro x hx
  rcases List.mem_append.1 hx with hx | hx
  · exact h x hx
  · simp at hx; subst hx; exact ⟨h1, h2⟩

/-- a nil slice has no room -/
def NilOk (v : Value) : Prop := ∀ n cap, v = .slice none n cap → cap = 0
theorem Own.nilOk {w : World} {e : TypeId} {size : Nat} {v : Value} {n : Nat} {xs : List Value} (h : Own w e size v n xs) : NilOk v := by
  intro m cap hv
  rcases h.2 with h | ⟨g, cap, cur, rfl, _⟩
  · rw [h.1] at hv
    cases hv
    rfl
  · cases hv
theorem NilOk.some {a : Addr} {n cap : Nat} : NilOk (.slice (some a) n cap) := fun m c h => by cases h
theorem NilOk.none : NilOk (.slice none 0 0) := fun m c h => by cases h; rfl

set_option maxHeartbeats 1000000 in
theorem with_any (v : Value) (l : List Int) (n : Int) (w : World) (hl : l.length ≤ 1000) (hv : RInts w v l) (hz : NilOk v) (hn1 : -9223372036854775808 ≤ n) (hn2 : n ≤ 9223372036854775807) :
    Calls Try.prog 81 #[v, .int .i64 n] w fun e w' => ∃ v', e = .returned v' ∧ RInts w' v' (l ++ [n]) ∧ NilOk v' ∧ FreshV w.heap.size v' ∧ Below w.heap.size w w' := by
  obtain ⟨a, cap, rfl, hc1, hc2⟩ := hv.shape
  have HBD := Lib.hid (bd_snoc hv.2 hn1 hn2)
  obtain ⟨i0, hi, hz0, hz1, hz2⟩ := info_parts intinfo
  cases a with
  | none =>
    obtain rfl : l = [] := by
      cases l with
      | nil => rfl
      | cons x l =>
        obtain ⟨b, off, x, h, _⟩ := hv.at (k := 0) (by simp)
        cases h
    obtain rfl : cap = 0 := hz _ _ rfl
    have hown0 := OwnI.nil w 3
    clear hv
    go_enter Try.func81, Try.ntmps81
    go_wp2_with (first | (at_builtin; refine wpList_append_own_none rfl _ _ 28 rfl 0 3 i0 1 Try.underlying28 hi (.slice none 0 0) 0 [] rfl (World.ownsRow_nil _ _ _ _) rfl ?_) | (at_builtin; refine wpList_append_int _ _ rfl _ _ 28 rfl 3 Try.underlying28 intinfo _ [] _ _ rfl rfl rfl hown0 (by decide) ?_))
    intro v1 w1 ho1 hk1 hf1
    have hb1 : Below w.heap.size w w1 := hk1.below (Nat.le_refl _) (fun k hk he => by simp [Value.ownBlock] at he)
    have hfr : FreshV w.heap.size v1 := fun g hg => by
      rcases hf1 g hg with h | h
      · simp [Value.ownBlock] at h
      · exact h
    have hr1 := ho1.reads HBD.out
    have hz1 := Own.nilOk ho1
    clear hown0 ho1 hk1 hf1
    go_wp2
    go_ret
    exact ⟨_, rfl, hr1, hz1, hfr, hb1⟩
  | some ad =>
    have hnews := Lib.hid (hv.1.news (by simp))
    have hown : Own w 3 1 (.slice none 0 0) 0 [] := Own.nil _ _ _
    clear hv
    go_enter Try.func81, Try.ntmps81
    go_wp2_with (at_builtin; refine wpList_append_keep _ rfl _ _ 28 rfl 3 (.int .i64 0) 1 8 Try.underlying28 intinfo rfl (by decide) (.slice none 0 0) 0 [] rfl hown ad l.length cap (l.map (Value.int .i64)) rfl (by simp) hnews.out (one_ints _ _) (by unfold maxLen; omega) (by omega) ?_)
    intro v2 w2 hown2 hkeep hfresh
    have hb2 : Below w.heap.size w w2 := hkeep.below (Nat.le_refl _) (fun k hk he => by simp [Value.ownBlock] at he)
    have hf2 : FreshV w.heap.size v2 := fun g hg => by
      rcases hfresh g hg with h | h
      · simp [Value.ownBlock] at h
      · exact h
    have hown3 : OwnI w2 3 v2 l := by simpa [OwnI] using hown2
    clear hown hown2 hkeep hfresh hnews
    go_wp2_with (at_builtin; refine wpList_append_int _ _ rfl _ _ 28 rfl 3 Try.underlying28 intinfo _ l _ _ rfl rfl rfl hown3 (by omega) ?_)
    intro v3 w3 ho3 hk3 hf3
    have hb3 := below_append hb2 hk3 hf2 hb2.size
    have hfr := hf2.step hb2.size hf3
    have hr3 := ho3.reads HBD.out
    have hz3 := Own.nilOk ho3
    clear hown3 ho3 hk3 hf3 hf2 hb2
    go_wp2
    go_ret
    exact ⟨_, rfl, hr3, hz3, hfr, hb3⟩

def woL (l : List Int) (n : Int) : List Int := l.filter (fun x => !(x == n))
theorem woL_len (l : List Int) (n : Int) (k : Nat) : (woL (l.take k) n).length ≤ l.length :=
  Nat.le_trans (List.length_filter_le _ _) (by simp; omega)
theorem woL_yes {l : List Int} {n x : Int} {k : Nat} (hx : l[k]? = some x) (h : x ≠ n) : woL (l.take (k + 1)) n = woL (l.take k) n ++ [x] := by
  unfold woL
  rw [take_snoc hx, List.filter_append]
  simp [h]
theorem woL_no {l : List Int} {n x : Int} {k : Nat} (hx : l[k]? = some x) (h : x = n) : woL (l.take (k + 1)) n = woL (l.take k) n := by
  unfold woL
  rw [take_snoc hx, List.filter_append]
  simp [h]

set_option maxHeartbeats 1000000 in
theorem wout_any (v : Value) (l : List Int) (n : Int) (w : World) (hl : l.length ≤ 1000) (hv : RInts w v l) :
    Calls Try.prog 91 #[v, .int .i64 n] w fun e w' => ∃ v', e = .returned v' ∧ RInts w' v' (woL l n) ∧ NilOk v' ∧ FreshV w.heap.size v' ∧ Below w.heap.size w w' := by
  obtain ⟨a, cap, rfl, hc1, hc2⟩ := hv.shape
  have HV := Lib.hid hv
  clear hv
  go_enter Try.func91, Try.ntmps91
  go_wp2
  go_loopw [5, 7, 10] (fun v' x i wr => ∃ k : Nat, k ≤ l.length ∧ i = .int .i64 k ∧ Hid (OwnI wr 3 v' (woL (l.take k) n)) ∧ Hid (FreshV w.heap.size v') ∧ Below w.heap.size w wr) (fun _ _ i _ => l.length - (intOf i).toNat)
  case atStart => exact ⟨0, Nat.zero_le _, rfl, OwnI.nil _ _, FreshV.nil _, Below.refl _ _⟩
  case round =>
    obtain ⟨k, hk, rfl, HOWN, HFR, hbel⟩ := hrel
    have hsz := hbel.size
    by_cases hlt : k < l.length
    · obtain ⟨b, off, x, rfl, hbb, hx, hcx, hx1, hx2⟩ := (HV.out.below hbel).at hlt
      by_cases e : x = n
      · have HW := Lib.hid (woL_no hx e)
        have he : (x == n) = true := by simpa using e
        clear hx
        subst e
        go_wp2
        go_roundw
        case rel => exact ⟨k + 1, by omega, by go_num, by rw [HW.out]; exact HOWN.out, HFR.out, hbel⟩
        case measure => simp [intOf]; omega
      · have HW := Lib.hid (woL_yes hx e)
        have he : (x == n) = false := beq_eq_false_iff_ne.2 e
        have hown := HOWN.out
        have HLEN := Lib.hid (woL_len l n k)
        clear hx e
        go_wp2_with (at_builtin; refine wpList_append_int _ _ rfl _ _ 28 rfl 3 Try.underlying28 intinfo _ (woL (l.take k) n) _ _ rfl rfl rfl hown (by have := HLEN.out; omega) ?_)
        intro v2 w2 hown2 hkeep hfresh
        have hbel2 := below_append hbel hkeep HFR.out (by omega)
        have hfr2 := HFR.out.step (by omega) hfresh
        rw [← HW.out] at hown2
        have HO2 := Lib.hid hown2
        have HF2 := Lib.hid hfr2
        clear hown hbel hkeep hfresh hfr2 hown2
        go_wp2
        go_roundw
        case rel => exact ⟨k + 1, by omega, by go_num, HO2.out, HF2.out, hbel2⟩
        case measure => simp [intOf]; omega
    · obtain rfl : k = l.length := by omega
      have HR := Lib.hid (HOWN.out.reads (fun x hx => by
        rw [List.take_length] at hx
        exact HV.out.2 x (List.mem_filter.1 hx).1))
      go_wp2
      go_ret
      exact ⟨_, rfl, by have := HR.out; rwa [List.take_length] at this, Own.nilOk HOWN.out, HFR.out, hbel⟩

theorem RInts.tail {w : World} {b off cap : Nat} {x : Int} {l : List Int} (h : RInts w (.slice (some ⟨b, off, none⟩) (x :: l).length cap) (x :: l)) : RInts w (.slice (some ⟨b, off + 1, none⟩) l.length (cap - 1)) l := by
  obtain ⟨⟨a, c, he, h1, h2, h3⟩, h4⟩ := h
  simp only [Value.slice.injEq] at he
  obtain ⟨rfl, _, rfl⟩ := he
  simp only [List.length_cons] at h1 h3
  refine ⟨⟨_, _, rfl, by omega, by omega, fun hp => ?_⟩, fun y hy => h4 y (by simp [hy])⟩
  obtain ⟨b', off', he, hb, hc⟩ := h3 (by omega)
  cases he
  refine ⟨_, _, rfl, hb, fun i y hy => ?_⟩
  have := hc (i + 1) y (by simpa using hy)
  rw [show off + 1 + i = off + (i + 1) by omega]
  exact this

set_option maxHeartbeats 1000000 in
theorem refrot_any (v : Value) (l : List Int) (w : World) (hl : l.length ≤ 1000) (hv : RInts w v l) :
    Calls Try.prog 86 #[v] w fun e w' => ∃ v', e = .returned v' ∧ RInts w' v' (rotL l) ∧ NilOk v' ∧ FreshV w.heap.size v' ∧ Below w.heap.size w w' := by
  cases l with
  | nil =>
    obtain ⟨a, cap, rfl, hc1, hc2⟩ := hv.shape
    clear hv
    go_enter Try.func86, Try.ntmps86
    go_wp2
    go_ret
    exact ⟨_, rfl, RInts.nil _, NilOk.none, FreshV.nil _, Below.refl _ _⟩
  | cons x l =>
    have HBD := Lib.hid (hv.2 x (by simp))
    obtain ⟨a, cap, rfl, hc1, hc2⟩ := hv.shape
    obtain ⟨b, off, y, rfl, hbb, hy, hcy, _, _⟩ := hv.at (k := 0) (by simp)
    simp at hy
    subst hy
    have hl1 : (x :: l).length = l.length + 1 := rfl
    have hl2 : l.length ≤ 1000 := by omega
    have hln : (((x :: l).length : Int) == 0) = false := beq_eq_false_iff_ne.2 (by omega)
    rw [Nat.add_zero] at hcy
    by_cases hcap : cap = 1
    · subst hcap
      obtain rfl : l = [] := List.eq_nil_of_length_eq_zero (by omega)
      have hr : ∀ w2, RInts w2 (.slice (some ⟨b, off, none⟩) 0 0) [] := fun w2 => ⟨⟨_, _, rfl, Nat.le_refl _, by decide, fun h => absurd h (by decide)⟩, fun x h => by cases h⟩
      clear hv
      go_enter Try.func86, Try.ntmps86
      go_wp2
      go_region_with (go_at_call 81; refine (with_any _ [] x _ (by decide) (hr _) NilOk.some HBD.out.1 HBD.out.2).mono ?_; rintro e w1 ⟨v1, rfl, hr1, hz1, hf1, hb1⟩)
      all_goals
        go_wp2
        go_ret
        exact ⟨_, rfl, hr1, hz1, hf1, (Below.drew (Below.refl _ _)).trans hb1⟩
    · have ht := hv.tail
      generalize hn : (x :: l).length = n at *
      clear hv
      go_enter Try.func86, Try.ntmps86
      go_wp2
      go_region_with (go_at_call 81; refine (with_any _ l x _ hl2 (ht.below (Below.drew (Below.refl _ _))) NilOk.some HBD.out.1 HBD.out.2).mono ?_; rintro e w1 ⟨v1, rfl, hr1, hz1, hf1, hb1⟩)
      all_goals
        go_wp2
        go_ret
        exact ⟨_, rfl, hr1, hz1, hf1, (Below.drew (Below.refl _ _)).trans hb1⟩

end Go.Proofs.Ytmgjmpmcadjemaa

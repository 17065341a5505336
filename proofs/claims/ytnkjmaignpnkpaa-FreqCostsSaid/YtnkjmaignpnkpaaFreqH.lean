/- Groups: slices.Clone, part, Group, and the reference's Groups. -/
import Derived.Test.YtnkjmaignpnkpaaFreqG
namespace Go.Proofs.Ytnkjmaignpnkpaa
open Go.RowKit

set_option maxHeartbeats 400000 in
theorem clone_any (v : Value) (l : List Int) (w : World) (hl : l.length ≤ 1000000) (hv : RInts w v l) :
    Calls Try.prog 33 #[v] w fun e w' => ∃ v', e = .returned v' ∧ RInts w' v' l ∧ Below w.heap.size w w' := by
  obtain ⟨a, cap, rfl, hc1, hc2⟩ := hv.shape
  have hn := fun (w : World) (a : Option Addr) (n c : Nat) => Lib.run_eql_slice_nil (P := Try.prog) w 22 3 a n c 0 0 Try.underlying22
  cases a with
  | none =>
    obtain rfl : l = [] := by
      cases l with
      | nil => rfl
      | cons x l =>
        obtain ⟨b, off, x, h, _⟩ := hv.at (k := 0) (by simp)
        cases h
    go_enter Try.func33, Try.ntmps33
    go_wp2
    go_ret
    exact ⟨_, rfl, RInts.nil _, Below.refl _ _⟩
  | some ad =>
    have hnews := Lib.hid (hv.below (below_alloc w (.cells #[] 3 (0, 0))))
    have hown := own_empty w 3 1
    clear hv
    go_enter Try.func33, Try.ntmps33
    go_wp2_with (at_builtin; refine wpList_append_keep _ rfl _ _ 22 rfl 3 (.int .i64 0) 1 8 Try.underlying22 intinfo rfl (by decide) (.slice (some ⟨w.heap.size, 0, none⟩) 0 0) 0 [] rfl hown ad l.length cap (l.map (Value.int .i64)) rfl (by simp) (hnews.out.1.news (by simp)) (one_ints _ _) (by unfold maxLen; omega) (by omega) ?_)
    intro v2 w2 hown2 hkeep hfresh
    have hb2 : Below w.heap.size w w2 := (below_alloc w _).trans (hkeep.below (by simp) (fun k hk he => by simp [Value.ownBlock] at he; omega))
    have hr2 : RInts w2 v2 l := ⟨by simpa using Own.reads hown2, hnews.out.2⟩
    clear hown hown2 hkeep hfresh hnews
    go_wp2
    go_ret
    exact ⟨_, rfl, hr2, hb2⟩

/-- a list's i'th part of fifty -/
def chunk (l : List Int) (i : Nat) : List Int := (l.drop (50 * i)).take 50

theorem RInts.sub {w : World} {a : Option Addr} {n cap : Nat} {l : List Int} (h : RInts w (.slice a n cap) l) (lo hi : Nat) (h1 : lo < hi) (h2 : hi ≤ n) (b off : Nat) (ha : a = some ⟨b, off, none⟩) :
    RInts w (.slice (some ⟨b, off + lo, none⟩) (hi - lo) (cap - lo)) ((l.drop lo).take (hi - lo)) := by
  subst ha
  have hlen := h.len
  have hl : ((l.drop lo).take (hi - lo)).length = hi - lo := by simp; omega
  refine ⟨?_, fun x hx => h.2 x (List.mem_of_mem_drop (List.mem_of_mem_take hx))⟩
  rw [hl]
  obtain ⟨⟨a', c', hv, g1, g2, g3⟩, _⟩ := h
  simp only [Value.slice.injEq] at hv
  obtain ⟨rfl, hn, rfl⟩ := hv
  obtain ⟨b', off', e, hb, hc⟩ := g3 (by omega)
  cases e
  refine ⟨_, _, rfl, by omega, by omega, fun _ => ⟨b, off + lo, rfl, hb, fun i x hx => ?_⟩⟩
  have hi' : i < hi - lo := by
    have := (List.getElem?_eq_some_iff.1 hx).1
    rw [List.length_map, hl] at this
    exact this
  rw [show off + lo + i = off + (lo + i) from by omega]
  refine hc (lo + i) x ?_
  rw [← hx, List.getElem?_map, List.getElem?_map, List.getElem?_take, if_pos hi', List.getElem?_drop]

theorem chunk_length (l : List Int) (i : Nat) : (chunk l i).length = min 50 (l.length - 50 * i) := by simp [chunk]
theorem RInts.chunk {w : World} {n cap : Nat} {l : List Int} {b off : Nat} (h : RInts w (.slice (some ⟨b, off, none⟩) n cap) l) (i : Nat) (hi : 50 * i < l.length) (m : Nat) (hm : m = (chunk l i).length) :
    RInts w (.slice (some ⟨b, off + i * 50, none⟩) m (cap - i * 50)) (chunk l i) := by
  have hlen := h.len
  rw [chunk_length] at hm
  have := h.sub (50 * i) (50 * i + m) (by omega) (by omega) b off rfl
  have e : (l.drop (50 * i)).take (50 * i + m - 50 * i) = Go.Proofs.Ytnkjmaignpnkpaa.chunk l i := by
    unfold Go.Proofs.Ytnkjmaignpnkpaa.chunk
    rw [show 50 * i + m - 50 * i = m from by omega]
    by_cases h50 : m = 50
    · rw [h50]
    · rw [List.take_of_length_le (by simp; omega), List.take_of_length_le (by simp; omega)]
  rw [e, show 50 * i + m - 50 * i = m from by omega, Nat.mul_comm 50 i] at this
  exact this

set_option maxHeartbeats 400000 in
theorem part_any (v : Value) (l : List Int) (i : Nat) (w : World) (hl : l.length ≤ 300) (hi : 50 * i < l.length) (hv : RInts w v l) :
    Calls Try.prog 29 #[v, .int .i64 i, .int .i64 50] w fun e w' => ∃ v', e = .returned v' ∧ RInts w' v' (chunk l i) ∧ Below w.heap.size w w' := by
  obtain ⟨a, cap, rfl, hc1, hc2⟩ := hv.shape
  obtain ⟨b, off, x, rfl, hbb, hx, hcx, _, _⟩ := hv.at hi
  have HCH := Lib.hid (hv.chunk i hi)
  have hcl := chunk_length l i
  have HCL := Lib.hid hcl
  clear hx hcx hv hcl
  go_enter Try.func29, Try.ntmps29
  go_wp2_with fail
  all_goals
    refine (clone_any _ (chunk l i) w (by rw [HCL.out]; omega) (HCH.out _ (by rw [HCL.out]; omega))).mono ?_
    rintro e w1 ⟨v1, rfl, hr1, hb1⟩
    go_wp2
    go_ret
    exact ⟨_, rfl, hr1, hb1⟩

set_option maxHeartbeats 400000 in
theorem group_ok (v : Value) (l : List Int) (i : Nat) (w : World) (hl : l.length ≤ 300) (hi : 50 * i < l.length) (hv : RInts w v l) :
    Calls Try.prog 23 #[v, .int .i64 i] w fun e w' => ∃ v', e = .returned (.tuple #[v', .int .i64 0]) ∧ RInts w' v' (chunk l i) ∧ Below w.heap.size w w' := by
  have HP := Lib.hid (part_any v l i w hl hi hv)
  obtain ⟨a, cap, rfl, hc1, hc2⟩ := hv.shape
  clear hv
  have hg : (i : Int) < ((l.length : Int) - 1) / 50 + 1 := by omega
  go_enter Try.func23, Try.ntmps23
  go_wp2_with fail
  refine (groups_pos _ w (by omega) (by omega)).mono ?_
  rintro e w1 ⟨rfl, rfl⟩
  go_wp2_with fail
  refine HP.out.mono ?_
  rintro e w1 ⟨v1, rfl, hr1, hb1⟩
  go_wp2
  go_ret2
  exact ⟨_, rfl, hr1, hb1⟩

set_option maxHeartbeats 400000 in
theorem group_bad (v : Value) (l : List Int) (i : Int) (w : World) (hl : l.length ≤ 300) (hi : ¬ (0 ≤ i ∧ 50 * i < l.length)) (hv : RInts w v l) :
    Calls Try.prog 23 #[v, .int .i64 i] w fun e w' => e = .returned (.tuple #[.slice none 0 0, .int .i64 1]) ∧ w = w' := by
  obtain ⟨a, cap, rfl, hc1, hc2⟩ := hv.shape
  clear hv
  by_cases h0 : 0 ≤ i
  · by_cases hn : l.length = 0
    · have hn0 : (l.length : Int) ≤ 0 := by omega
      clear hi hn
      go_enter Try.func23, Try.ntmps23
      go_wp2_with fail
      refine (groups_neg _ w hn0).mono ?_
      rintro e w1 ⟨rfl, rfl⟩
      go_wp2
      go_ret2
      exact ⟨rfl, rfl⟩
    · have hg : ((l.length : Int) - 1) / 50 + 1 ≤ i := by omega
      clear hi
      go_enter Try.func23, Try.ntmps23
      go_wp2_with fail
      refine (groups_pos _ w (by omega) (by omega)).mono ?_
      rintro e w1 ⟨rfl, rfl⟩
      go_wp2
      go_ret2
      exact ⟨rfl, rfl⟩
  · clear hi
    go_enter Try.func23, Try.ntmps23
    go_wp2
    go_ret2
    exact ⟨rfl, rfl⟩
end Go.Proofs.Ytnkjmaignpnkpaa

/- Package queue: QueueActs. -/
import Derived.Test.YtfphdcfbkknpbaaQueG
import Derived.Test.YtfphdcfbkknpbaaQueZ
import Derived.Test.YtfphdcfbkknpbaaRs
namespace Go.Proofs.Ytfphdcfbkknpbaa
open Go.RowKit

/-- what an act tells by the program -/
def Done (G : Nat → Prop) (B b : Nat) (lim : Int) (l : List Int) (k n : Int) (e : Ending) (w w' : World) : Prop :=
  e = .returned (.tuple #[.int .i64 (stN l k), .int .i64 (stE lim l k n)]) ∧ QActs G B b lim (stL lim l k n) w w'

set_option maxHeartbeats 400000 in
theorem done_push (G : Nat → Prop) (B b : Nat) (lim : Int) (l : List Int) (n : Int) (w : World) (h : QZ G B b lim l w) (hl : l.length ≤ 500) (hn1 : -9223372036854775808 ≤ n) (hn2 : n ≤ 9223372036854775807) :
    Calls Try.prog 52 #[.pointer (some ⟨b, 0, none⟩), .agg #[.int .i64 0, .int .i64 n]] w fun e w' => Done G B b lim l 0 n e w w' := by
  have hal := below_alloc w (.cells #[.int .i64 0, .int .i64 n] 72 (0, 0))
  have HC := Lib.hid (zpush_any G B b lim l n _ (h.below hal) (by omega) hn1 hn2)
  have HAL := Lib.hid (Keep.of_below hal (Zone B G))
  have HE := Lib.hid (show stE lim l 0 n = pushE lim l n ∧ stN l 0 = 0 ∧ stL lim l 0 n = pushL lim l n from ⟨rfl, rfl, rfl⟩)
  obtain ⟨er, her⟩ : ∃ z, pushE lim l n = z := ⟨_, rfl⟩
  rw [her] at HC HE
  clear her
  clear h hal
  go_enter Try.func52, Try.ntmps52
  go_wp2_with fail
  refine HC.out.mono ?_
  rintro e w1 ⟨rfl, hq, hb⟩
  clear HC
  go_wp2
  go_ret2
  exact ⟨by rw [HE.out.1, HE.out.2.1]; rfl, by rw [HE.out.2.2]; exact hq, HAL.out.trans hb⟩

set_option maxHeartbeats 400000 in
theorem done_pop (G : Nat → Prop) (B b : Nat) (lim : Int) (l : List Int) (n : Int) (w : World) (h : QZ G B b lim l w) (hl : l.length ≤ 500)  :
    Calls Try.prog 52 #[.pointer (some ⟨b, 0, none⟩), .agg #[.int .i64 1, .int .i64 n]] w fun e w' => Done G B b lim l 1 n e w w' := by
  have hal := below_alloc w (.cells #[.int .i64 1, .int .i64 n] 72 (0, 0))
  have HC := Lib.hid (zpop_any G B b lim l _ (h.below hal) (by omega))
  have HAL := Lib.hid (Keep.of_below hal (Zone B G))
  have HE := Lib.hid (show stE lim l 1 n = popE l ∧ stN l 1 = l.headD 0 ∧ stL lim l 1 n = l.tail from ⟨rfl, rfl, rfl⟩)
  obtain ⟨er, her⟩ : ∃ z, popE l = z := ⟨_, rfl⟩
  obtain ⟨nn, hnn⟩ : ∃ z, l.headD 0 = z := ⟨_, rfl⟩
  rw [her, hnn] at HC HE
  clear her hnn
  clear h hal
  go_enter Try.func52, Try.ntmps52
  go_wp2_with fail
  refine HC.out.mono ?_
  rintro e w1 ⟨rfl, hq, hb⟩
  clear HC
  go_wp2
  go_ret2
  exact ⟨by rw [HE.out.1, HE.out.2.1]; rfl, by rw [HE.out.2.2]; exact hq, HAL.out.trans hb⟩

set_option maxHeartbeats 400000 in
theorem done_rem (G : Nat → Prop) (B b : Nat) (lim : Int) (l : List Int) (n : Int) (w : World) (h : QZ G B b lim l w) (hl : l.length ≤ 500)  :
    Calls Try.prog 52 #[.pointer (some ⟨b, 0, none⟩), .agg #[.int .i64 2, .int .i64 n]] w fun e w' => Done G B b lim l 2 n e w w' := by
  have hal := below_alloc w (.cells #[.int .i64 2, .int .i64 n] 72 (0, 0))
  have HC := Lib.hid (zrem_any G B b lim l n _ (h.below hal) (by omega))
  have HAL := Lib.hid (Keep.of_below hal (Zone B G))
  have HE := Lib.hid (show stE lim l 2 n = remE l n ∧ stN l 2 = 0 ∧ stL lim l 2 n = l.erase n from ⟨rfl, rfl, rfl⟩)
  obtain ⟨er, her⟩ : ∃ z, remE l n = z := ⟨_, rfl⟩
  rw [her] at HC HE
  clear her
  clear h hal
  go_enter Try.func52, Try.ntmps52
  go_wp2_with fail
  refine HC.out.mono ?_
  rintro e w1 ⟨rfl, hq, hb⟩
  clear HC
  go_wp2
  go_ret2
  exact ⟨by rw [HE.out.1, HE.out.2.1]; rfl, by rw [HE.out.2.2]; exact hq, HAL.out.trans hb⟩

set_option maxHeartbeats 400000 in
theorem done_rot (G : Nat → Prop) (B b : Nat) (lim : Int) (l : List Int) (n : Int) (w : World) (h : QZ G B b lim l w) (hl : l.length ≤ 500)  :
    Calls Try.prog 52 #[.pointer (some ⟨b, 0, none⟩), .agg #[.int .i64 3, .int .i64 n]] w fun e w' => Done G B b lim l 3 n e w w' := by
  have hal := below_alloc w (.cells #[.int .i64 3, .int .i64 n] 72 (0, 0))
  have HC := Lib.hid (zrot_any G B b lim l _ (h.below hal) (by omega))
  have HAL := Lib.hid (Keep.of_below hal (Zone B G))
  have HE := Lib.hid (show stE lim l 3 n = 0 ∧ stN l 3 = 0 ∧ stL lim l 3 n = rotL l from ⟨rfl, rfl, rfl⟩)
  clear h hal
  go_enter Try.func52, Try.ntmps52
  go_wp2_with fail
  refine HC.out.mono ?_
  rintro e w1 ⟨rfl, hq, hb⟩
  clear HC
  go_wp2
  go_ret2
  exact ⟨by rw [HE.out.1, HE.out.2.1]; rfl, by rw [HE.out.2.2]; exact hq, HAL.out.trans hb⟩

set_option maxHeartbeats 400000 in
theorem done_front (G : Nat → Prop) (B b : Nat) (lim : Int) (l : List Int) (k n : Int) (w : World) (h : QZ G B b lim l w) (hl : l.length ≤ 500) (h0 : k ≠ 0) (h1 : k ≠ 1) (h2 : k ≠ 2) (h3 : k ≠ 3) :
    Calls Try.prog 52 #[.pointer (some ⟨b, 0, none⟩), .agg #[.int .i64 k, .int .i64 n]] w fun e w' => Done G B b lim l k n e w w' := by
  have hal := below_alloc w (.cells #[.int .i64 k, .int .i64 n] 72 (0, 0))
  have HC := Lib.hid (zfront_any G B b lim l _ (h.below hal) (by omega))
  have HAL := Lib.hid (Keep.of_below hal (Zone B G))
  have HE := Lib.hid (show stE lim l k n = popE l ∧ stN l k = l.headD 0 ∧ stL lim l k n = l by
    unfold stE stN stL
    rw [if_neg h0, if_neg h0, if_neg h0, if_neg h1, if_neg h1, if_neg h1, if_neg h2, if_neg h2, if_neg h2, if_neg h3, if_neg h3, if_neg h3]
    exact ⟨rfl, rfl, rfl⟩)
  have k0 : (k == 0) = false := beq_eq_false_iff_ne.2 h0
  have k1 : (k == 1) = false := beq_eq_false_iff_ne.2 h1
  have k2 : (k == 2) = false := beq_eq_false_iff_ne.2 h2
  have k3 : (k == 3) = false := beq_eq_false_iff_ne.2 h3
  have HQ := Lib.hid (h.below hal)
  obtain ⟨er, her⟩ : ∃ z, popE l = z := ⟨_, rfl⟩
  obtain ⟨nn, hnn⟩ : ∃ z, l.headD 0 = z := ⟨_, rfl⟩
  rw [her, hnn] at HC HE
  clear her hnn h0 h1 h2 h3
  clear h hal
  go_enter Try.func52, Try.ntmps52
  go_wp2_with fail
  refine HC.out.mono ?_
  rintro e w1 ⟨rfl, rfl⟩
  clear HC
  go_wp2
  go_ret2
  exact ⟨by rw [HE.out.1, HE.out.2.1]; rfl, by rw [HE.out.2.2]; exact HQ.out, HAL.out⟩

theorem done_any (G : Nat → Prop) (B b : Nat) (lim : Int) (l : List Int) (k n : Int) (w : World) (h : QZ G B b lim l w) (hl : l.length ≤ 500) (hn1 : -9223372036854775808 ≤ n) (hn2 : n ≤ 9223372036854775807) :
    Calls Try.prog 52 #[.pointer (some ⟨b, 0, none⟩), .agg #[.int .i64 k, .int .i64 n]] w fun e w' => Done G B b lim l k n e w w' := by
  by_cases h0 : k = 0
  · subst h0; exact done_push G B b lim l n w h hl hn1 hn2
  · by_cases h1 : k = 1
    · subst h1; exact done_pop G B b lim l n w h hl
    · by_cases h2 : k = 2
      · subst h2; exact done_rem G B b lim l n w h hl
      · by_cases h3 : k = 3
        · subst h3; exact done_rot G B b lim l n w h hl
        · exact done_front G B b lim l k n w h hl h0 h1 h2 h3

theorem stL_len (lim : Int) (l : List Int) (k n : Int) : (stL lim l k n).length ≤ l.length + 1 := by
  unfold stL
  split
  · unfold pushL; split <;> simp
  · split
    · simp; omega
    · split
      · have := List.length_erase_le (a := n) (l := l); omega
      · split
        · cases l <;> simp [rotL]
        · omega
theorem rotL_perm (l : List Int) : (rotL l).Perm l := by
  cases l with
  | nil => exact List.Perm.refl _
  | cons x l => exact (List.perm_append_comm (l₁ := l) (l₂ := [x]))
theorem stL_nodup {lim : Int} {l : List Int} {k n : Int} (h : l.Nodup) : (stL lim l k n).Nodup := by
  unfold stL
  split
  · unfold pushL
    split
    · rename_i hp
      have hh : hasI l n = false := by
        cases hq : hasI l n with
        | false => rfl
        | true => rw [pushE_has hq] at hp; exact absurd hp (by decide)
      rw [List.nodup_append]
      refine ⟨h, by simp, ?_⟩
      intro a ha b hb
      simp at hb
      subst hb
      intro e
      subst e
      rw [hasI_mem.2 ha] at hh
      cases hh
    · exact h
  · split
    · exact h.tail
    · split
      · exact h.erase _
      · split
        · exact (rotL_perm l).nodup_iff.2 h
        · exact h
end Go.Proofs.Ytfphdcfbkknpbaa

/- Package queue: what an act tells, by the reference and by the program. -/
import Derived.Test.YtfphdcfbkknpbaaQueF
namespace Go.Proofs.Ytfphdcfbkknpbaa
open Go.RowKit

theorem below_alloc2 (w : World) (o1 o2 : Obj) : Below w.heap.size w ((w.alloc o1).alloc o2) := ((Below.refl _ _).alloc (Nat.le_refl _) _).alloc (by simp) _

/-- a step's value -/
theorem first_any (v : Value) (l : List Int) (w : World) (hv : RInts w v l) (hz : NilOk v) (hl : l.length ≤ 1000) :
    Calls Try.prog 71 #[v] w fun e w' => ∃ v', e = .returned (.agg #[v', .int .i64 (l.headD 0), .int .i64 (popE l)]) ∧ RInts w' v' l ∧ NilOk v' ∧ Below w.heap.size w w' ∧ (l ≠ [] → v' = v) := by
  cases l with
  | nil =>
    obtain ⟨a, cap, rfl, hc1, hc2⟩ := hv.shape
    clear hv
    go_enter Try.func71, Try.ntmps71
    go_wp2
    refine bodyPost_ret (v := .agg #[.slice none 0 0, .int .i64 0, .int .i64 6]) (by simp [results, Try.results71, go_sem]) rfl ?_
    exact ⟨_, rfl, RInts.nil _, NilOk.none, (Below.refl _ _).alloc (Nat.le_refl _) _, fun h => absurd rfl h⟩
  | cons x l =>
    obtain ⟨a, cap, rfl, hc1, hc2⟩ := hv.shape
    obtain ⟨b, off, y, rfl, hbb, hy, hcy, _, _⟩ := hv.at (k := 0) (by simp)
    simp at hy
    subst hy
    have hln : (((x :: l).length : Int) == 0) = false := beq_eq_false_iff_ne.2 (by rw [List.length_cons]; omega)
    have hl0 : (0 : Int) < ((x :: l).length : Int) := by rw [List.length_cons]; omega
    have HV := Lib.hid hv
    rw [Nat.add_zero] at hcy
    obtain ⟨n, hn⟩ : ∃ n, (x :: l).length = n := ⟨_, rfl⟩
    rw [hn] at hln hl0 HV ⊢
    have HH := Lib.hid (show (x :: l).headD 0 = x from rfl)
    have HE := Lib.hid (show popE (x :: l) = 0 by unfold popE; simp)
    clear hv hn hl
    go_enter Try.func71, Try.ntmps71
    go_wp2
    refine bodyPost_ret (v := .agg #[.slice (some ⟨b, off, none⟩) n cap, .int .i64 x, .int .i64 0]) (by simp [results, Try.results71, go_sem]) rfl ?_
    have hb := (Below.refl w.heap.size w).alloc (Nat.le_refl _) (Obj.cells #[.slice (some ⟨b, off, none⟩) n cap, .int .i64 x, .int .i64 0] 74 (0, 0))
    exact ⟨_, by rw [HH.out, HE.out], HV.out.below hb, NilOk.some, hb, fun _ => rfl⟩

def stE (lim : Int) (l : List Int) (k n : Int) : Int := if k = 0 then pushE lim l n else if k = 1 then popE l else if k = 2 then remE l n else if k = 3 then 0 else popE l
def stN (l : List Int) (k : Int) : Int := if k = 0 then 0 else if k = 1 then l.headD 0 else if k = 2 then 0 else if k = 3 then 0 else l.headD 0
def stL (lim : Int) (l : List Int) (k n : Int) : List Int := if k = 0 then pushL lim l n else if k = 1 then l.tail else if k = 2 then l.erase n else if k = 3 then rotL l else l

/-- what an act tells by the reference -/
def Acted (v : Value) (lim : Int) (l : List Int) (k n : Int) (w : World) (e : Ending) (w' : World) : Prop :=
  ∃ v', e = .returned (.agg #[v', .int .i64 (stN l k), .int .i64 (stE lim l k n)]) ∧ RInts w' v' (stL lim l k n) ∧ NilOk v' ∧ Below w.heap.size w w' ∧
    (stL lim l k n ≠ [] → ∀ g, v'.ownBlock = some g → (l ≠ [] ∧ v.ownBlock = some g) ∨ w.heap.size ≤ g)

theorem RInts.empty {w w' : World} {v : Value} (h : RInts w v []) : RInts w' v [] := by
  obtain ⟨⟨a, c, he, h1, h2, h3⟩, h4⟩ := h
  exact ⟨⟨a, c, he, h1, h2, fun hp => absurd hp (by decide)⟩, h4⟩
theorem store3' {w w2 : World} {B2 : Nat} {u0 u1 u2 v2 : Value} {l : List Int} (hr : RInts w2 v2 l) (hB : w.heap.size ≤ B2) (hn : l ≠ [] → v2.ownBlock ≠ some B2) (hb : Below w.heap.size w w2) :
    RInts (((w2.setCell ⟨B2, 0, none⟩ u0).setCell ⟨B2, 1, none⟩ u1).setCell ⟨B2, 2, none⟩ u2) v2 l ∧ Below w.heap.size w (((w2.setCell ⟨B2, 0, none⟩ u0).setCell ⟨B2, 1, none⟩ u1).setCell ⟨B2, 2, none⟩ u2) := by
  have k : Keep (fun j => j = B2) w2 (((w2.setCell ⟨B2, 0, none⟩ u0).setCell ⟨B2, 1, none⟩ u1).setCell ⟨B2, 2, none⟩ u2) :=
    keep_setCell (S := fun j => j = B2) (keep_setCell (S := fun j => j = B2) (keep_setCell (S := fun j => j = B2) (Keep.refl _ _) rfl _) rfl _) rfl _
  refine ⟨?_, hb.trans (k.below hb.size (fun j hj e => by have h : j = B2 := e; omega))⟩
  cases l with
  | nil => exact hr.empty
  | cons x l => exact hr.keep k (fun b hb e => by have h : b = B2 := e; subst h; exact hn (by simp) hb)
theorem store3 {w w2 : World} {B2 : Nat} {u0 u1 u2 v2 : Value} {l : List Int} (hr : RInts w2 v2 l) (hB : w.heap.size ≤ B2) (hn : v2.ownBlock ≠ some B2) (hb : Below w.heap.size w w2) :
    RInts (((w2.setCell ⟨B2, 0, none⟩ u0).setCell ⟨B2, 1, none⟩ u1).setCell ⟨B2, 2, none⟩ u2) v2 l ∧ Below w.heap.size w (((w2.setCell ⟨B2, 0, none⟩ u0).setCell ⟨B2, 1, none⟩ u1).setCell ⟨B2, 2, none⟩ u2) := by
  have k : Keep (fun j => j = B2) w2 (((w2.setCell ⟨B2, 0, none⟩ u0).setCell ⟨B2, 1, none⟩ u1).setCell ⟨B2, 2, none⟩ u2) :=
    keep_setCell (S := fun j => j = B2) (keep_setCell (S := fun j => j = B2) (keep_setCell (S := fun j => j = B2) (Keep.refl _ _) rfl _) rfl _) rfl _
  exact ⟨hr.keep k (fun b hb e => by have h : b = B2 := e; subst h; exact hn hb), hb.trans (k.below hb.size (fun j hj e => by have h : j = B2 := e; omega))⟩
theorem fresh_ne {B b : Nat} {v : Value} (h : FreshV B v) (hb : b < B) : v.ownBlock ≠ some b := fun e => by have := h b e; omega

theorem woL_erase {l : List Int} {n : Int} (h : l.Nodup) : woL l n = l.erase n := (erase_filter h).symm

set_option maxRecDepth 100000 in
set_option maxHeartbeats 1000000 in
theorem act_push (v : Value) (l : List Int) (lim n : Int) (w : World) (hv : RInts w v l) (hz : NilOk v) (hl : l.length ≤ 500) (hn1 : -9223372036854775808 ≤ n) (hn2 : n ≤ 9223372036854775807) :
    Calls Try.prog 51 #[v, .int .i64 lim, .agg #[.int .i64 0, .int .i64 n]] w (Acted v lim l 0 n w) := by
  have h0 : Below w.heap.size w ((w.alloc (.cells #[.int .i64 0, .int .i64 n] 72 (0, 0))).alloc (.cells #[.slice none 0 0, .int .i64 0, .int .i64 0] 74 (0, 0))) :=
    ((Below.refl _ _).alloc (Nat.le_refl _) _).alloc (by simp) _
  have HP := Lib.hid (place_any v l n _ (hv.below h0))
  have HW := Lib.hid (with_any v l n _ (by omega) (hv.below h0) hz hn1 hn2)
  have HV := Lib.hid hv
  have HZ := Lib.hid hz
  have H0 := Lib.hid h0
  have hpl := placeI_has l n
  obtain ⟨r, hr⟩ : ∃ r, placeI l n = r := ⟨_, rfl⟩
  rw [hr] at HP hpl
  obtain ⟨a, cap, rfl, hc1, hc2⟩ := hv.shape
  cases hh : hasI l n with
  | true =>
    have h0r : 0 ≤ r := hpl.2 hh
    have HE := Lib.hid (show stE lim l 0 n = 8 ∧ stN l 0 = 0 ∧ stL lim l 0 n = l by unfold stE stN stL; rw [if_pos rfl, if_pos rfl, if_pos rfl, pushE_has hh, pushL_has hh]; exact ⟨rfl, rfl, rfl⟩)
    clear hv h0 hz hh hr hpl HW
    go_enter Try.func51, Try.ntmps51
    go_wp2_with fail
    refine HP.out.mono ?_
    rintro e w1 ⟨rfl, rfl⟩
    clear HP
    go_wp2
    refine bodyPost_ret (v := .agg #[.slice a l.length cap, .int .i64 0, .int .i64 8]) (by simp [results, Try.results51, go_sem]) rfl ?_
    refine ⟨_, by rw [HE.out.1, HE.out.2.1], by rw [HE.out.2.2]; exact HV.out.below (below_alloc2 _ _ _), HZ.out, below_alloc2 _ _ _, fun h g hg => .inl ⟨by rw [← HE.out.2.2]; exact h, hg⟩⟩
  | false =>
    have h0r : r < 0 := by
      rw [hh] at hpl
      by_cases h : 0 ≤ r
      · exact absurd (hpl.1 h) (by decide)
      · omega
    by_cases hlim : (l.length : Int) = lim
    · have HE := Lib.hid (show stE lim l 0 n = 5 ∧ stN l 0 = 0 ∧ stL lim l 0 n = l by unfold stE stN stL pushL; rw [if_pos rfl, if_pos rfl, if_pos rfl, pushE_full hh hlim]; exact ⟨rfl, rfl, rfl⟩)
      have hlm : ((l.length : Int) == lim) = true := by rw [beq_iff_eq]; exact hlim
      clear hv h0 hz hh hr hpl HW hlim
      go_enter Try.func51, Try.ntmps51
      go_wp2_with fail
      refine HP.out.mono ?_
      rintro e w1 ⟨rfl, rfl⟩
      clear HP
      go_wp2
      refine bodyPost_ret (v := .agg #[.slice a l.length cap, .int .i64 0, .int .i64 5]) (by simp [results, Try.results51, go_sem]) rfl ?_
      refine ⟨_, by rw [HE.out.1, HE.out.2.1], by rw [HE.out.2.2]; exact HV.out.below (below_alloc2 _ _ _), HZ.out, below_alloc2 _ _ _, fun h g hg => .inl ⟨by rw [← HE.out.2.2]; exact h, hg⟩⟩
    · have HE := Lib.hid (show stE lim l 0 n = 0 ∧ stN l 0 = 0 ∧ stL lim l 0 n = l ++ [n] by unfold stE stN stL pushL; rw [if_pos rfl, if_pos rfl, if_pos rfl, pushE_ok hh hlim, if_pos rfl]; exact ⟨rfl, rfl, rfl⟩)
      have hlm : ((l.length : Int) == lim) = false := beq_eq_false_iff_ne.2 hlim
      have B2 := Blk.new (w.alloc (.cells #[.int .i64 0, .int .i64 n] 72 (0, 0))) [.slice none 0 0, .int .i64 0, .int .i64 0] 74
      simp only [World.size_alloc] at B2
      have HB2 := Lib.hid B2
      clear hv h0 hz hh hr hpl hlim B2
      go_enter Try.func51, Try.ntmps51
      go_wp2_with fail
      refine HP.out.mono ?_
      rintro e w1 ⟨rfl, rfl⟩
      clear HP
      go_wp2_with fail
      refine HW.out.mono ?_
      rintro e w2 ⟨v2, rfl, hr2, hz2, hf2, hb2⟩
      obtain ⟨a2, cap2, hv2, _, _⟩ := hr2.shape
      obtain ⟨n2, hn2e⟩ : ∃ z, (l ++ [n]).length = z := ⟨_, rfl⟩
      rw [hn2e] at hv2
      subst hv2
      have C2 := HB2.out.below hb2
      have c20 := C2.cell (i := 0) rfl
      have c21 := C2.cell (i := 1) rfl
      have c22 := C2.cell (i := 2) rfl
      have f20 := C2.free 0
      have f21 := C2.free 1
      have f22 := C2.free 2
      have hbl := C2.lt
      have HR2 := Lib.hid hr2
      have HZ2 := Lib.hid hz2
      have HF2 := Lib.hid hf2
      have HBE := Lib.hid (below_two H0.out hb2)
      clear hr2 hz2 hf2 hb2 C2 HW hn2e
      go_wp2
      refine bodyPost_ret (v := .agg #[.slice a2 n2 cap2, .int .i64 0, .int .i64 0]) (by simp [results, Try.results51, go_sem, hbl, c20, c21, c22, f20, f21, f22]) rfl ?_
      have hs3 := store3 (B2 := w.heap.size + 1) (u0 := .slice a2 n2 cap2) (u1 := .int .i64 0) (u2 := .int .i64 0) HR2.out (by omega) (fresh_ne HF2.out (by simp)) HBE.out
      exact ⟨_, by rw [HE.out.1, HE.out.2.1], by rw [HE.out.2.2]; exact hs3.1, HZ2.out, hs3.2, fun _ g hg => .inr (Nat.le_trans H0.out.size (HF2.out g hg))⟩

set_option maxRecDepth 100000 in
set_option maxHeartbeats 1000000 in
theorem act_rem (v : Value) (l : List Int) (lim n : Int) (w : World) (hv : RInts w v l) (hz : NilOk v) (hl : l.length ≤ 500) (hd : l.Nodup) :
    Calls Try.prog 51 #[v, .int .i64 lim, .agg #[.int .i64 2, .int .i64 n]] w (Acted v lim l 2 n w) := by
  have h0 : Below w.heap.size w ((w.alloc (.cells #[.int .i64 2, .int .i64 n] 72 (0, 0))).alloc (.cells #[.slice none 0 0, .int .i64 0, .int .i64 0] 74 (0, 0))) :=
    ((Below.refl _ _).alloc (Nat.le_refl _) _).alloc (by simp) _
  have B2 := Blk.new (w.alloc (.cells #[.int .i64 2, .int .i64 n] 72 (0, 0))) [.slice none 0 0, .int .i64 0, .int .i64 0] 74
  simp only [World.size_alloc] at B2
  have HB2 := Lib.hid B2
  have HV := Lib.hid hv
  have HZ := Lib.hid hz
  have H0 := Lib.hid h0
  have HP := Lib.hid (place_any v l n _ (hv.below h0))
  have HW := Lib.hid (wout_any v l n _ (by omega) (hv.below h0))
  have hpl := placeI_has l n
  obtain ⟨r, hr⟩ : ∃ r, placeI l n = r := ⟨_, rfl⟩
  rw [hr] at HP hpl
  cases hh : hasI l n with
  | false =>
    obtain ⟨a, cap, rfl, hc1, hc2⟩ := hv.shape
    have h0r : decide (r < 0) = true := by
      rw [hh] at hpl
      by_cases h : 0 ≤ r
      · exact absurd (hpl.1 h) (by decide)
      · exact decide_eq_true (by omega)
    have HE := Lib.hid (show stE lim l 2 n = 6 ∧ stN l 2 = 0 ∧ stL lim l 2 n = l by
      have e1 : stE lim l 2 n = remE l n := rfl
      have e3 : stL lim l 2 n = l.erase n := rfl
      rw [e1, e3, remE, if_neg (by rw [hh]; decide), erase_no hh]
      exact ⟨rfl, rfl, rfl⟩)
    clear hv h0 hz hh hr hpl HW B2 HB2 hd
    go_enter Try.func51, Try.ntmps51
    go_wp2_with fail
    refine HP.out.mono ?_
    rintro e w1 ⟨rfl, rfl⟩
    clear HP
    go_wp2
    refine bodyPost_ret (v := .agg #[.slice a l.length cap, .int .i64 0, .int .i64 6]) (by simp [results, Try.results51, go_sem]) rfl ?_
    exact ⟨_, by rw [HE.out.1, HE.out.2.1], by rw [HE.out.2.2]; exact HV.out.below (below_alloc2 _ _ _), HZ.out, below_alloc2 _ _ _, fun h g hg => .inl ⟨by rw [← HE.out.2.2]; exact h, hg⟩⟩
  | true =>
    have h0r : decide (r < 0) = false := by
      have := hpl.2 hh
      exact decide_eq_false (by omega)
    have HE := Lib.hid (show stE lim l 2 n = 0 ∧ stN l 2 = 0 ∧ stL lim l 2 n = woL l n by
      have e1 : stE lim l 2 n = remE l n := rfl
      have e3 : stL lim l 2 n = l.erase n := rfl
      rw [e1, e3, remE, if_pos hh, woL_erase hd]
      exact ⟨rfl, rfl, rfl⟩)
    clear hv h0 hz hh hr hpl B2 hd
    go_enter Try.func51, Try.ntmps51
    go_wp2_with fail
    refine HP.out.mono ?_
    rintro e w1 ⟨rfl, rfl⟩
    clear HP
    go_wp2_with fail
    refine HW.out.mono ?_
    rintro e w2 ⟨v2, rfl, hr2, hz2, hf2, hb2⟩
    clear HW
    obtain ⟨a2, cap2, hv2, _, _⟩ := hr2.shape
    obtain ⟨n2, hn2e⟩ : ∃ z, (woL l n).length = z := ⟨_, rfl⟩
    rw [hn2e] at hv2
    subst hv2
    have C2 := HB2.out.below hb2
    have c20 := C2.cell (i := 0) rfl
    have c21 := C2.cell (i := 1) rfl
    have c22 := C2.cell (i := 2) rfl
    have f20 := C2.free 0
    have f21 := C2.free 1
    have f22 := C2.free 2
    have hbl := C2.lt
    have HR2 := Lib.hid hr2
    have HZ2 := Lib.hid hz2
    have HF2 := Lib.hid hf2
    have HBE := Lib.hid (below_two H0.out hb2)
    clear hr2 hz2 hf2 hb2 C2 hn2e
    go_wp2
    refine bodyPost_ret (v := .agg #[.slice a2 n2 cap2, .int .i64 0, .int .i64 0]) (by simp [results, Try.results51, go_sem, hbl, c20, c21, c22, f20, f21, f22]) rfl ?_
    have hs3 := store3 (B2 := w.heap.size + 1) (u0 := .slice a2 n2 cap2) (u1 := .int .i64 0) (u2 := .int .i64 0) HR2.out (by omega) (fresh_ne HF2.out (by simp)) HBE.out
    exact ⟨_, by rw [HE.out.1, HE.out.2.1], by rw [HE.out.2.2]; exact hs3.1, HZ2.out, hs3.2, fun _ g hg => .inr (Nat.le_trans H0.out.size (HF2.out g hg))⟩

set_option maxRecDepth 100000 in
set_option maxHeartbeats 1000000 in
theorem act_rot (v : Value) (l : List Int) (lim n : Int) (w : World) (hv : RInts w v l) (hz : NilOk v) (hl : l.length ≤ 500)  :
    Calls Try.prog 51 #[v, .int .i64 lim, .agg #[.int .i64 3, .int .i64 n]] w (Acted v lim l 3 n w) := by
  have h0 : Below w.heap.size w ((w.alloc (.cells #[.int .i64 3, .int .i64 n] 72 (0, 0))).alloc (.cells #[.slice none 0 0, .int .i64 0, .int .i64 0] 74 (0, 0))) :=
    ((Below.refl _ _).alloc (Nat.le_refl _) _).alloc (by simp) _
  have B2 := Blk.new (w.alloc (.cells #[.int .i64 3, .int .i64 n] 72 (0, 0))) [.slice none 0 0, .int .i64 0, .int .i64 0] 74
  simp only [World.size_alloc] at B2
  have HB2 := Lib.hid B2
  have HV := Lib.hid hv
  have HZ := Lib.hid hz
  have H0 := Lib.hid h0
  have HW := Lib.hid (refrot_any v l _ (by omega) (hv.below h0))
  have HE := Lib.hid (show stE lim l 3 n = 0 ∧ stN l 3 = 0 ∧ stL lim l 3 n = rotL l from ⟨rfl, rfl, rfl⟩)
  clear hv h0 hz B2
  go_enter Try.func51, Try.ntmps51
  go_wp2_with fail
  refine HW.out.mono ?_
  rintro e w2 ⟨v2, rfl, hr2, hz2, hf2, hb2⟩
  clear HW
  obtain ⟨a2, cap2, hv2, _, _⟩ := hr2.shape
  obtain ⟨n2, hn2e⟩ : ∃ z, (rotL l).length = z := ⟨_, rfl⟩
  rw [hn2e] at hv2
  subst hv2
  have C2 := HB2.out.below hb2
  have c20 := C2.cell (i := 0) rfl
  have c21 := C2.cell (i := 1) rfl
  have c22 := C2.cell (i := 2) rfl
  have f20 := C2.free 0
  have f21 := C2.free 1
  have f22 := C2.free 2
  have hbl := C2.lt
  have HR2 := Lib.hid hr2
  have HZ2 := Lib.hid hz2
  have HF2 := Lib.hid hf2
  have HBE := Lib.hid (below_two H0.out hb2)
  clear hr2 hz2 hf2 hb2 C2 hn2e
  go_wp2
  refine bodyPost_ret (v := .agg #[.slice a2 n2 cap2, .int .i64 0, .int .i64 0]) (by simp [results, Try.results51, go_sem, hbl, c20, c21, c22, f20, f21, f22]) rfl ?_
  have hs3 := store3 (B2 := w.heap.size + 1) (u0 := .slice a2 n2 cap2) (u1 := .int .i64 0) (u2 := .int .i64 0) HR2.out (by omega) (fresh_ne HF2.out (by simp)) HBE.out
  exact ⟨_, by rw [HE.out.1, HE.out.2.1], by rw [HE.out.2.2]; exact hs3.1, HZ2.out, hs3.2, fun _ g hg => .inr (Nat.le_trans H0.out.size (HF2.out g hg))⟩

set_option maxRecDepth 100000 in
set_option maxHeartbeats 1000000 in
theorem act_front (v : Value) (l : List Int) (lim k n : Int) (w : World) (hv : RInts w v l) (hz : NilOk v) (hl : l.length ≤ 500) (h0' : k ≠ 0) (h1 : k ≠ 1) (h2 : k ≠ 2) (h3 : k ≠ 3) :
    Calls Try.prog 51 #[v, .int .i64 lim, .agg #[.int .i64 k, .int .i64 n]] w (Acted v lim l k n w) := by
  have h0 : Below w.heap.size w ((w.alloc (.cells #[.int .i64 k, .int .i64 n] 72 (0, 0))).alloc (.cells #[.slice none 0 0, .int .i64 0, .int .i64 0] 74 (0, 0))) :=
    ((Below.refl _ _).alloc (Nat.le_refl _) _).alloc (by simp) _
  have B2 := Blk.new (w.alloc (.cells #[.int .i64 k, .int .i64 n] 72 (0, 0))) [.slice none 0 0, .int .i64 0, .int .i64 0] 74
  simp only [World.size_alloc] at B2
  have HB2 := Lib.hid B2
  have HV := Lib.hid hv
  have HZ := Lib.hid hz
  have H0 := Lib.hid h0
  have HW := Lib.hid (first_any v l _ (hv.below h0) hz (by omega))
  have HVW := Lib.hid (show l ≠ [] → v.ownBlock ≠ some (w.heap.size + 1) from fun hne e => by
    obtain ⟨a, cap, rfl, _, _⟩ := hv.shape
    obtain ⟨b, off, y, rfl, hbb, _⟩ := hv.at (k := 0) (by cases l <;> simp_all)
    simp [Value.ownBlock] at e
    omega)
  have HE := Lib.hid (show stE lim l k n = popE l ∧ stN l k = l.headD 0 ∧ stL lim l k n = l by
    unfold stE stN stL
    rw [if_neg h0', if_neg h0', if_neg h0', if_neg h1, if_neg h1, if_neg h1, if_neg h2, if_neg h2, if_neg h2, if_neg h3, if_neg h3, if_neg h3]
    exact ⟨rfl, rfl, rfl⟩)
  have k0 : (k == 0) = false := beq_eq_false_iff_ne.2 h0'
  have k1 : (k == 1) = false := beq_eq_false_iff_ne.2 h1
  have k2 : (k == 2) = false := beq_eq_false_iff_ne.2 h2
  have k3 : (k == 3) = false := beq_eq_false_iff_ne.2 h3
  obtain ⟨hd, hhd⟩ : ∃ z, l.headD 0 = z := ⟨_, rfl⟩
  obtain ⟨er, her⟩ : ∃ z, popE l = z := ⟨_, rfl⟩
  rw [hhd, her] at HE HW
  clear hv h0 hz B2 hhd her h0' h1 h2 h3
  go_enter Try.func51, Try.ntmps51
  go_wp2_with fail
  refine HW.out.mono ?_
  rintro e w2 ⟨v2, rfl, hr2, hz2, hb2, hf2⟩
  clear HW
  obtain ⟨a2, cap2, hv2, _, _⟩ := hr2.shape
  subst hv2
  have C2 := HB2.out.below hb2
  have c20 := C2.cell (i := 0) rfl
  have c21 := C2.cell (i := 1) rfl
  have c22 := C2.cell (i := 2) rfl
  have f20 := C2.free 0
  have f21 := C2.free 1
  have f22 := C2.free 2
  have hbl := C2.lt
  have HOW := Lib.hid (show l ≠ [] → (Value.slice a2 l.length cap2).ownBlock ≠ some (w.heap.size + 1) from fun h e => HVW.out h (by rw [← hf2 h]; exact e))
  have HVE := Lib.hid hf2
  have HR2 := Lib.hid hr2
  have HZ2 := Lib.hid hz2
  have HBE := Lib.hid (below_two H0.out hb2)
  clear hr2 hz2 hb2 C2 hf2
  go_wp2
  refine bodyPost_ret (v := .agg #[.slice a2 l.length cap2, .int .i64 hd, .int .i64 er]) (by simp [results, Try.results51, go_sem, hbl, c20, c21, c22, f20, f21, f22]) rfl ?_
  have hs3 := store3' (B2 := w.heap.size + 1) (u0 := .slice a2 l.length cap2) (u1 := .int .i64 hd) (u2 := .int .i64 er) HR2.out (by omega) (fun h e => HOW.out h e) HBE.out
  exact ⟨_, by rw [HE.out.1, HE.out.2.1], by rw [HE.out.2.2]; exact hs3.1, HZ2.out, hs3.2, fun h g hg => .inl ⟨by rw [← HE.out.2.2]; exact h, by rw [← HVE.out (by rw [← HE.out.2.2]; exact h)]; exact hg⟩⟩

set_option maxRecDepth 100000 in
set_option maxHeartbeats 1000000 in
theorem act_pop (v : Value) (l : List Int) (lim n : Int) (w : World) (hv : RInts w v l) (hz : NilOk v) (hl : l.length ≤ 500) (hd : l.Nodup) :
    Calls Try.prog 51 #[v, .int .i64 lim, .agg #[.int .i64 1, .int .i64 n]] w (Acted v lim l 1 n w) := by
  have h0 : Below w.heap.size w ((w.alloc (.cells #[.int .i64 1, .int .i64 n] 72 (0, 0))).alloc (.cells #[.slice none 0 0, .int .i64 0, .int .i64 0] 74 (0, 0))) :=
    ((Below.refl _ _).alloc (Nat.le_refl _) _).alloc (by simp) _
  have B2 := Blk.new (w.alloc (.cells #[.int .i64 1, .int .i64 n] 72 (0, 0))) [.slice none 0 0, .int .i64 0, .int .i64 0] 74
  simp only [World.size_alloc] at B2
  have HB2 := Lib.hid B2
  have HV := Lib.hid hv
  have HZ := Lib.hid hz
  have H0 := Lib.hid h0
  have HW := Lib.hid (first_any v l _ (hv.below h0) hz (by omega))
  cases l with
  | nil =>
    have HE := Lib.hid (show stE lim [] 1 n = 6 ∧ stN [] 1 = 0 ∧ stL lim [] 1 n = [] from ⟨rfl, rfl, rfl⟩)
    rw [show popE [] = 6 from rfl, show ([] : List Int).headD 0 = 0 from rfl] at HW
    clear hv h0 hz B2 hd
    go_enter Try.func51, Try.ntmps51
    go_wp2_with fail
    refine HW.out.mono ?_
    rintro e w2 ⟨v2, rfl, hr2, hz2, hb2, -⟩
    clear HW
    obtain ⟨a2, cap2, hv2, _, _⟩ := hr2.shape
    subst hv2
    have C2 := HB2.out.below hb2
    have c20 := C2.cell (i := 0) rfl
    have c21 := C2.cell (i := 1) rfl
    have c22 := C2.cell (i := 2) rfl
    have f20 := C2.free 0
    have f21 := C2.free 1
    have f22 := C2.free 2
    have hbl := C2.lt
    have HR2 := Lib.hid hr2
    have HZ2 := Lib.hid hz2
    have HBE := Lib.hid (below_two H0.out hb2)
    clear hr2 hz2 hb2 C2
    go_wp2
    refine bodyPost_ret (v := .agg #[.slice a2 0 cap2, .int .i64 0, .int .i64 6]) (by simp [results, Try.results51, go_sem, hbl, c20, c21, c22, f20, f21, f22]) rfl ?_
    have hs3 := store3' (B2 := w.heap.size + 1) (u0 := .slice a2 0 cap2) (u1 := .int .i64 0) (u2 := .int .i64 6) HR2.out (by omega) (fun h => absurd rfl h) HBE.out
    exact ⟨_, by rw [HE.out.1, HE.out.2.1]; rfl, by rw [HE.out.2.2]; exact HR2.out.empty, HZ2.out, hs3.2.trans (below_of (below_alloc _ _) hs3.2.size), fun h => absurd HE.out.2.2 h⟩
  | cons x l =>
    have HN := Lib.hid (show x :: l ≠ [] ∧ woL (x :: l) x = l from ⟨by simp, filter_head hd⟩)
    have HE := Lib.hid (show stE lim (x :: l) 1 n = 0 ∧ stN (x :: l) 1 = x ∧ stL lim (x :: l) 1 n = l from ⟨rfl, rfl, rfl⟩)
    rw [show popE (x :: l) = 0 by unfold popE; simp, show (x :: l).headD 0 = x from rfl] at HW
    have HWO := Lib.hid (fun (w' : World) (k : Below w.heap.size w w') => wout_any v (x :: l) x w' (by omega) (hv.below k))
    clear hv h0 hz B2 hd
    go_enter Try.func51, Try.ntmps51
    go_wp2_with fail
    refine HW.out.mono ?_
    rintro e w2 ⟨v2, rfl, hr2, hz2, hb2, hvv⟩
    have hvv2 := hvv HN.out.1
    obtain ⟨a2, cap2, hs2, _, _⟩ := hr2.shape
    obtain ⟨n2, hn2e⟩ : ∃ z, (x :: l).length = z := ⟨_, rfl⟩
    rw [hn2e] at hs2
    subst hs2
    subst hvv2
    clear HW hvv hr2 hn2e
    have hal := below_alloc w2 (.cells #[.slice a2 n2 cap2, .int .i64 x, .int .i64 0] 74 (0, 0))
    have hbw := below_two (below_two H0.out hb2) hal
    have HW2 := Lib.hid (HWO.out _ hbw)
    have HC2 := Lib.hid ((HB2.out.below hb2).below hal)
    have HC7 := Lib.hid (Blk.new w2 [.slice a2 n2 cap2, .int .i64 x, .int .i64 0] 74)
    have HSZ := Lib.hid (show w.heap.size + 2 ≤ w2.heap.size by have := hb2.size; simpa using this)
    have HBW := Lib.hid hbw
    clear HWO hb2 hal hbw
    go_wp2_with fail
    refine HW2.out.mono ?_
    rintro e w3 ⟨v3, rfl, hr3, hz3, hf3, hb3⟩
    rw [HN.out.2] at hr3
    obtain ⟨a3, cap3, hv3, _, _⟩ := hr3.shape
    subst hv3
    have C2 := HC2.out.below hb3
    have C7 := HC7.out.below hb3
    have c20 := C2.cell (i := 0) rfl
    have c21 := C2.cell (i := 1) rfl
    have c22 := C2.cell (i := 2) rfl
    have f20 := C2.free 0
    have f21 := C2.free 1
    have f22 := C2.free 2
    have c70 := C7.cell (i := 0) rfl
    have c71 := C7.cell (i := 1) rfl
    have c72 := C7.cell (i := 2) rfl
    have f70 := C7.free 0
    have hbl := C2.lt
    have hbl7 := C7.lt
    have hne : ¬ w2.heap.size = w.heap.size + 1 := by have := HSZ.out; omega
    have hne2 : ¬ w.heap.size + 1 = w2.heap.size := by have := HSZ.out; omega
    have HR3 := Lib.hid hr3
    have HZ3 := Lib.hid hz3
    have HF3 := Lib.hid hf3
    have HBE := Lib.hid (below_two HBW.out hb3)
    clear HW2 hr3 hz3 hf3 hb3 C2 C7 HC2 HC7 HB2
    go_wp2
    refine bodyPost_ret (v := .agg #[.slice a3 l.length cap3, .int .i64 x, .int .i64 0]) (by simp [results, Try.results51, go_sem, hbl, c20, c21, c22, f20, f21, f22, hne2]) rfl ?_
    have k7 : Keep (fun j => j = w2.heap.size) w3 (w3.setCell ⟨w2.heap.size, 0, none⟩ (.slice a3 l.length cap3)) := keep_setCell (S := fun j => j = w2.heap.size) (Keep.refl _ _) rfl _
    have hr7 : RInts (w3.setCell ⟨w2.heap.size, 0, none⟩ (.slice a3 l.length cap3)) (.slice a3 l.length cap3) l := HR3.out.keep k7 (fun b hb e => by have h : b = w2.heap.size := e; subst h; exact fresh_ne HF3.out (by simp) hb)
    have hbe7 := HBE.out.trans (k7.below (B := w.heap.size) HBE.out.size (fun j hj e => by have h : j = w2.heap.size := e; have := HSZ.out; omega))
    have hs3 := store3' (B2 := w.heap.size + 1) (u0 := .slice a3 l.length cap3) (u1 := .int .i64 x) (u2 := .int .i64 0) hr7 (by omega) (fun _ => fresh_ne HF3.out (by have := HSZ.out; simp; omega)) hbe7
    exact ⟨_, by rw [HE.out.1, HE.out.2.1], by rw [HE.out.2.2]; exact hs3.1, HZ3.out, hs3.2, fun _ g hg => .inr (Nat.le_trans HBW.out.size (HF3.out g hg))⟩

theorem act_any (v : Value) (l : List Int) (lim k n : Int) (w : World) (hv : RInts w v l) (hz : NilOk v) (hl : l.length ≤ 500) (hd : l.Nodup) (hn1 : -9223372036854775808 ≤ n) (hn2 : n ≤ 9223372036854775807) :
    Calls Try.prog 51 #[v, .int .i64 lim, .agg #[.int .i64 k, .int .i64 n]] w (Acted v lim l k n w) := by
  by_cases h0 : k = 0
  · subst h0; exact act_push v l lim n w hv hz hl hn1 hn2
  · by_cases h1 : k = 1
    · subst h1; exact act_pop v l lim n w hv hz hl hd
    · by_cases h2 : k = 2
      · subst h2; exact act_rem v l lim n w hv hz hl hd
      · by_cases h3 : k = 3
        · subst h3; exact act_rot v l lim n w hv hz hl
        · exact act_front v l lim k n w hv hz hl h0 h1 h2 h3
end Go.Proofs.Ytfphdcfbkknpbaa

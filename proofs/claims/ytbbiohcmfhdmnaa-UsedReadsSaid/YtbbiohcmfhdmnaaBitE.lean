/- The statements of package bits: their argument, the small case, what is large; BitsBack. -/
import Derived.Test.YtbbiohcmfhdmnaaBitC
import Derived.Test.YtbbiohcmfhdmnaaBitR
import Derived.Test.YtbbiohcmfhdmnaaRs
namespace Go.Proofs.Ytbbiohcmfhdmnaa
open Go.RowKit

/-- what is done with a writer or a reader -/
structure OpB where
  k : Int
  n : Int
  v : Nat
  s : ByteArray
def encO (x : OpB) : List Value := [.int .i64 x.k, .int .i64 x.n, .int .u32 (x.v : Int), .string x.s]
def goodO (x : OpB) : Prop := (-9223372036854775808 ≤ x.k ∧ x.k ≤ 9223372036854775807) ∧ (-9223372036854775808 ≤ x.n ∧ x.n ≤ 9223372036854775807) ∧ x.v < 4294967296 ∧ x.s.size ≤ 9223372036854775807

theorem str_data (l : List UInt8) : (str l).data.toList = l := rfl

theorem nog : ∀ (w : World) (j : Nat), (fun _ : Nat => False) j → j < w.heap.size := fun _ _ h => h.elim

set_option maxRecDepth 100000 in
set_option maxHeartbeats 2000000 in
theorem five_any (w : World) : Calls Try.prog 15 #[] w fun e w' => e = .returned (.bool true) ∧ Below w.heap.size w w' := by
  go_enter Try.func15, Try.ntmps15
  go_wp2_with fail
  refine (lwnew_any w (fun _ => False) w.heap.size (Nat.le_refl _) (nog w)).mono ?_
  rintro e w1 ⟨b, rfl, -, H, hbw⟩
  go_wp2_with fail
  refine (lwput_any _ _ b [] 0 5 3 _ H (by decide) (by decide)).mono ?_
  rintro e w2 ⟨rfl, H, hk⟩
  rw [show putE 5 3 = 0 by decide]
  rw [show putA [] 5 3 = [true, false, true] by decide] at H
  have hbw := hbw.trans (zone_below hk hbw.size)
  clear hk
  go_wp2_with fail
  refine (lwput_any _ _ b _ 0 1 2 _ H (by decide) (by decide)).mono ?_
  rintro e w3 ⟨rfl, H, hk⟩
  rw [show putE 1 2 = 0 by decide]
  rw [show putA [true, false, true] 1 2 = [true, false, true, false, true] by decide] at H
  have hbw := hbw.trans (zone_below hk hbw.size)
  clear hk
  go_wp2_with fail
  refine (lwlen_any _ _ b _ 0 _ H).mono ?_
  rintro e w4 ⟨rfl, rfl⟩
  go_wp2_with fail
  refine (lwpad_any _ _ b _ 0 _ H (by decide)).mono ?_
  rintro e w4 ⟨rfl, H, hk⟩
  rw [show padL [true, false, true, false, true] = [true, false, true, false, true, false, false, false] by decide] at H
  have hbw := hbw.trans (zone_below hk hbw.size)
  clear hk
  go_wp2_with fail
  refine (rnew_any _ _ (by decide)).mono ?_
  rintro e w5 ⟨b2, rfl, hb2, R, hb5⟩
  have HB2 := Lib.hid (show w.heap.size ≤ b2 ∧ w4.heap.size = b2 from ⟨by have := hbw.size; omega, hb2.symm⟩)
  clear hb2
  have H := H.more (G' := fun j => j = b2) hb5 (fun j hj => .inr (by have h : j = b2 := hj; have := R.box.lt; have := HB2.out; omega))
  have hbw := hbw.trans (below_of hb5 hbw.size)
  go_wp2_with fail
  refine (rget_ok b2 _ 0 0 5 _ R (by decide) (by decide)).mono ?_
  rintro e w6 ⟨rfl, R, hk⟩
  rw [show numL (getBits (⟨#[168]⟩ : ByteArray).data.toList 0 5) = 21 by decide]
  have H := H.keep hk (fun j hj hz => hz.2 hj)
  have hbw := hbw.trans (hk.below hbw.size (fun j hj he => by have h : j = b2 := he; have := HB2.out; omega))
  clear hk
  go_wp2_with fail
  refine (lwtake_any _ _ b _ 0 _ H).mono ?_
  rintro e w7 ⟨rfl, H, hk⟩
  rw [show str ((bytesL [true, false, true, false, true, false, false, false]).drop 0) = ⟨#[168]⟩ by rfl]
  have R := R.keep hk (fun hz => hz.2 rfl)
  have hbw := hbw.trans (zone_below hk hbw.size)
  clear hk
  go_wp2_with fail
  refine (rat_any b2 _ 0 _ _ R).mono ?_
  rintro e w8 ⟨rfl, rfl⟩
  clear R H
  go_wp2
  go_ret
  exact ⟨rfl, hbw⟩

/-- how many bytes acts bring -/
def bytesO (l : List OpB) : Nat := (l.map fun o => o.s.size).sum
theorem bytesO_take {l : List OpB} {k : Nat} {x : OpB} (h : l[k]? = some x) : bytesO (l.take (k + 1)) = bytesO (l.take k) + x.s.size := by
  unfold bytesO
  rw [take_snoc h, List.map_append, List.sum_append]
  simp

/-- what is not large -/
def SmallO (l : List OpB) : Prop := l.length ≤ 60 ∧ (∀ x ∈ l, x.s.size ≤ 100) ∧ bytesO l ≤ 200

set_option maxRecDepth 100000 in
set_option maxHeartbeats 1000000 in
theorem large_any (v : Value) (l : List OpB) (w : World) (hv : RS w v l encO 4 goodO) :
    Calls Try.prog 14 #[v] w fun e w' => ∃ r, e = .returned (.bool r) ∧ (r = false → SmallO l) ∧ Below w.heap.size w w' := by
  have HV := Lib.hid hv
  obtain ⟨a, cap, rfl, hc1, hc2⟩ := hv.shape
  clear hv
  by_cases hl : l.length ≤ 60
  · have hl2 : (l.length : Int) ≤ 60 := by omega
    go_enter Try.func14, Try.ntmps14
    go_wp2
    go_loopw [3, 5, 11] (fun t p i wr => ∃ (k : Nat) (n : Nat), k ≤ l.length ∧ i = .int .i64 k ∧ t = .int .i64 (n : Int) ∧ n ≤ 100 * k ∧ Hid (n = bytesO (l.take k)) ∧ Hid (∀ (i : Nat) (x : OpB), i < k → l[i]? = some x → x.s.size ≤ 100) ∧ Below w.heap.size w wr) (fun _ _ i _ => l.length - (intOf i).toNat)
    case atStart => exact ⟨0, 0, Nat.zero_le _, rfl, rfl, Nat.le_refl _, rfl, fun i x h => absurd h (by omega), Below.refl _ _⟩
    case round =>
      obtain ⟨k, n, hk, rfl, rfl, hn, HN, HA, hbel⟩ := hrel
      have hsz := hbel.size
      by_cases hlt : k < l.length
      · obtain ⟨b2, off2, x, rfl, hbb2, hx, hgx, hcx⟩ := (HV.out.below hbel).at hlt
        obtain ⟨xk, xn, xv, xs⟩ := x
        have hc0 : wr.cell? ⟨b2, off2 + k * 4, none⟩ = some (.int .i64 xk) := hcx 0 _ rfl
        have hc1 : wr.cell? ⟨b2, off2 + k * 4 + 1, none⟩ = some (.int .i64 xn) := hcx 1 _ rfl
        have hc2 : wr.cell? ⟨b2, off2 + k * 4 + 2, none⟩ = some (.int .u32 (xv : Int)) := hcx 2 _ rfl
        have hc3 : wr.cell? ⟨b2, off2 + k * 4 + 3, none⟩ = some (.string xs) := hcx 3 _ rfl
        have HX := Lib.hid hx
        clear hx hcx hgx
        by_cases hxs : xs.size ≤ 100
        · have HA2 := Lib.hid (show ∀ (i : Nat) (x : OpB), i < k + 1 → l[i]? = some x → x.s.size ≤ 100 from fun i x hi hx => by
            by_cases e : i = k
            · subst e
              have := HX.out
              rw [this] at hx
              cases hx
              exact hxs
            · exact HA.out i x (by omega) hx)
          have HN2 := Lib.hid (show n + xs.size = bytesO (l.take (k + 1)) by rw [bytesO_take HX.out, HN.out])
          have hxs2 : (xs.size : Int) ≤ 100 := by omega
          go_wp2
          go_roundw
          case rel => exact ⟨k + 1, n + xs.size, by omega, by go_num, by go_num, by omega, HN2.out, HA2.out, hbel.alloc (by omega) _⟩
          case measure => simp [intOf]; omega
        · have hxs2 : (100 : Int) < (xs.size : Int) := by omega
          go_wp2
          go_ret
          exact ⟨true, rfl, fun h => (by cases h), hbel.alloc (by omega) _⟩
      · obtain rfl : k = l.length := by omega
        have HF := Lib.hid (show n ≤ 200 → SmallO l from fun h => by
          refine ⟨hl, fun x hx => ?_, ?_⟩
          · obtain ⟨i, hi⟩ := List.getElem?_of_mem hx
            exact HA.out i x (List.getElem?_eq_some_iff.1 hi).1 hi
          · have := HN.out
            rw [List.take_length] at this
            omega)
        by_cases hn2 : n ≤ 200
        · have hd : decide ((200 : Int) < (n : Int)) = false := decide_eq_false (by omega)
          go_wp2
          go_ret
          exact ⟨false, rfl, fun _ => HF.out hn2, hbel⟩
        · have hd : decide ((200 : Int) < (n : Int)) = true := decide_eq_true (by omega)
          go_wp2
          go_ret
          exact ⟨true, rfl, fun h => (by cases h), hbel⟩
  · have hl2 : (60 : Int) < (l.length : Int) := by omega
    go_enter Try.func14, Try.ntmps14
    go_wp2
    go_ret
    exact ⟨true, rfl, fun h => (by cases h), Below.refl _ _⟩
end Go.Proofs.Ytbbiohcmfhdmnaa

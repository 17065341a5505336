/- Package bits: a reader in memory, and the contracts of its functions. -/
import Derived.Test.YtjpjdecbkekcfaaBitB
namespace Go.Proofs.Ytjpjdecbkekcfaa
open Go.RowKit

/-- a reader in memory: all its bytes, how many were forgotten, and the place -/
structure ReaderAt (w : World) (b : Nat) (S : List UInt8) (d at_ : Nat) : Prop where
  box : Blk w b [.string (str (S.drop d)), .int .i64 (d : Int), .int .i64 (at_ : Int)] 81
  lo : 8 * d ≤ at_
  hi : at_ ≤ 8 * S.length
  len : S.length ≤ 1000000

theorem ReaderAt.keep {P : Nat → Prop} {w w' : World} {b : Nat} {S : List UInt8} {d at_ : Nat} (h : ReaderAt w b S d at_) (kp : Keep P w w') (hs : ¬ P b) : ReaderAt w' b S d at_ :=
  ⟨h.box.keep kp hs, h.lo, h.hi, h.len⟩
theorem ReaderAt.below {w w' : World} {b : Nat} {S : List UInt8} {d at_ : Nat} (h : ReaderAt w b S d at_) (kp : Below w.heap.size w w') : ReaderAt w' b S d at_ :=
  h.keep (Keep.of_below kp (fun _ => False)) (fun h => h)
/-- a reader behind an act -/
def RDid (b : Nat) (S : List UInt8) (d at_ : Nat) (w w' : World) : Prop := ReaderAt w' b S d at_ ∧ Keep (fun j => j = b) w w'
theorem RDid.same {w w' : World} {b : Nat} {S : List UInt8} {d at_ : Nat} (h : ReaderAt w b S d at_) (kp : Below w.heap.size w w') : RDid b S d at_ w w' := ⟨h.below kp, Keep.of_below kp _⟩
theorem RDid.trans {w w1 w2 : World} {b : Nat} {S S2 : List UInt8} {d at_ d2 at2 : Nat} (h : RDid b S d at_ w w1) (k : RDid b S2 d2 at2 w1 w2) : RDid b S2 d2 at2 w w2 := ⟨k.1, h.2.trans k.2⟩

theorem and_one8 (v j : Nat) (hv : v < 256) : bits BinOp.and .u8 ((v : Int) / 2 ^ j) 1 = (((v.testBit j).toNat : Nat) : Int) := by
  have e : ((v : Int) / 2 ^ j) = ((v / 2 ^ j : Nat) : Int) := by simp
  have hle : v / 2 ^ j ≤ v := Nat.div_le_self _ _
  rw [e, show (1 : Int) = ((1 : Nat) : Int) from rfl, u8_and_nat _ _ (by omega) (by decide), nat_mask1, Nat.testBit_eq_decide_div_mod_eq]
  have := Nat.mod_two_eq_zero_or_one (v / 2 ^ j)
  rcases this with h | h <;> rw [h] <;> rfl

theorem rnew_any (s : ByteArray) (w : World) (hs : s.size ≤ 1000000) :
    Calls Try.prog 22 #[.string s] w fun e w' => ∃ b, e = .returned (.pointer (some ⟨b, 0, none⟩)) ∧ b = w.heap.size ∧ ReaderAt w' b s.data.toList 0 0 ∧ Below w.heap.size w w' := by
  go_enter Try.func22, Try.ntmps22
  go_wp2
  go_ret
  refine ⟨_, rfl, rfl, ⟨?_, Nat.le_refl _, Nat.zero_le _, hs⟩, below_alloc _ _⟩
  rw [List.drop_zero, ← str_of]
  exact Blk.new w _ _

set_option maxHeartbeats 400000 in
theorem rend_any (b : Nat) (S : List UInt8) (d at_ : Nat) (w : World) (h : ReaderAt w b S d at_) :
    Calls Try.prog 57 #[.pointer (some ⟨b, 0, none⟩)] w fun e w' => e = .returned (.int .i64 ((8 * S.length : Nat) : Int)) ∧ ∃ n, w' = w.drewN n := by
  have hc0 := h.box.cell (i := 0) rfl
  have hc1 := h.box.cell (i := 1) rfl
  have hlo := h.lo
  have hhi := h.hi
  have hlen := h.len
  obtain ⟨s, hs⟩ : ∃ s, str (S.drop d) = s := ⟨_, rfl⟩
  have hsz : S.length - d = s.size := by rw [← hs, str_size, List.length_drop]
  rw [hs] at hc0
  have e1 : IntKind.i64.wrap ((d : Int) + (s.size : Int)) = ((S.length : Nat) : Int) := by rw [IntWalk.i64_in _ (by omega)]; omega
  have e2 : IntKind.i64.wrap (8 * (S.length : Int)) = ((8 * S.length : Nat) : Int) := by rw [IntWalk.i64_in _ (by omega)]; omega
  obtain ⟨r, hr⟩ : ∃ r, 8 * S.length = r := ⟨_, rfl⟩
  rw [hr] at e2 ⊢
  clear h hs hsz hr
  go_enter Try.func57, Try.ntmps57
  go_wp2
  go_quiet (fail)
  go_wp2
  go_ret
  exact ⟨rfl, _, rfl⟩

set_option maxHeartbeats 400000 in
theorem rbit_any (b : Nat) (S : List UInt8) (d at_ : Nat) (w : World) (h : ReaderAt w b S d at_) (x : Bool) (hx : (bitsL S)[at_]? = some x) :
    Calls Try.prog 80 #[.pointer (some ⟨b, 0, none⟩), .int .i64 (at_ : Int)] w fun e w' => e = .returned (.int .u32 (x.toNat : Nat)) ∧ ∃ n, w' = w.drewN n := by
  have hc0 := h.box.cell (i := 0) rfl
  have hc1 := h.box.cell (i := 1) rfl
  have hlo := h.lo
  have hhi := h.hi
  have hlen := h.len
  have hlt : at_ < 8 * S.length := by rw [← bitsL_len]; exact (List.getElem?_eq_some_iff.1 hx).1
  obtain ⟨c, hc⟩ : ∃ c, S[at_ / 8]? = some c := ⟨_, List.getElem?_eq_getElem (by omega)⟩
  have hxc := bitsL_at hc
  rw [hx] at hxc
  obtain ⟨s, hs⟩ : ∃ s, str (S.drop d) = s := ⟨_, rfl⟩
  have hsz : s.size = S.length - d := by rw [← hs, str_size, List.length_drop]
  rw [hs] at hc0
  obtain ⟨i, hi⟩ : ∃ i, at_ / 8 - d = i := ⟨_, rfl⟩
  have hil : i < s.size := by omega
  have hsc : s[i] = c := by
    have h1 := str_at hs.symm hil
    rw [List.getElem?_drop, show d + i = at_ / 8 by omega, hc] at h1
    simpa using h1.symm
  have e1 : IntKind.i64.wrap ((at_ : Int) / 8 - (d : Int)) = (i : Int) := by rw [IntWalk.i64_in _ (by omega)]; omega
  have e2 : IntKind.i64.wrap (7 - (at_ : Int) % 8) = ((7 - at_ % 8 : Nat) : Int) := by rw [IntWalk.i64_in _ (by omega)]; omega
  obtain ⟨t, ht⟩ : ∃ t, 7 - at_ % 8 = t := ⟨_, rfl⟩
  rw [ht] at e2 hxc
  have ht7 : t ≤ 7 := by omega
  have hxt : c.toNat.testBit t = x := by simpa using hxc.symm
  have hand := and_one8 c.toNat t (by have := UInt8.toNat_lt c; omega)
  rw [hxt] at hand
  have hmod : ((x.toNat : Nat) : Int) % 4294967296 = ((x.toNat : Nat) : Int) := by cases x <;> rfl
  clear hxc hxt
  have hil2 : (i : Int) < (s.size : Int) := by omega
  clear h hs hx hsz hi hlo hhi ht hc
  go_enter Try.func80, Try.ntmps80
  go_wp2
  go_quiet (fail)
  go_wp2
  go_ret
  exact ⟨rfl, _, rfl⟩

set_option maxHeartbeats 400000 in
theorem rleft_any (b : Nat) (S : List UInt8) (d at_ : Nat) (w : World) (h : ReaderAt w b S d at_) :
    Calls Try.prog 27 #[.pointer (some ⟨b, 0, none⟩)] w fun e w' => e = .returned (.int .i64 ((8 * S.length - at_ : Nat) : Int)) ∧ ∃ n, w' = w.drewN n := by
  have hc2 := h.box.cell (i := 2) rfl
  have hhi := h.hi
  have hlen := h.len
  have HE := Lib.hid (fun w (h : ReaderAt w b S d at_) => rend_any b S d at_ w h)
  have HR := Lib.hid h
  obtain ⟨r, hr⟩ : ∃ r, 8 * S.length = r := ⟨_, rfl⟩
  rw [hr] at HE hhi
  obtain ⟨z, hz⟩ : ∃ z, r - at_ = z := ⟨_, rfl⟩
  have e1 : IntKind.i64.wrap ((r : Int) - (at_ : Int)) = (z : Int) := by rw [IntWalk.i64_in _ (by omega)]; omega
  rw [hr, hz]
  clear h hr hz
  go_enter Try.func27, Try.ntmps27
  go_wp2
  go_quiet ((go_at_call 57; exact Calls.quiet_of (HE.out _ (HR.out.below (below_drewN (Below.refl _ _) _)))))
  go_wp2
  go_ret
  exact ⟨rfl, _, rfl⟩

def getBits (S : List UInt8) (at_ n : Nat) : List Bool := ((bitsL S).drop at_).take n
theorem getBits_len {S : List UInt8} {at_ n : Nat} (h : at_ + n ≤ 8 * S.length) : (getBits S at_ n).length = n := by
  unfold getBits
  rw [List.length_take, List.length_drop, bitsL_len]
  omega
theorem getBits_succ {S : List UInt8} {at_ n : Nat} (h : at_ + n < 8 * S.length) : ∃ x, (bitsL S)[at_ + n]? = some x ∧ getBits S at_ (n + 1) = getBits S at_ n ++ [x] := by
  have hl : at_ + n < (bitsL S).length := by rw [bitsL_len]; exact h
  refine ⟨(bitsL S)[at_ + n], List.getElem?_eq_getElem hl, ?_⟩
  unfold getBits
  exact take_snoc (by rw [List.getElem?_drop, List.getElem?_eq_getElem hl])

theorem shl_or (v : Nat) (x : Bool) (hv : v < 2147483648) : bits BinOp.or .u32 (IntKind.u32.wrap ((v : Int) * 2)) (((x.toNat : Nat)) : Int) = ((2 * v + x.toNat : Nat) : Int) := by
  have hx : x.toNat ≤ 1 := by cases x <;> decide
  have e : (v : Int) * 2 = ((2 * v : Nat) : Int) := by omega
  rw [e, IntWalk.u32_in _ ⟨Int.natCast_nonneg _, by omega⟩, u32_or_nat _ _ (by omega) (by omega), nat_join 1 _ _ (by omega) (by omega)]

theorem shl_or' (v : Nat) (x : Bool) (hv : v < 2147483648) : bits BinOp.or .u32 ((v : Int) * 2 % 4294967296) (((x.toNat : Nat)) : Int) = ((2 * v + x.toNat : Nat) : Int) := by
  have h := shl_or v x hv
  rw [IntKind.wrap_u32] at h
  exact h

theorem ReaderAt.setAt {w : World} {b : Nat} {S : List UInt8} {d at_ : Nat} (h : ReaderAt w b S d at_) (a2 : Nat) (h1 : 8 * d ≤ a2) (h2 : a2 ≤ 8 * S.length) : RDid b S d a2 w (w.setCell ⟨b, 2, none⟩ (.int .i64 (a2 : Int))) :=
  ⟨⟨h.box.set 2 _, h1, h2, h.len⟩, keep_setCell (S := fun j => j = b) (Keep.refl _ _) rfl _⟩

set_option maxHeartbeats 1000000 in
set_option maxRecDepth 100000 in
theorem rget_ok (b : Nat) (S : List UInt8) (d at_ n : Nat) (w : World) (h : ReaderAt w b S d at_) (hn : n ≤ 32) (hle : at_ + n ≤ 8 * S.length) :
    Calls Try.prog 73 #[.pointer (some ⟨b, 0, none⟩), .int .i64 (n : Int)] w fun e w' => e = .returned (.tuple #[.int .u32 (numL (getBits S at_ n) : Nat), .int .i64 0]) ∧ RDid b S d (at_ + n) w w' := by
  have HL := Lib.hid (rleft_any b S d at_ w h)
  have hlo := h.lo
  have hlen := h.len
  obtain ⟨r, hr⟩ : ∃ r, 8 * S.length - at_ = r := ⟨_, rfl⟩
  rw [hr] at HL
  have hnr : decide (r < n) = false := decide_eq_false (by omega)
  have hn0 : decide ((n : Int) < 0) = false := decide_eq_false (by omega)
  have hn32 : decide ((32 : Int) < (n : Int)) = false := decide_eq_false (by omega)
  have HR := Lib.hid h
  have HLE := Lib.hid hle
  clear h hr hle
  go_enter Try.func73, Try.ntmps73
  go_wp2_with fail
  refine HL.out.mono ?_
  rintro e w1 ⟨rfl, hd⟩
  have HD := Lib.hid (RDid.same HR.out (below_drawn hd))
  clear HL hd
  go_wp2
  go_loopw [6, 23] (fun v i wr => ∃ j : Nat, j ≤ n ∧ i = .int .i64 j ∧ v = .int .u32 (numL (getBits S at_ j) : Nat) ∧ Hid (RDid b S d (at_ + j) w wr)) (fun _ i _ => n - (intOf i).toNat)
  case atStart => exact ⟨0, Nat.zero_le _, rfl, by simp [getBits, numL], HD.out⟩
  case round =>
    obtain ⟨j, hj, rfl, rfl, HW⟩ := hrel
    by_cases hlt : j < n
    · obtain ⟨x, hx1, hx2⟩ := getBits_succ (S := S) (at_ := at_) (n := j) (by have := HLE.out; omega)
      have hc2 := HW.out.1.box.cell (i := 2) rfl
      have hf2 := HW.out.1.box.free 2
      have HB := Lib.hid (rbit_any b S d (at_ + j) wr HW.out.1 x hx1)
      have hv : numL (getBits S at_ j) < 2147483648 := by
        have h1 := numL_lt (getBits S at_ j)
        rw [getBits_len (by have := HLE.out; omega)] at h1
        have : (2 : Nat) ^ j ≤ 2 ^ 31 := Nat.pow_le_pow_right (by decide) (by omega)
        omega
      have HS := Lib.hid (show numL (getBits S at_ (j + 1)) = 2 * numL (getBits S at_ j) + x.toNat by rw [hx2, numL_snoc])
      obtain ⟨v, hvv⟩ : ∃ v, numL (getBits S at_ j) = v := ⟨_, rfl⟩
      rw [hvv] at hv HS ⊢
      have hor := shl_or' v x hv
      have hatl := HW.out.1.hi
      clear hx1 hx2 hvv hv
      go_wp2_with fail
      refine HB.out.mono ?_
      rintro e w2 ⟨rfl, hd⟩
      have HD2 := Lib.hid (HW.out.trans (RDid.same HW.out.1 (below_drawn hd)))
      clear HB hd hc2 hf2
      have hc2 := HD2.out.1.box.cell (i := 2) rfl
      have hf2 := HD2.out.1.box.free 2
      have HD3 := Lib.hid (HD2.out.trans (HD2.out.1.setAt (at_ + j + 1) (by omega) (by have := HLE.out; omega)))
      go_wp2
      go_roundw
      case rel => exact ⟨j + 1, by omega, by go_num, by rw [HS.out]; go_num, HD3.out⟩
      case measure => simp [intOf]; omega
    · obtain rfl : j = n := by omega
      go_wp2
      go_ret2
      exact ⟨rfl, HW.out⟩

set_option maxHeartbeats 400000 in
theorem rget_arg (b : Nat) (n : Int) (w : World) (hn : n < 0 ∨ 32 < n) :
    Calls Try.prog 73 #[.pointer (some ⟨b, 0, none⟩), .int .i64 n] w fun e w' => e = .returned (.tuple #[.int .u32 0, .int .i64 1]) ∧ w = w' := by
  rcases hn with hn | hn
  · go_enter Try.func73, Try.ntmps73
    go_wp2
    go_ret2
    exact ⟨rfl, rfl⟩
  · have h0 : decide (n < 0) = false := decide_eq_false (by omega)
    go_enter Try.func73, Try.ntmps73
    go_wp2
    go_ret2
    exact ⟨rfl, rfl⟩
set_option maxHeartbeats 400000 in
theorem rget_short (b : Nat) (S : List UInt8) (d at_ n : Nat) (w : World) (h : ReaderAt w b S d at_) (hn : n ≤ 32) (hle : 8 * S.length < at_ + n) :
    Calls Try.prog 73 #[.pointer (some ⟨b, 0, none⟩), .int .i64 (n : Int)] w fun e w' => e = .returned (.tuple #[.int .u32 0, .int .i64 3]) ∧ ∃ n, w' = w.drewN n := by
  have HL := Lib.hid (rleft_any b S d at_ w h)
  have hhi := h.hi
  obtain ⟨r, hr⟩ : ∃ r, 8 * S.length - at_ = r := ⟨_, rfl⟩
  rw [hr] at HL
  have hnr : decide (r < n) = true := decide_eq_true (by omega)
  have hn0 : decide ((n : Int) < 0) = false := decide_eq_false (by omega)
  have hn32 : decide ((32 : Int) < (n : Int)) = false := decide_eq_false (by omega)
  clear h hr hle hhi
  go_enter Try.func73, Try.ntmps73
  go_wp2_with fail
  refine HL.out.mono ?_
  rintro e w1 ⟨rfl, hd⟩
  have HD := Lib.hid hd
  clear HL hd
  go_wp2
  go_ret2
  exact ⟨rfl, HD.out⟩
theorem rget_nil (n : Int) (w : World) :
    Calls Try.prog 73 #[.pointer none, .int .i64 n] w fun e w' => e = .returned (.tuple #[.int .u32 0, .int .i64 7]) ∧ w = w' := by
  go_enter Try.func73, Try.ntmps73
  go_wp2
  go_ret2
  exact ⟨rfl, rfl⟩

theorem rat_any (b : Nat) (S : List UInt8) (d at_ : Nat) (w : World) (h : ReaderAt w b S d at_) :
    Calls Try.prog 39 #[.pointer (some ⟨b, 0, none⟩)] w fun e w' => e = .returned (.int .i64 (at_ : Int)) ∧ w = w' := by
  have hc2 := h.box.cell (i := 2) rfl
  clear h
  go_enter Try.func39, Try.ntmps39
  go_wp2
  go_ret
  exact ⟨rfl, rfl⟩
theorem rat_nil (w : World) : Calls Try.prog 39 #[.pointer none] w fun e w' => e = .returned (.int .i64 0) ∧ w = w' := by
  go_enter Try.func39, Try.ntmps39
  go_wp2
  go_ret
  exact ⟨rfl, rfl⟩
theorem rleft_nil (w : World) : Calls Try.prog 27 #[.pointer none] w fun e w' => e = .returned (.int .i64 0) ∧ w = w' := by
  go_enter Try.func27, Try.ntmps27
  go_wp2
  go_ret
  exact ⟨rfl, rfl⟩

/-- an act in one word: the place behind a get, and why there is none -/
def getE (S : List UInt8) (at_ : Nat) (n : Int) : Int := if n < 0 ∨ 32 < n then 1 else if 8 * (S.length : Int) < (at_ : Int) + n then 3 else 0
def getV (S : List UInt8) (at_ : Nat) (n : Int) : Nat := if getE S at_ n = 0 then numL (getBits S at_ n.toNat) else 0
def getAt (S : List UInt8) (at_ : Nat) (n : Int) : Nat := if getE S at_ n = 0 then at_ + n.toNat else at_
theorem rget_any (b : Nat) (S : List UInt8) (d at_ : Nat) (n : Int) (w : World) (h : ReaderAt w b S d at_) :
    Calls Try.prog 73 #[.pointer (some ⟨b, 0, none⟩), .int .i64 n] w fun e w' => e = .returned (.tuple #[.int .u32 (getV S at_ n : Nat), .int .i64 (getE S at_ n)]) ∧ RDid b S d (getAt S at_ n) w w' := by
  by_cases h1 : n < 0 ∨ 32 < n
  · have e : getE S at_ n = 1 := by unfold getE; rw [if_pos h1]
    refine (rget_arg b n w h1).mono ?_
    rintro e' w' ⟨rfl, rfl⟩
    rw [getV, getAt, e, if_neg (by decide), if_neg (by decide)]
    exact ⟨rfl, RDid.same h (Below.refl _ _)⟩
  · obtain ⟨m, rfl⟩ : ∃ m : Nat, n = m := ⟨n.toNat, by omega⟩
    by_cases h2 : 8 * (S.length : Int) < (at_ : Int) + m
    · have e : getE S at_ m = 3 := by unfold getE; rw [if_neg h1, if_pos h2]
      refine (rget_short b S d at_ m w h (by omega) (by omega)).mono ?_
      rintro e' w' ⟨rfl, hd⟩
      rw [getV, getAt, e, if_neg (by decide), if_neg (by decide)]
      exact ⟨rfl, RDid.same h (below_drawn hd)⟩
    · have e : getE S at_ m = 0 := by unfold getE; rw [if_neg h1, if_neg h2]
      refine (rget_ok b S d at_ m w h (by omega) (by omega)).mono ?_
      rintro e' w' ⟨rfl, hd⟩
      rw [getV, getAt, e, if_pos rfl, if_pos rfl]
      exact ⟨rfl, hd⟩

set_option maxHeartbeats 400000 in
theorem rseek_ok (b : Nat) (S : List UInt8) (d at_ a2 : Nat) (w : World) (h : ReaderAt w b S d at_) (h1 : 8 * d ≤ a2) (h2 : a2 ≤ 8 * S.length) :
    Calls Try.prog 23 #[.pointer (some ⟨b, 0, none⟩), .int .i64 (a2 : Int)] w fun e w' => e = .returned (.int .i64 0) ∧ RDid b S d a2 w w' := by
  have HE := Lib.hid (rend_any b S d at_ w h)
  have hc1 := h.box.cell (i := 1) rfl
  have hlen := h.len
  have hlo := h.lo
  have hhi := h.hi
  have HR := Lib.hid h
  obtain ⟨r, hr⟩ : ∃ r, 8 * S.length = r := ⟨_, rfl⟩
  rw [hr] at HE
  have e1 : IntKind.i64.wrap (8 * (d : Int)) = ((8 * d : Nat) : Int) := by rw [IntWalk.i64_in _ (by omega)]; omega
  have hd1 : decide ((a2 : Int) < 8 * (d : Int)) = false := decide_eq_false (by omega)
  have hd2 : decide (r < a2) = false := decide_eq_false (by omega)
  have H1 := Lib.hid h1
  have H2 := Lib.hid h2
  clear h hr hlo hhi h2
  go_enter Try.func23, Try.ntmps23
  go_wp2_with fail
  refine HE.out.mono ?_
  rintro e w1 ⟨rfl, hd⟩
  have HD := Lib.hid (RDid.same HR.out (below_drawn hd))
  clear HE hd hc1
  have hf2 := HD.out.1.box.free 2
  have hc2 := HD.out.1.box.cell (i := 2) rfl
  have HF := Lib.hid (HD.out.trans (HD.out.1.setAt a2 H1.out H2.out))
  go_wp2
  go_ret
  exact ⟨rfl, HF.out⟩
set_option maxHeartbeats 400000 in
theorem rseek_low (b : Nat) (S : List UInt8) (d at_ : Nat) (a2 : Int) (w : World) (h : ReaderAt w b S d at_) (h1 : a2 < 8 * (d : Int)) :
    Calls Try.prog 23 #[.pointer (some ⟨b, 0, none⟩), .int .i64 a2] w fun e w' => e = .returned (.int .i64 1) ∧ w = w' := by
  have hc1 := h.box.cell (i := 1) rfl
  have hlen := h.len
  have hlo := h.lo
  have hhi := h.hi
  have e1 : IntKind.i64.wrap (8 * (d : Int)) = ((8 * d : Nat) : Int) := by rw [IntWalk.i64_in _ (by omega)]; omega
  have hd1 : decide (a2 < 8 * (d : Int)) = true := decide_eq_true h1
  clear h hlo hhi
  go_enter Try.func23, Try.ntmps23
  go_wp2
  go_ret
  exact ⟨rfl, rfl⟩
set_option maxHeartbeats 400000 in
theorem rseek_high (b : Nat) (S : List UInt8) (d at_ : Nat) (a2 : Int) (w : World) (h : ReaderAt w b S d at_) (h1 : 8 * (S.length : Int) < a2) :
    Calls Try.prog 23 #[.pointer (some ⟨b, 0, none⟩), .int .i64 a2] w fun e w' => e = .returned (.int .i64 1) ∧ ∃ n, w' = w.drewN n := by
  have HE := Lib.hid (rend_any b S d at_ w h)
  have hc1 := h.box.cell (i := 1) rfl
  have hlen := h.len
  have hlo := h.lo
  have hhi := h.hi
  obtain ⟨r, hr⟩ : ∃ r, 8 * S.length = r := ⟨_, rfl⟩
  rw [hr] at HE hhi
  have e1 : IntKind.i64.wrap (8 * (d : Int)) = ((8 * d : Nat) : Int) := by rw [IntWalk.i64_in _ (by omega)]; omega
  have hd1 : decide (a2 < 8 * (d : Int)) = false := decide_eq_false (by omega)
  have hd2 : decide ((r : Int) < a2) = true := decide_eq_true (by omega)
  clear h hr hlo hhi h1
  go_enter Try.func23, Try.ntmps23
  go_wp2_with fail
  refine HE.out.mono ?_
  rintro e w1 ⟨rfl, hd⟩
  have HD := Lib.hid hd
  clear HE hd hc1
  go_wp2
  go_ret
  exact ⟨rfl, HD.out⟩
theorem rseek_nil (a2 : Int) (w : World) : Calls Try.prog 23 #[.pointer none, .int .i64 a2] w fun e w' => e = .returned (.int .i64 7) ∧ w = w' := by
  go_enter Try.func23, Try.ntmps23
  go_wp2
  go_ret
  exact ⟨rfl, rfl⟩
def seekE (S : List UInt8) (d : Nat) (a2 : Int) : Int := if a2 < 8 * (d : Int) ∨ 8 * (S.length : Int) < a2 then 1 else 0
def seekAt (S : List UInt8) (d at_ : Nat) (a2 : Int) : Nat := if seekE S d a2 = 0 then a2.toNat else at_
theorem rseek_any (b : Nat) (S : List UInt8) (d at_ : Nat) (a2 : Int) (w : World) (h : ReaderAt w b S d at_) :
    Calls Try.prog 23 #[.pointer (some ⟨b, 0, none⟩), .int .i64 a2] w fun e w' => e = .returned (.int .i64 (seekE S d a2)) ∧ RDid b S d (seekAt S d at_ a2) w w' := by
  by_cases h1 : a2 < 8 * (d : Int)
  · have e : seekE S d a2 = 1 := by unfold seekE; rw [if_pos (.inl h1)]
    refine (rseek_low b S d at_ a2 w h h1).mono ?_
    rintro e' w' ⟨rfl, rfl⟩
    rw [seekAt, e, if_neg (by decide)]
    exact ⟨rfl, RDid.same h (Below.refl _ _)⟩
  · by_cases h2 : 8 * (S.length : Int) < a2
    · have e : seekE S d a2 = 1 := by unfold seekE; rw [if_pos (.inr h2)]
      refine (rseek_high b S d at_ a2 w h h2).mono ?_
      rintro e' w' ⟨rfl, hd⟩
      rw [seekAt, e, if_neg (by decide)]
      exact ⟨rfl, RDid.same h (below_drawn hd)⟩
    · have e : seekE S d a2 = 0 := by unfold seekE; rw [if_neg (by omega)]
      obtain ⟨m, rfl⟩ : ∃ m : Nat, a2 = m := ⟨a2.toNat, by omega⟩
      refine (rseek_ok b S d at_ m w h (by omega) (by omega)).mono ?_
      rintro e' w' ⟨rfl, hd⟩
      rw [seekAt, e, if_pos rfl]
      exact ⟨rfl, hd⟩

set_option maxHeartbeats 400000 in
theorem rmore_any (b : Nat) (S T : List UInt8) (d at_ : Nat) (t : ByteArray) (w : World) (h : ReaderAt w b S d at_) (ht : t = str T) (hl : S.length + T.length ≤ 1000000) :
    Calls Try.prog 47 #[.pointer (some ⟨b, 0, none⟩), .string t] w fun e w' => e = .returned (.int .i64 0) ∧ RDid b (S ++ T) d at_ w w' := by
  have hc0 := h.box.cell (i := 0) rfl
  have hf0 := h.box.free 0
  have hlo := h.lo
  have hhi := h.hi
  obtain ⟨s, hs⟩ : ∃ s, str (S.drop d) = s := ⟨_, rfl⟩
  have hsz : s.size ≤ 1000000 := by rw [← hs, str_size, List.length_drop]; omega
  have htz : t.size ≤ 1000000 := by rw [ht, str_size]; omega
  have HR : Hid (RDid b (S ++ T) d at_ w (w.setCell ⟨b, 0, none⟩ (.string (s ++ t)))) := by
    refine ⟨⟨?_, hlo, by rw [List.length_append]; omega, by rw [List.length_append]; exact hl⟩, keep_setCell (S := fun j => j = b) (Keep.refl _ _) rfl _⟩
    have e : s ++ t = str ((S ++ T).drop d) := by rw [← hs, ht, str_append, List.drop_append_of_le_length (by omega)]
    rw [e]
    exact h.box.set 0 _
  rw [hs] at hc0
  clear h hs ht hl hlo hhi
  go_enter Try.func47, Try.ntmps47
  go_wp2
  go_ret
  exact ⟨rfl, HR.out⟩
theorem rmore_nil (t : ByteArray) (w : World) : Calls Try.prog 47 #[.pointer none, .string t] w fun e w' => e = .returned (.int .i64 7) ∧ w = w' := by
  go_enter Try.func47, Try.ntmps47
  go_wp2
  go_ret
  exact ⟨rfl, rfl⟩
end Go.Proofs.Ytjpjdecbkekcfaa

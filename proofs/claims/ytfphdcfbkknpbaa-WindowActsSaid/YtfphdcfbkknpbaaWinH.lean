/- The reference of package window: what was charged, by definition. -/
import Derived.Test.YtfphdcfbkknpbaaWinF
import Derived.Deep.RegionHeld3
import Derived.Deep.QuietTactic
import Derived.BigQuiet
namespace Go.Proofs.Ytfphdcfbkknpbaa
open Go.RowKit

/-- a charge: a tenant, how much, at which tick -/
abbrev Chg := Int × Int × Int
def encC (x : Chg) : List Value := [.int .i64 x.1, .int .i64 x.2.1, .int .i64 x.2.2]
def goodC (x : Chg) : Prop := 0 ≤ x.2.1 ∧ x.2.1 ≤ 1099511627776 ∧ 0 ≤ x.2.2 ∧ x.2.2 ≤ 1099511627776

def hits (t at_ span : Int) (c : Chg) : Bool := (c.1 == t) && (c.2.2 / span == at_ / span)
/-- what a tenant was charged in the window of a tick -/
def chL (ch : List Chg) (t at_ span : Int) : Int := ch.foldl (fun s c => if hits t at_ span c then s + c.2.1 else s) 0
theorem chL_snoc (ch : List Chg) (c : Chg) (t at_ span : Int) : chL (ch ++ [c]) t at_ span = if hits t at_ span c then chL ch t at_ span + c.2.1 else chL ch t at_ span := by
  unfold chL
  rw [List.foldl_append]
  rfl
theorem chL_bd {ch : List Chg} (h : ∀ c ∈ ch, goodC c) (t at_ span : Int) : 0 ≤ chL ch t at_ span ∧ chL ch t at_ span ≤ 1099511627776 * ch.length := by
  have key : ∀ k, k ≤ ch.length → 0 ≤ chL (ch.take k) t at_ span ∧ chL (ch.take k) t at_ span ≤ 1099511627776 * k := by
    intro k
    induction k with
    | zero => intro _; simp [chL]
    | succ k ih =>
      intro hk
      have i := ih (by omega)
      have hx : ch[k]? = some ch[k] := List.getElem?_eq_getElem (by omega)
      obtain ⟨g1, g2, _, _⟩ := h _ (List.mem_of_getElem? hx)
      rw [take_snoc hx, chL_snoc]
      split <;> omega
  have := key ch.length (Nat.le_refl _)
  rw [List.take_length] at this
  exact this
/-- all that a tenant was charged -/
def totC (ch : List Chg) (t : Int) : Int := ch.foldl (fun s c => if c.1 == t then min (s + c.2.1) 1099511627776 else s) 0
theorem totC_snoc (ch : List Chg) (c : Chg) (t : Int) : totC (ch ++ [c]) t = if c.1 == t then min (totC ch t + c.2.1) 1099511627776 else totC ch t := by
  unfold totC
  rw [List.foldl_append]
  rfl
theorem totC_bd {ch : List Chg} (h : ∀ c ∈ ch, goodC c) (t : Int) : 0 ≤ totC ch t ∧ totC ch t ≤ 1099511627776 := by
  have key : ∀ k, k ≤ ch.length → 0 ≤ totC (ch.take k) t ∧ totC (ch.take k) t ≤ 1099511627776 := by
    intro k
    induction k with
    | zero => intro _; simp [totC]
    | succ k ih =>
      intro hk
      have i := ih (by omega)
      have hx : ch[k]? = some ch[k] := List.getElem?_eq_getElem (by omega)
      obtain ⟨g1, g2, _, _⟩ := h _ (List.mem_of_getElem? hx)
      rw [take_snoc hx, totC_snoc]
      split <;> omega
  have := key ch.length (Nat.le_refl _)
  rw [List.take_length] at this
  exact this

set_option maxRecDepth 100000 in
set_option maxHeartbeats 1000000 in
theorem refcharged_any (v : Value) (ch : List Chg) (t n at_ span : Int) (w : World) (hv : RS w v ch encC 3 goodC) (hg : ∀ c ∈ ch, goodC c) (hl : ch.length ≤ 100) (hs : 1 ≤ span) (ha : 0 ≤ at_) (ha2 : at_ ≤ 1099511627776) :
    Calls Try.prog 40 #[v, .agg #[.int .i64 t, .int .i64 n, .int .i64 at_], .int .i64 span] w fun e w' => e = .returned (.int .i64 (chL ch t at_ span)) ∧ Below w.heap.size w w' := by
  have HV := Lib.hid hv
  have HG := Lib.hid hg
  obtain ⟨a, cap, rfl, hc1, hc2⟩ := hv.shape
  have hx0 : Blk (w.alloc (Obj.cells #[Value.int IntKind.i64 t, Value.int IntKind.i64 n, Value.int IntKind.i64 at_] 57)) w.heap.size [Value.int IntKind.i64 t, Value.int IntKind.i64 n, Value.int IntKind.i64 at_] 57 := Blk.new w _ _
  have HX0 := Lib.hid hx0
  clear hv hg hx0
  go_enter Try.func40, Try.ntmps40
  go_wp2
  go_loopw [7, 12] (fun s i wr => ∃ k : Nat, k ≤ ch.length ∧ i = .int .i64 k ∧ s = .int .i64 (chL (ch.take k) t at_ span) ∧
      Hid (Blk wr w.heap.size [Value.int IntKind.i64 t, Value.int IntKind.i64 n, Value.int IntKind.i64 at_] 57) ∧ Below w.heap.size w wr) (fun _ i _ => ch.length - (intOf i).toNat)
  case atStart => exact ⟨0, Nat.zero_le _, rfl, rfl, HX0.out, below_alloc _ _⟩
  case round =>
    obtain ⟨k, hk, rfl, rfl, HX, hbel⟩ := hrel
    have hsb := chL_bd (ch := ch.take k) (fun c hc => HG.out c (List.mem_of_mem_take hc)) t at_ span
    have hlt' : (ch.take k).length ≤ 100 := by have := List.length_take_le k ch; omega
    obtain ⟨S, hS⟩ : ∃ S, chL (ch.take k) t at_ span = S := ⟨_, rfl⟩
    rw [hS] at hsb ⊢
    have hsb1 : 0 ≤ S := hsb.1
    have hsb2 : S ≤ 1099511627776 * 100 := by omega
    have HS := Lib.hid hS
    clear hS hsb hlt'
    by_cases hlt : k < ch.length
    · obtain ⟨b2, off2, x, rfl, hbb2, hx, hgx, hcx⟩ := (HV.out.below hbel).at hlt
      obtain ⟨ct, cn, ca⟩ := x
      have hd0 : wr.cell? ⟨b2, off2 + k * 3, none⟩ = some (.int .i64 ct) := hcx 0 _ rfl
      have hd1 : wr.cell? ⟨b2, off2 + k * 3 + 1, none⟩ = some (.int .i64 cn) := hcx 1 _ rfl
      have hd2 : wr.cell? ⟨b2, off2 + k * 3 + 2, none⟩ = some (.int .i64 ca) := hcx 2 _ rfl
      obtain ⟨g1, g2, g3, g4⟩ := hgx
      simp only at g1 g2 g3 g4
      have hkl : (k : Int) < (ch.length : Int) := by omega
      have HXX := Lib.hid hx
      have hx0 := HX.out.cell (i := 0) (x := .int .i64 t) rfl
      have hx2 := HX.out.cell (i := 2) (x := .int .i64 at_) rfl
      have hal := below_alloc wr (Obj.cells #[Value.int IntKind.i64 ct, Value.int IntKind.i64 cn, Value.int IntKind.i64 ca] 57)
      have hwl := HX.out.lt
      clear hx hcx
      have hsp : ((span : Int) == 0) = false := beq_eq_false_iff_ne.2 (by omega)
      have hsn : ¬ span = 0 := by omega
      have HN := Lib.hid (show chL (ch.take (k + 1)) t at_ span = if (ct == t) && (ca / span == at_ / span) then S + cn else S by
        rw [take_snoc HXX.out, chL_snoc, HS.out]
        rfl)
      have hbel2 := hbel.alloc (by omega) (Obj.cells #[Value.int IntKind.i64 ct, Value.int IntKind.i64 cn, Value.int IntKind.i64 ca] 57)
      have HXN := Lib.hid (HX.out.below hal)
      clear hal
      cases h1 : (ct == t) with
      | true =>
        cases h2 : (ca / span == at_ / span) with
        | true =>
          have HN2 := Lib.hid (show chL (ch.take (k + 1)) t at_ span = S + cn by rw [HN.out, h1, h2]; rfl)
          go_wp2_with fail
          go_quiet (fail)
          go_wp2
          go_roundw
          case rel => exact ⟨k + 1, by omega, by go_num, by rw [HN2.out], HXN.out.below (below_drawn ⟨_, rfl⟩), hbel2.trans (below_of (below_drawn ⟨_, rfl⟩) hbel2.size)⟩
          case measure => simp [intOf]; omega
        | false =>
          have HN2 := Lib.hid (show chL (ch.take (k + 1)) t at_ span = S by rw [HN.out, h1, h2]; rfl)
          go_wp2_with fail
          go_quiet (fail)
          go_wp2
          go_roundw
          case rel => exact ⟨k + 1, by omega, by go_num, by rw [HN2.out], HXN.out.below (below_drawn ⟨_, rfl⟩), hbel2.trans (below_of (below_drawn ⟨_, rfl⟩) hbel2.size)⟩
          case measure => simp [intOf]; omega
      | false =>
        have HN2 := Lib.hid (show chL (ch.take (k + 1)) t at_ span = S by rw [HN.out, h1]; rfl)
        go_wp2_with fail
        go_quiet (fail)
        go_wp2
        go_roundw
        case rel => exact ⟨k + 1, by omega, by go_num, by rw [HN2.out], HXN.out.below (below_drawn ⟨_, rfl⟩), hbel2.trans (below_of (below_drawn ⟨_, rfl⟩) hbel2.size)⟩
        case measure => simp [intOf]; omega
    · obtain rfl : k = ch.length := by omega
      have HE := Lib.hid (show chL ch t at_ span = S by have := HS.out; rw [List.take_length] at this; exact this)
      go_wp2
      go_ret
      exact ⟨by rw [HE.out]; rfl, hbel⟩
end Go.Proofs.Ytfphdcfbkknpbaa

/- balerref27: what was done, by definition. -/
import Derived.Test.YtfphdcfbkknpbaaLedD
import Derived.Deep.RegionHeld3
import Derived.Deep.QuietTactic
import Derived.BigQuiet
namespace Go.Proofs.Ytfphdcfbkknpbaa
open Go.RowKit

/-- a deed: a tenant, and how much -/
abbrev Deed := Int × Int
def encD (x : Deed) : List Value := [.int .i64 x.1, .int .i64 x.2]
def goodD (x : Deed) : Prop := -1099511627776 ≤ x.2 ∧ x.2 ≤ 1099511627776

def usedD (l : List Deed) (t : Int) : Int := l.foldl (fun s d => if d.1 == t then s + d.2 else s) 0
theorem usedD_snoc (l : List Deed) (d : Deed) (t : Int) : usedD (l ++ [d]) t = if d.1 == t then usedD l t + d.2 else usedD l t := by
  unfold usedD
  rw [List.foldl_append]
  rfl
theorem usedD_bd {l : List Deed} (h : ∀ d ∈ l, goodD d) (t : Int) : -(1099511627776 * (l.length : Int)) ≤ usedD l t ∧ usedD l t ≤ 1099511627776 * l.length := by
  have key : ∀ k, k ≤ l.length → -(1099511627776 * (k : Int)) ≤ usedD (l.take k) t ∧ usedD (l.take k) t ≤ 1099511627776 * k := by
    intro k
    induction k with
    | zero => intro _; simp [usedD]
    | succ k ih =>
      intro hk
      have i := ih (by omega)
      have hx : l[k]? = some l[k] := List.getElem?_eq_getElem (by omega)
      obtain ⟨g1, g2⟩ := h _ (List.mem_of_getElem? hx)
      rw [take_snoc hx, usedD_snoc]
      split <;> omega
  have := key l.length (Nat.le_refl _)
  rw [List.take_length] at this
  exact this
def peakD (l : List Deed) (t : Int) : Int := (List.range l.length).foldl (fun m i => max m (usedD (l.take (i + 1)) t)) 0
def peakTo (l : List Deed) (t : Int) (k : Nat) : Int := (List.range k).foldl (fun m i => max m (usedD (l.take (i + 1)) t)) 0
theorem peakTo_succ (l : List Deed) (t : Int) (k : Nat) : peakTo l t (k + 1) = max (peakTo l t k) (usedD (l.take (k + 1)) t) := by
  unfold peakTo
  rw [List.range_succ, List.foldl_append]
  rfl
theorem peakTo_append (l m : List Deed) (t : Int) (k : Nat) (hk : k ≤ l.length) : peakTo (l ++ m) t k = peakTo l t k := by
  induction k with
  | zero => rfl
  | succ k ih => rw [peakTo_succ, peakTo_succ, ih (by omega), List.take_append_of_le_length (by omega)]
theorem peakD_snoc (l : List Deed) (d : Deed) (t : Int) : peakD (l ++ [d]) t = max (peakD l t) (usedD (l ++ [d]) t) := by
  have h1 : peakD (l ++ [d]) t = peakTo (l ++ [d]) t (l.length + 1) := by unfold peakD peakTo; rw [List.length_append]; rfl
  rw [h1, peakTo_succ, peakTo_append _ _ _ _ (Nat.le_refl _), List.take_of_length_le (by simp)]
  rfl
theorem peakTo_bd {l : List Deed} (h : ∀ d ∈ l, goodD d) (t : Int) (k : Nat) (hk : k ≤ l.length) : 0 ≤ peakTo l t k ∧ peakTo l t k ≤ 1099511627776 * l.length := by
  induction k with
  | zero => exact ⟨Int.le_refl 0, by show (0 : Int) ≤ _; omega⟩
  | succ k ih =>
    have i := ih (by omega)
    have u := usedD_bd (l := l.take (k + 1)) (fun d hd => h d (List.mem_of_mem_take hd)) t
    have hl := List.length_take_le (k + 1) l
    rw [peakTo_succ]
    have h2 : ((l.take (k + 1)).length : Int) ≤ l.length := by rw [List.length_take]; omega
    omega

theorem RS.pre {α : Type} {w : World} {a : Option Addr} {n cap : Nat} {l : List α} {enc : α → List Value} {sz : Nat} {good : α → Prop} (h : RS w (.slice a n cap) l enc sz good) {k : Nat} (hk : k ≤ n) :
    RS w (.slice a k cap) (l.take k) enc sz good := by
  obtain ⟨a', cap', hv, h1, h2, h3⟩ := h
  simp only [Value.slice.injEq] at hv
  obtain ⟨rfl, rfl, rfl⟩ := hv
  have hl : (l.take k).length = k := by rw [List.length_take]; omega
  refine ⟨a, cap, by rw [hl], by omega, h2, fun h0 => ?_⟩
  obtain ⟨b, off, rfl, hb, hc⟩ := h3 (by omega)
  refine ⟨b, off, rfl, hb, fun i x hx => hc i x ?_⟩
  rw [List.getElem?_take] at hx
  split at hx
  · exact hx
  · cases hx

theorem RS.all {α : Type} {w : World} {v : Value} {l : List α} {enc : α → List Value} {sz : Nat} {good : α → Prop} (h : RS w v l enc sz good) : ∀ x ∈ l, good x := by
  obtain ⟨a, cap, rfl, h1, h2, h3⟩ := h
  intro x hx
  obtain ⟨i, hi⟩ := List.mem_iff_getElem?.1 hx
  obtain ⟨b, off, rfl, hb, hc⟩ := h3 (by have := (List.getElem?_eq_some_iff.1 hi).1; omega)
  exact (hc i x hi).1

set_option maxRecDepth 100000 in
set_option maxHeartbeats 1000000 in
theorem refused_any (v : Value) (l : List Deed) (t : Int) (w : World) (hv : RS w v l encD 2 goodD) (hl : l.length ≤ 100) :
    Calls Try.prog 47 #[v, .int .i64 t] w fun e w' => e = .returned (.int .i64 (usedD l t)) ∧ Below w.heap.size w w' := by
  have HV := Lib.hid hv
  have HG := Lib.hid hv.all
  obtain ⟨a, cap, rfl, hc1, hc2⟩ := hv.shape
  clear hv
  go_enter Try.func47, Try.ntmps47
  go_wp2
  go_loopw [5, 10] (fun s i wr => ∃ k : Nat, k ≤ l.length ∧ i = .int .i64 k ∧ s = .int .i64 (usedD (l.take k) t) ∧ Below w.heap.size w wr) (fun _ i _ => l.length - (intOf i).toNat)
  case atStart => exact ⟨0, Nat.zero_le _, rfl, rfl, Below.refl _ _⟩
  case round =>
    obtain ⟨k, hk, rfl, rfl, hbel⟩ := hrel
    have hsb := usedD_bd (l := l.take k) (fun c hc => HG.out c (List.mem_of_mem_take hc)) t
    have hlt' : ((l.take k).length : Int) ≤ 100 := by have := List.length_take_le k l; omega
    obtain ⟨S, hS⟩ : ∃ S, usedD (l.take k) t = S := ⟨_, rfl⟩
    rw [hS] at hsb ⊢
    have hsb1 : -109951162777600 ≤ S := by omega
    have hsb2 : S ≤ 109951162777600 := by omega
    have HS := Lib.hid hS
    have hsz := hbel.size
    clear hS hsb hlt'
    by_cases hlt : k < l.length
    · obtain ⟨b2, off2, x, rfl, hbb2, hx, hgx, hcx⟩ := (HV.out.below hbel).at hlt
      obtain ⟨ct, cn⟩ := x
      have hd0 : wr.cell? ⟨b2, off2 + k * 2, none⟩ = some (.int .i64 ct) := hcx 0 _ rfl
      have hd1 : wr.cell? ⟨b2, off2 + k * 2 + 1, none⟩ = some (.int .i64 cn) := hcx 1 _ rfl
      obtain ⟨g1, g2⟩ := hgx
      simp only at g1 g2
      have hkl : (k : Int) < (l.length : Int) := by omega
      have HN := Lib.hid (show usedD (l.take (k + 1)) t = if ct == t then S + cn else S by rw [take_snoc hx, usedD_snoc, HS.out])
      have hbel2 := hbel.alloc (by omega) (Obj.cells #[Value.int IntKind.i64 ct, Value.int IntKind.i64 cn] 67)
      clear hx hcx
      cases h1 : (ct == t) with
      | true =>
        have HN2 := Lib.hid (show usedD (l.take (k + 1)) t = S + cn by rw [HN.out, h1]; rfl)
        go_wp2
        go_roundw
        case rel => exact ⟨k + 1, by omega, by go_num, by rw [HN2.out], hbel2⟩
        case measure => simp [intOf]; omega
      | false =>
        have HN2 := Lib.hid (show usedD (l.take (k + 1)) t = S by rw [HN.out, h1]; rfl)
        go_wp2
        go_roundw
        case rel => exact ⟨k + 1, by omega, by go_num, by rw [HN2.out], hbel2⟩
        case measure => simp [intOf]; omega
    · obtain rfl : k = l.length := by omega
      have HE := Lib.hid (show usedD l t = S by have := HS.out; rw [List.take_length] at this; exact this)
      go_wp2
      go_ret
      exact ⟨by rw [HE.out]; rfl, hbel⟩

set_option maxRecDepth 100000 in
set_option maxHeartbeats 1000000 in
theorem refpeak_any (v : Value) (l : List Deed) (t : Int) (w : World) (hv : RS w v l encD 2 goodD) (hl : l.length ≤ 100) :
    Calls Try.prog 48 #[v, .int .i64 t] w fun e w' => e = .returned (.int .i64 (peakD l t)) ∧ Below w.heap.size w w' := by
  have HV := Lib.hid hv
  have HG := Lib.hid hv.all
  obtain ⟨a, cap, rfl, hc1, hc2⟩ := hv.shape
  clear hv
  have HU := Lib.hid (fun (k : Nat) (w : World) (h : RS w (.slice a k cap) (l.take k) encD 2 goodD) => refused_any _ (l.take k) t w h (by rw [List.length_take]; omega))
  go_enter Try.func48, Try.ntmps48
  go_wp2
  go_loopw [5, 6, 7, 10] (fun m _ _ i wr => ∃ k : Nat, k ≤ l.length ∧ i = .int .i64 k ∧ m = .int .i64 (peakTo l t k) ∧ Below w.heap.size w wr) (fun _ _ _ i _ => l.length - (intOf i).toNat)
  case atStart => exact ⟨0, Nat.zero_le _, rfl, rfl, Below.refl _ _⟩
  case round =>
    obtain ⟨k, hk, rfl, rfl, hbel⟩ := hrel
    obtain ⟨S, hS⟩ : ∃ S, peakTo l t k = S := ⟨_, rfl⟩
    rw [hS]
    have HS := Lib.hid hS
    clear hS
    by_cases hlt : k < l.length
    · have HU1 := Lib.hid (HU.out (k + 1) wr ((HV.out.below hbel).pre (by omega)))
      have HN := Lib.hid (show peakTo l t (k + 1) = max S (usedD (l.take (k + 1)) t) by rw [peakTo_succ, HS.out])
      obtain ⟨U, hU⟩ : ∃ z, usedD (l.take (k + 1)) t = z := ⟨_, rfl⟩
      rw [hU] at HU1 HN
      clear hU
      go_wp2_with fail
      refine HU1.out.mono ?_
      rintro e w2 ⟨rfl, hb⟩
      have hbel2 := below_two hbel hb
      clear HU1 hb
      by_cases h1 : S < U
      · have HN2 := Lib.hid (show peakTo l t (k + 1) = U by rw [HN.out]; omega)
        have ht : decide (S < U) = true := decide_eq_true h1
        clear h1
        go_wp2
        go_roundw
        case rel => exact ⟨k + 1, by omega, by go_num, by rw [HN2.out], hbel2⟩
        case measure => simp [intOf]; omega
      · have HN2 := Lib.hid (show peakTo l t (k + 1) = S by rw [HN.out]; omega)
        have ht : decide (S < U) = false := decide_eq_false h1
        clear h1
        go_wp2
        go_roundw
        case rel => exact ⟨k + 1, by omega, by go_num, by rw [HN2.out], hbel2⟩
        case measure => simp [intOf]; omega
    · obtain rfl : k = l.length := by omega
      have HE := Lib.hid (show peakD l t = S from HS.out)
      go_wp2
      go_ret
      exact ⟨by rw [HE.out]; rfl, hbel⟩

theorem cellB {w w' : World} {a : Addr} {v : Value} (h : w.cell? a = some v) (k : Below w.heap.size w w') : w'.cell? a = some v := by rw [k.cell (World.block_lt_of_cell? w a h)]; exact h
theorem below_drew (w : World) : Below w.heap.size w w.drew := below_drawn ⟨1, rfl⟩

/-- an error's number of a reservation -/
def resW (L : List Int) (l : List Deed) (d : Deed) : Int :=
  if isIn d.1 L = false then 6 else if d.2 < 0 ∨ 1099511627776 < d.2 then 1 else
  if L.getD d.1.toNat 0 < d.2 then 33 else if L.getD d.1.toNat 0 < usedD l d.1 + d.2 then 34 else 0
/-- an error's number of a release -/
def relW (L : List Int) (l : List Deed) (d : Deed) : Int :=
  if isIn d.1 L = false then 6 else if d.2 < 0 ∨ usedD l d.1 < d.2 then 1 else 0

set_option maxRecDepth 100000 in
set_option maxHeartbeats 1000000 in
theorem refres_any (v v2 : Value) (L : List Int) (l : List Deed) (t n : Int) (w : World) (hL : RInts w v L) (hv : RS w v2 l encD 2 goodD) (hl : l.length ≤ 100) :
    Calls Try.prog 46 #[v, v2, .agg #[.int .i64 t, .int .i64 n]] w fun e w' => e = .returned (.int .i64 (resW L l (t, n))) ∧ Below w.heap.size w w' := by
  have hb := below_alloc w (Obj.cells #[Value.int IntKind.i64 t, Value.int IntKind.i64 n] 67)
  have HB := Lib.hid hb
  have HX := Lib.hid (Blk.new w [Value.int IntKind.i64 t, Value.int IntKind.i64 n] 67)
  have hu := usedD_bd hv.all t
  have HL := Lib.hid hL
  have hV := hv
  obtain ⟨a, cap, rfl, hc1, hc2⟩ := hL.shape
  obtain ⟨a2, cap2, rfl, hc3, hc4⟩ := hv.shape
  have HVV := Lib.hid hV
  clear hv hL hb hV
  have hlb : (l.length : Int) ≤ 100 := by omega
  by_cases hin : isIn t L = true
  · obtain ⟨k, rfl, hk⟩ := isIn_yes hin
    by_cases hn : n < 0
    · have HE := Lib.hid (show resW L l ((k : Int), n) = 1 by unfold resW; rw [if_neg (by rw [hin]; decide), if_pos (.inl hn)])
      have ht : decide (n < 0) = true := decide_eq_true hn
      have hk1 : (k : Int) < L.length := by omega
      clear hin hn
      go_enter Try.func46, Try.ntmps46
      go_wp2
      go_ret
      exact ⟨by rw [HE.out]; rfl, HB.out⟩
    · by_cases hn2 : 1099511627776 < n
      · have HE := Lib.hid (show resW L l ((k : Int), n) = 1 by unfold resW; rw [if_neg (by rw [hin]; decide), if_pos (.inr hn2)])
        have ht : decide (n < 0) = false := decide_eq_false hn
        have ht2 : decide (1099511627776 < n) = true := decide_eq_true hn2
        have hk1 : (k : Int) < L.length := by omega
        clear hin hn hn2
        go_enter Try.func46, Try.ntmps46
        go_wp2
        go_ret
        exact ⟨by rw [HE.out]; rfl, HB.out⟩
      · have ht : decide (n < 0) = false := decide_eq_false hn
        have ht2 : decide (1099511627776 < n) = false := decide_eq_false hn2
        have hk1 : (k : Int) < L.length := by omega
        obtain ⟨b5, off5, q, rfl, hb5, hq, hcq, hq1, hq2⟩ := HL.out.at hk
        have hgq : L.getD (k : Int).toNat 0 = q := by rw [Int.toNat_natCast]; exact getD_of hq
        have hcq2 := cellB hcq HB.out
        have hc0 := HX.out.cell (i := 0) (x := .int .i64 (k : Int)) rfl
        have hc1 := HX.out.cell (i := 1) (x := .int .i64 n) rfl
        have hd0 := cellB hc0 (below_drew _)
        have hd1 := cellB hc1 (below_drew _)
        have hdq := cellB hcq2 (below_drew _)
        have HBD := Lib.hid (below_two HB.out (below_drew _))
        by_cases h3 : q < n
        · have HE := Lib.hid (show resW L l ((k : Int), n) = 33 by
            unfold resW
            rw [if_neg (by rw [hin]; decide), if_neg (by show ¬(n < 0 ∨ 1099511627776 < n); omega)]
            show (if L.getD (k : Int).toNat 0 < n then _ else _) = _
            rw [hgq, if_pos h3])
          have ht3 : decide (q < n) = true := decide_eq_true h3
          clear hin hn hn2 hq hgq h3
          go_enter Try.func46, Try.ntmps46
          go_wp2
          go_region_held3 (fun w' => w'.cell? ⟨w.heap.size, 0, none⟩ = some (.int .i64 (k : Int)) ∧ w'.cell? ⟨w.heap.size, 1, none⟩ = some (.int .i64 n) ∧ w'.cell? ⟨b5, off5 + k, none⟩ = some (.int .i64 q))
            (first | (with_reducible exact ⟨hd0, hd1, hdq⟩) | assumption) ((first | fail))
          all_goals
            go_wp2
            go_ret
            exact ⟨by rw [HE.out]; rfl, HBD.out⟩
        · have hu2 := hu
          obtain ⟨U, hU⟩ : ∃ z, usedD l k = z := ⟨_, rfl⟩
          have hE : resW L l ((k : Int), n) = if q < U + n then 34 else 0 := by
            unfold resW
            rw [if_neg (by rw [hin]; decide), if_neg (by show ¬(n < 0 ∨ 1099511627776 < n); omega)]
            show (if L.getD (k : Int).toNat 0 < n then _ else if L.getD (k : Int).toNat 0 < usedD l k + n then _ else _) = _
            rw [hgq, if_neg h3, hU]
          have ht3 : decide (q < n) = false := decide_eq_false h3
          rw [hU] at hu2
          have HU2 := Lib.hid (refused_any (.slice a2 l.length cap2) l k _ (((HVV.out.below HB.out).below (below_drew _)).below (below_drew _)) hl)
          rw [hU] at HU2
          have hU1 : -109951162777600 ≤ U ∧ U ≤ 109951162777600 := by omega
          have hU2 := hU1.1
          have hU3 := hU1.2
          have hwp : IntKind.i64.wrap (U + n) = U + n := IntWalk.i64_in _ (by omega)
          have he0 := cellB hd0 (below_drew _)
          have he1 := cellB hd1 (below_drew _)
          have heq := cellB hdq (below_drew _)
          have HBE := Lib.hid (below_two HBD.out (below_drew _))
          have HIF : Hid (resW L l ((k : Int), n) = if q < U + n then 34 else 0) := Lib.hid hE
          clear hin hn hn2 hq hgq h3 hU hE hu hu2 HVV hU1
          by_cases h4 : q < U + n
          · have HE := Lib.hid (show resW L l ((k : Int), n) = 34 by rw [HIF.out, if_pos h4])
            have ht4 : decide (q < U + n) = true := decide_eq_true h4
            clear h4 HIF
            go_enter Try.func46, Try.ntmps46
            go_wp2
            go_region_held3 (fun w' => w'.cell? ⟨w.heap.size, 0, none⟩ = some (.int .i64 (k : Int)) ∧ w'.cell? ⟨w.heap.size, 1, none⟩ = some (.int .i64 n) ∧ w'.cell? ⟨b5, off5 + k, none⟩ = some (.int .i64 q))
              (first | (with_reducible exact ⟨hd0, hd1, hdq⟩) | assumption) ((first | fail))
            all_goals
              go_wp2
              go_region_held3 (fun w' => w'.cell? ⟨w.heap.size, 0, none⟩ = some (.int .i64 (k : Int)) ∧ w'.cell? ⟨w.heap.size, 1, none⟩ = some (.int .i64 n) ∧ w'.cell? ⟨b5, off5 + k, none⟩ = some (.int .i64 q))
                (first | (with_reducible exact ⟨he0, he1, heq⟩) | (with_reducible exact ⟨cellB he0 hb6, cellB he1 hb6, cellB heq hb6⟩) | assumption)
                (first | (go_at_call 47; refine HU2.out.mono ?_; rintro e w6 ⟨rfl, hb6⟩))
              all_goals
                have hbz := below_two HBE.out hb6
                go_wp2
                go_ret
                exact ⟨by rw [HE.out]; rfl, hbz⟩
          · have HE := Lib.hid (show resW L l ((k : Int), n) = 0 by rw [HIF.out, if_neg h4])
            have ht4 : decide (q < U + n) = false := decide_eq_false h4
            clear h4 HIF
            go_enter Try.func46, Try.ntmps46
            go_wp2
            go_region_held3 (fun w' => w'.cell? ⟨w.heap.size, 0, none⟩ = some (.int .i64 (k : Int)) ∧ w'.cell? ⟨w.heap.size, 1, none⟩ = some (.int .i64 n) ∧ w'.cell? ⟨b5, off5 + k, none⟩ = some (.int .i64 q))
              (first | (with_reducible exact ⟨hd0, hd1, hdq⟩) | assumption) ((first | fail))
            all_goals
              go_wp2
              go_region_held3 (fun w' => w'.cell? ⟨w.heap.size, 0, none⟩ = some (.int .i64 (k : Int)) ∧ w'.cell? ⟨w.heap.size, 1, none⟩ = some (.int .i64 n) ∧ w'.cell? ⟨b5, off5 + k, none⟩ = some (.int .i64 q))
                (first | (with_reducible exact ⟨he0, he1, heq⟩) | (with_reducible exact ⟨cellB he0 hb6, cellB he1 hb6, cellB heq hb6⟩) | assumption)
                (first | (go_at_call 47; refine HU2.out.mono ?_; rintro e w6 ⟨rfl, hb6⟩))
              all_goals
                have hbz := below_two HBE.out hb6
                go_wp2
                go_ret
                exact ⟨by rw [HE.out]; rfl, hbz⟩
  · have HE := Lib.hid (show resW L l (t, n) = 6 by unfold resW; rw [if_pos (by show isIn t L = false; simpa using hin)])
    clear HVV
    by_cases ht0 : t < 0
    · have ht : decide (t < 0) = true := decide_eq_true ht0
      clear hin ht0
      go_enter Try.func46, Try.ntmps46
      go_wp2
      go_ret
      exact ⟨by rw [HE.out]; rfl, HB.out⟩
    · have ht : decide (t < 0) = false := decide_eq_false ht0
      have hge : (L.length : Int) ≤ t := by
        unfold isIn at hin
        simp at hin
        omega
      have ht2 : decide ((L.length : Int) ≤ t) = true := decide_eq_true hge
      clear hin
      go_enter Try.func46, Try.ntmps46
      go_wp2
      go_ret
      exact ⟨by rw [HE.out]; rfl, HB.out⟩

set_option maxRecDepth 100000 in
set_option maxHeartbeats 1000000 in
theorem refrel_any (v v2 : Value) (L : List Int) (l : List Deed) (t n : Int) (w : World) (hL : RInts w v L) (hv : RS w v2 l encD 2 goodD) (hl : l.length ≤ 100) :
    Calls Try.prog 45 #[v, v2, .agg #[.int .i64 t, .int .i64 n]] w fun e w' => e = .returned (.int .i64 (relW L l (t, n))) ∧ Below w.heap.size w w' := by
  have hb := below_alloc w (Obj.cells #[Value.int IntKind.i64 t, Value.int IntKind.i64 n] 67)
  have HB := Lib.hid hb
  have HX := Lib.hid (Blk.new w [Value.int IntKind.i64 t, Value.int IntKind.i64 n] 67)
  obtain ⟨a, cap, rfl, hc1, hc2⟩ := hL.shape
  have hV := hv
  obtain ⟨a2, cap2, rfl, hc3, hc4⟩ := hv.shape
  have HVV := Lib.hid hV
  clear hv hL hb hV
  have hlb : (l.length : Int) ≤ 100 := by omega
  have hc0 := HX.out.cell (i := 0) (x := .int .i64 t) rfl
  have hc1 := HX.out.cell (i := 1) (x := .int .i64 n) rfl
  have hd0 := cellB hc0 (below_drew _)
  have hd1 := cellB hc1 (below_drew _)
  have HBD := Lib.hid (below_two HB.out (below_drew _))
  by_cases hin : isIn t L = true
  · obtain ⟨k, rfl, hk⟩ := isIn_yes hin
    have hk1 : (k : Int) < L.length := by omega
    by_cases hn : n < 0
    · have HE := Lib.hid (show relW L l ((k : Int), n) = 1 by unfold relW; rw [if_neg (by rw [hin]; decide), if_pos (.inl hn)])
      have ht : decide (n < 0) = true := decide_eq_true hn
      clear hin hn
      go_enter Try.func45, Try.ntmps45
      go_wp2_with fail
      go_quiet (fail)
      go_wp2
      go_ret
      exact ⟨by rw [HE.out]; rfl, below_two HB.out (below_drawn ⟨_, rfl⟩)⟩
    · have ht : decide (n < 0) = false := decide_eq_false hn
      have HU2 := Lib.hid (refused_any (.slice a2 l.length cap2) l k _ ((HVV.out.below HB.out).below (below_drew _)) hl)
      have hE : relW L l ((k : Int), n) = if usedD l k < n then 1 else 0 := by
        unfold relW
        rw [if_neg (by rw [hin]; decide)]
        show (if n < 0 ∨ usedD l k < n then _ else _) = _
        by_cases h : usedD l k < n
        · rw [if_pos (.inr h), if_pos h]
        · rw [if_neg (by omega), if_neg h]
      obtain ⟨U, hU⟩ : ∃ z, usedD l k = z := ⟨_, rfl⟩
      rw [hU] at HU2 hE
      have HIF : Hid (relW L l ((k : Int), n) = if U < n then 1 else 0) := Lib.hid hE
      clear hin hn hE hU HVV
      by_cases h4 : U < n
      · have HE := Lib.hid (show relW L l ((k : Int), n) = 1 by rw [HIF.out, if_pos h4])
        have ht4 : decide (U < n) = true := decide_eq_true h4
        clear h4 HIF
        go_enter Try.func45, Try.ntmps45
        go_wp2
        go_region_held3 (fun w' => w'.cell? ⟨w.heap.size, 0, none⟩ = some (.int .i64 (k : Int)) ∧ w'.cell? ⟨w.heap.size, 1, none⟩ = some (.int .i64 n))
          (first | (with_reducible exact ⟨hd0, hd1⟩) | (with_reducible exact ⟨cellB hd0 hb6, cellB hd1 hb6⟩) | assumption)
          (first | (go_at_call 47; refine HU2.out.mono ?_; rintro e w6 ⟨rfl, hb6⟩))
        all_goals
          have hbz := below_two HBD.out hb6
          go_wp2
          go_ret
          exact ⟨by rw [HE.out]; rfl, hbz⟩
      · have HE := Lib.hid (show relW L l ((k : Int), n) = 0 by rw [HIF.out, if_neg h4])
        have ht4 : decide (U < n) = false := decide_eq_false h4
        clear h4 HIF
        go_enter Try.func45, Try.ntmps45
        go_wp2
        go_region_held3 (fun w' => w'.cell? ⟨w.heap.size, 0, none⟩ = some (.int .i64 (k : Int)) ∧ w'.cell? ⟨w.heap.size, 1, none⟩ = some (.int .i64 n))
          (first | (with_reducible exact ⟨hd0, hd1⟩) | (with_reducible exact ⟨cellB hd0 hb6, cellB hd1 hb6⟩) | assumption)
          (first | (go_at_call 47; refine HU2.out.mono ?_; rintro e w6 ⟨rfl, hb6⟩))
        all_goals
          have hbz := below_two HBD.out hb6
          go_wp2
          go_ret
          exact ⟨by rw [HE.out]; rfl, hbz⟩
  · have HE := Lib.hid (show relW L l (t, n) = 6 by unfold relW; rw [if_pos (by show isIn t L = false; simpa using hin)])
    clear HVV
    by_cases ht0 : t < 0
    · have ht : decide (t < 0) = true := decide_eq_true ht0
      clear hin ht0
      go_enter Try.func45, Try.ntmps45
      go_wp2
      go_ret
      exact ⟨by rw [HE.out]; rfl, HB.out⟩
    · have ht : decide (t < 0) = false := decide_eq_false ht0
      have hge : (L.length : Int) ≤ t := by
        unfold isIn at hin
        simp at hin
        omega
      have ht2 : decide ((L.length : Int) ≤ t) = true := decide_eq_true hge
      clear hin
      go_enter Try.func45, Try.ntmps45
      go_wp2
      go_ret
      exact ⟨by rw [HE.out]; rfl, HB.out⟩
end Go.Proofs.Ytfphdcfbkknpbaa

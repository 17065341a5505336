/- The references of package window: Total, Refused; a meter that may not be. -/
import Derived.Test.YtfphdcfbkknpbaaWinH
import Derived.Test.YtfphdcfbkknpbaaLedE
namespace Go.Proofs.Ytfphdcfbkknpbaa
open Go.RowKit

set_option maxRecDepth 100000 in
set_option maxHeartbeats 1000000 in
theorem reftotal_any (v : Value) (ch : List Chg) (t : Int) (w : World) (hv : RS w v ch encC 3 goodC) (hl : ch.length ≤ 100) :
    Calls Try.prog 41 #[v, .int .i64 t] w fun e w' => e = .returned (.int .i64 (totC ch t)) ∧ Below w.heap.size w w' := by
  have HV := Lib.hid hv
  have HG := Lib.hid hv.all
  obtain ⟨a, cap, rfl, hc1, hc2⟩ := hv.shape
  clear hv
  go_enter Try.func41, Try.ntmps41
  go_wp2
  go_loopw [5, 10] (fun s i wr => ∃ k : Nat, k ≤ ch.length ∧ i = .int .i64 k ∧ s = .int .i64 (totC (ch.take k) t) ∧ Below w.heap.size w wr) (fun _ i _ => ch.length - (intOf i).toNat)
  case atStart => exact ⟨0, Nat.zero_le _, rfl, rfl, Below.refl _ _⟩
  case round =>
    obtain ⟨k, hk, rfl, rfl, hbel⟩ := hrel
    have hsb := totC_bd (ch := ch.take k) (fun c hc => HG.out c (List.mem_of_mem_take hc)) t
    obtain ⟨S, hS⟩ : ∃ S, totC (ch.take k) t = S := ⟨_, rfl⟩
    rw [hS] at hsb ⊢
    have hsb1 : 0 ≤ S := hsb.1
    have hsb2 : S ≤ 1099511627776 := hsb.2
    have HS := Lib.hid hS
    have hsz := hbel.size
    clear hS hsb
    by_cases hlt : k < ch.length
    · obtain ⟨b2, off2, x, rfl, hbb2, hx, hgx, hcx⟩ := (HV.out.below hbel).at hlt
      obtain ⟨ct, cn, ca⟩ := x
      have hd0 : wr.cell? ⟨b2, off2 + k * 3, none⟩ = some (.int .i64 ct) := hcx 0 _ rfl
      have hd1 : wr.cell? ⟨b2, off2 + k * 3 + 1, none⟩ = some (.int .i64 cn) := hcx 1 _ rfl
      have hd2 : wr.cell? ⟨b2, off2 + k * 3 + 2, none⟩ = some (.int .i64 ca) := hcx 2 _ rfl
      obtain ⟨g1, g2, g3, g4⟩ := hgx
      simp only at g1 g2 g3 g4
      have hkl : (k : Int) < (ch.length : Int) := by omega
      have HN := Lib.hid (show totC (ch.take (k + 1)) t = if ct == t then min (S + cn) 1099511627776 else S by rw [take_snoc hx, totC_snoc, HS.out])
      have hbel2 := hbel.alloc (by omega) (Obj.cells #[Value.int IntKind.i64 ct, Value.int IntKind.i64 cn, Value.int IntKind.i64 ca] 57)
      clear hx hcx
      cases h1 : (ct == t) with
      | true =>
        by_cases h2 : 1099511627776 < S + cn
        · have HN2 := Lib.hid (show totC (ch.take (k + 1)) t = 1099511627776 by rw [HN.out, h1, if_pos rfl]; omega)
          have ht : decide (1099511627776 < S + cn) = true := decide_eq_true h2
          clear h2
          go_wp2
          go_roundw
          case rel => exact ⟨k + 1, by omega, by go_num, by rw [HN2.out], hbel2⟩
          case measure => simp [intOf]; omega
        · have HN2 := Lib.hid (show totC (ch.take (k + 1)) t = S + cn by rw [HN.out, h1, if_pos rfl]; omega)
          have ht : decide (1099511627776 < S + cn) = false := decide_eq_false h2
          clear h2
          go_wp2
          go_roundw
          case rel => exact ⟨k + 1, by omega, by go_num, by rw [HN2.out], hbel2⟩
          case measure => simp [intOf]; omega
      | false =>
        have HN2 := Lib.hid (show totC (ch.take (k + 1)) t = S by rw [HN.out, h1]; rfl)
        go_wp2
        go_roundw
        case rel => exact ⟨k + 1, by omega, by go_num, by rw [HN2.out], hbel2⟩
        case measure => simp [intOf]; omega
    · obtain rfl : k = ch.length := by omega
      have HE := Lib.hid (show totC ch t = S by have := HS.out; rw [List.take_length] at this; exact this)
      go_wp2
      go_ret
      exact ⟨by rw [HE.out]; rfl, hbel⟩

/-- an error's number of a charge -/
def refW (Q : List Int) (ch : List Chg) (t n at_ span : Int) : Int :=
  if isIn t Q = false then 6 else if n < 0 ∨ 1099511627776 < n then 1 else if Q.getD t.toNat 0 - chL ch t at_ span < n then 33 else 0

set_option maxRecDepth 100000 in
set_option maxHeartbeats 1000000 in
theorem refrefused_any (v v2 : Value) (Q : List Int) (ch : List Chg) (t n at_ span : Int) (w : World) (hQ : RInts w v Q) (hm : mayL Q = true) (hv : RS w v2 ch encC 3 goodC) (hl : ch.length ≤ 100) (hs : 1 ≤ span) (ha : 0 ≤ at_) (ha2 : at_ ≤ 1099511627776) :
    Calls Try.prog 39 #[.agg #[.int .i64 span, v], v2, .agg #[.int .i64 t, .int .i64 n, .int .i64 at_]] w fun e w' => e = .returned (.int .i64 (refW Q ch t n at_ span)) ∧ Below w.heap.size w w' := by
  have HL := Lib.hid hQ
  have HVV := Lib.hid hv
  have hu := chL_bd hv.all t at_ span
  obtain ⟨a, cap, rfl, hc1, hc2⟩ := hQ.shape
  obtain ⟨a2, cap2, rfl, hc3, hc4⟩ := hv.shape
  have hal1 := below_alloc w (Obj.cells #[Value.int IntKind.i64 span, Value.slice a Q.length cap] 60)
  have hal2 := below_alloc (w.alloc (Obj.cells #[Value.int IntKind.i64 span, Value.slice a Q.length cap] 60)) (Obj.cells #[Value.int IntKind.i64 t, Value.int IntKind.i64 n, Value.int IntKind.i64 at_] 57)
  have HB := Lib.hid (below_two hal1 hal2)
  have hX1 := (Blk.new w [Value.int IntKind.i64 span, Value.slice a Q.length cap] 60).below hal2
  have hX2 := Blk.new (w.alloc (Obj.cells #[Value.int IntKind.i64 span, Value.slice a Q.length cap] 60)) [Value.int IntKind.i64 t, Value.int IntKind.i64 n, Value.int IntKind.i64 at_] 57
  rw [show (w.alloc (Obj.cells #[Value.int IntKind.i64 span, Value.slice a Q.length cap] 60)).heap.size = w.heap.size + 1 by simp] at hX2
  have hlb : (ch.length : Int) ≤ 100 := by omega
  have hm0 := hX1.cell (i := 0) (x := .int .i64 span) rfl
  have hm1 := hX1.cell (i := 1) (x := Value.slice a Q.length cap) rfl
  have hx0 := hX2.cell (i := 0) (x := .int .i64 t) rfl
  have hx1 := hX2.cell (i := 1) (x := .int .i64 n) rfl
  have hx2 := hX2.cell (i := 2) (x := .int .i64 at_) rfl
  clear hQ hv hal1 hal2 hX1 hX2
  by_cases hin : isIn t Q = true
  · obtain ⟨k, rfl, hk⟩ := isIn_yes hin
    have hk1 : (k : Int) < Q.length := by omega
    by_cases hn : n < 0
    · have HE := Lib.hid (show refW Q ch (k : Int) n at_ span = 1 by unfold refW; rw [if_neg (by rw [hin]; decide), if_pos (.inl hn)])
      have ht : decide (n < 0) = true := decide_eq_true hn
      clear hin hn HVV hu hm
      go_enter Try.func39, Try.ntmps39
      go_wp2
      go_ret
      exact ⟨by rw [HE.out]; rfl, HB.out⟩
    · by_cases hn2 : 1099511627776 < n
      · have HE := Lib.hid (show refW Q ch (k : Int) n at_ span = 1 by unfold refW; rw [if_neg (by rw [hin]; decide), if_pos (.inr hn2)])
        have ht : decide (n < 0) = false := decide_eq_false hn
        have ht2 : decide (1099511627776 < n) = true := decide_eq_true hn2
        clear hin hn hn2 HVV hu hm
        go_enter Try.func39, Try.ntmps39
        go_wp2
        go_ret
        exact ⟨by rw [HE.out]; rfl, HB.out⟩
      · have ht : decide (n < 0) = false := decide_eq_false hn
        have ht2 : decide (1099511627776 < n) = false := decide_eq_false hn2
        obtain ⟨b5, off5, q, rfl, hb5, hq, hcq, hq1, hq2⟩ := HL.out.at hk
        have hqm := mayL_at hm hq
        have hgq : Q.getD (k : Int).toNat 0 = q := by rw [Int.toNat_natCast]; exact getD_of hq
        have hcq2 := cellB hcq HB.out
        have HU2 := Lib.hid (refcharged_any (.slice a2 ch.length cap2) ch k n at_ span _ ((HVV.out.below HB.out).below (below_drew _)) HVV.out.all hl hs ha ha2)
        have hd0 := cellB hm0 (below_drew _)
        have he0 := cellB hx0 (below_drew _)
        have he1 := cellB hx1 (below_drew _)
        have he2 := cellB hx2 (below_drew _)
        have hdq := cellB hcq2 (below_drew _)
        have HBD := Lib.hid (below_two HB.out (below_drew _))
        obtain ⟨U, hU⟩ : ∃ z, chL ch k at_ span = z := ⟨_, rfl⟩
        have hE : refW Q ch (k : Int) n at_ span = if q - U < n then 33 else 0 := by
          unfold refW
          rw [if_neg (by rw [hin]; decide), if_neg (by omega), hgq, hU]
        rw [hU] at HU2 hu
        have hwp : IntKind.i64.wrap (q - U) = q - U := IntWalk.i64_in _ (by omega)
        have HIF := Lib.hid hE
        clear hin hn hn2 hq hgq hU hE hu hm HVV
        by_cases h4 : q - U < n
        · have HE := Lib.hid (show refW Q ch (k : Int) n at_ span = 33 by rw [HIF.out, if_pos h4])
          have ht4 : decide (q - U < n) = true := decide_eq_true h4
          clear h4 HIF
          go_enter Try.func39, Try.ntmps39
          go_wp2
          go_region_held3 (fun w' => w'.cell? ⟨w.heap.size, 0, none⟩ = some (.int .i64 span) ∧ w'.cell? ⟨w.heap.size + 1, 0, none⟩ = some (.int .i64 (k : Int)) ∧ w'.cell? ⟨w.heap.size + 1, 1, none⟩ = some (.int .i64 n) ∧ w'.cell? ⟨w.heap.size + 1, 2, none⟩ = some (.int .i64 at_) ∧ w'.cell? ⟨b5, off5 + k, none⟩ = some (.int .i64 q))
            (first | (with_reducible exact ⟨hd0, he0, he1, he2, hdq⟩) | (with_reducible exact ⟨cellB hd0 hb6, cellB he0 hb6, cellB he1 hb6, cellB he2 hb6, cellB hdq hb6⟩) | assumption)
            (first | (go_at_call 40; refine HU2.out.mono ?_; rintro e w6 ⟨rfl, hb6⟩))
          all_goals
            have hbz := below_two HBD.out hb6
            go_wp2
            go_ret
            exact ⟨by rw [HE.out]; rfl, hbz⟩
        · have HE := Lib.hid (show refW Q ch (k : Int) n at_ span = 0 by rw [HIF.out, if_neg h4])
          have ht4 : decide (q - U < n) = false := decide_eq_false h4
          clear h4 HIF
          go_enter Try.func39, Try.ntmps39
          go_wp2
          go_region_held3 (fun w' => w'.cell? ⟨w.heap.size, 0, none⟩ = some (.int .i64 span) ∧ w'.cell? ⟨w.heap.size + 1, 0, none⟩ = some (.int .i64 (k : Int)) ∧ w'.cell? ⟨w.heap.size + 1, 1, none⟩ = some (.int .i64 n) ∧ w'.cell? ⟨w.heap.size + 1, 2, none⟩ = some (.int .i64 at_) ∧ w'.cell? ⟨b5, off5 + k, none⟩ = some (.int .i64 q))
            (first | (with_reducible exact ⟨hd0, he0, he1, he2, hdq⟩) | (with_reducible exact ⟨cellB hd0 hb6, cellB he0 hb6, cellB he1 hb6, cellB he2 hb6, cellB hdq hb6⟩) | assumption)
            (first | (go_at_call 40; refine HU2.out.mono ?_; rintro e w6 ⟨rfl, hb6⟩))
          all_goals
            have hbz := below_two HBD.out hb6
            go_wp2
            go_ret
            exact ⟨by rw [HE.out]; rfl, hbz⟩
  · have HE := Lib.hid (show refW Q ch t n at_ span = 6 by unfold refW; rw [if_pos (by simpa using hin)])
    clear HVV hu hm
    by_cases ht0 : t < 0
    · have ht : decide (t < 0) = true := decide_eq_true ht0
      clear hin ht0
      go_enter Try.func39, Try.ntmps39
      go_wp2
      go_ret
      exact ⟨by rw [HE.out]; rfl, HB.out⟩
    · have ht : decide (t < 0) = false := decide_eq_false ht0
      have hge : (Q.length : Int) ≤ t := by
        unfold isIn at hin
        simp at hin
        omega
      have ht2 : decide ((Q.length : Int) ≤ t) = true := decide_eq_true hge
      clear hin
      go_enter Try.func39, Try.ntmps39
      go_wp2
      go_ret
      exact ⟨by rw [HE.out]; rfl, HB.out⟩

set_option maxRecDepth 100000 in
theorem wnew_no (v : Value) (l : List Int) (span : Int) (w : World) (hv : RInts w v l) (hm : mayM span l = false) :
    Calls Try.prog 17 #[.int .i64 span, v] w fun e w' => e = .returned (.tuple #[.pointer none, .int .i64 1]) ∧ w = w' := by
  have HC := Lib.hid (containsfunc_any v l _ wrong w hv wnew1_enters wnew1_any)
  rw [any_wrong] at HC
  obtain ⟨a, cap, rfl, hc1, hc2⟩ := hv.shape
  clear hv
  obtain ⟨M, hM⟩ : ∃ z, mayL l = z := ⟨_, rfl⟩
  rw [hM] at HC
  have key : span < 1 ∨ 1048576 < span ∨ l.length = 0 ∨ 16 < l.length ∨ M = false := by
    rw [← hM]
    unfold mayM limitsB at hm
    cases hx : mayL l with
    | false => simp
    | true =>
      rw [hx] at hm
      simp at hm
      omega
  clear hm hM
  by_cases c1 : span < 1
  · have t1 : decide (span < 1) = true := decide_eq_true c1
    clear key c1
    go_enter Try.func17, Try.ntmps17
    go_wp2_with fail
    refine HC.out.mono ?_
    rintro e w' ⟨rfl, rfl⟩
    clear HC
    go_wp2
    go_ret2
    exact ⟨rfl, rfl⟩
  have t1 : decide (span < 1) = false := decide_eq_false c1
  by_cases c2 : 1048576 < span
  · have t2 : decide (1048576 < span) = true := decide_eq_true c2
    clear key c1 c2
    go_enter Try.func17, Try.ntmps17
    go_wp2_with fail
    refine HC.out.mono ?_
    rintro e w' ⟨rfl, rfl⟩
    clear HC
    go_wp2
    go_ret2
    exact ⟨rfl, rfl⟩
  have t2 : decide (1048576 < span) = false := decide_eq_false c2
  by_cases c3 : l.length = 0
  · have t3 : ((l.length : Int) == 0) = true := by rw [c3]; rfl
    clear key c1 c2 c3
    go_enter Try.func17, Try.ntmps17
    go_wp2_with fail
    refine HC.out.mono ?_
    rintro e w' ⟨rfl, rfl⟩
    clear HC
    go_wp2
    go_ret2
    exact ⟨rfl, rfl⟩
  have t3 : ((l.length : Int) == 0) = false := beq_eq_false_iff_ne.2 (by omega)
  by_cases c4 : 16 < l.length
  · have t4 : decide (16 < l.length) = true := decide_eq_true c4
    have t4' : decide ((16 : Int) < (l.length : Int)) = true := decide_eq_true (by omega)
    clear key c1 c2 c3 c4
    go_enter Try.func17, Try.ntmps17
    go_wp2_with fail
    refine HC.out.mono ?_
    rintro e w' ⟨rfl, rfl⟩
    clear HC
    go_wp2
    go_ret2
    exact ⟨rfl, rfl⟩
  have t4 : decide (16 < l.length) = false := decide_eq_false c4
  have t4' : decide ((16 : Int) < (l.length : Int)) = false := decide_eq_false (by omega)
  obtain rfl : M = false := by
    rcases key with h | h | h | h | h
    · exact absurd h c1
    · exact absurd h c2
    · exact absurd h c3
    · exact absurd h c4
    · exact h
  clear key c1 c2 c3 c4
  go_enter Try.func17, Try.ntmps17
  go_wp2_with fail
  refine HC.out.mono ?_
  rintro e w' ⟨rfl, rfl⟩
  clear HC
  go_wp2
  go_ret2
  exact ⟨rfl, rfl⟩
end Go.Proofs.Ytfphdcfbkknpbaa

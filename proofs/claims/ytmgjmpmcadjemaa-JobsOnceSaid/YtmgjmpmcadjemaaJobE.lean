/- Package jobs: the references. -/
import Derived.Test.YtmgjmpmcadjemaaJobD
namespace Go.Proofs.Ytmgjmpmcadjemaa
open Go.RowKit

/-- 'append(out, n)', the new block's number in other words -/
theorem wpList_append_int2 {P : Program} (wr : World) (o1 : Obj) {ops : Array Oper} {rest : List Oper} {o : Oper} {a : Act} {Q : Exit → Act → World → Prop}
    (hg : o.guard = none) (s x : Operand) (t : TypeId) (hop : o.op = Op.call { callee := Callee.builtin Builtin.append, args := #[s, x], argTypes := #[t, t] })
    (e : TypeId) (h1 : P.underlying t = some (.slice e)) (hinfo : (P.info? e).map (fun i => (i.zero, i.size, i.bytes)) = some (some (.int .i64 0), 1, 8))
    (nb : Nat) (hnb : nb = wr.heap.size) (v : Value) (l : List Int) (y : Int) (t1 : TypeId) (ho1 : o1 = .cells #[.int .i64 y] t1 (0, 0)) (hs : a.eval s = v) (hx : a.eval x = .slice (some ⟨nb, 0, none⟩) 1 1)
    (hown : OwnI wr e v l) (hl : l.length < 1000000000)
    (hK : ∀ v' w', OwnI w' e v' (l ++ [y]) → Keep (fun k => v.ownBlock = some k) wr w' → (∀ g, v'.ownBlock = some g → v.ownBlock = some g ∨ wr.heap.size ≤ g) → wpList P ops Q rest (a.put o.dst v') w') :
    wpList P ops Q (o :: rest) a (wr.alloc o1) := by
  subst hnb
  exact wpList_append_int wr o1 hg s x t hop e h1 hinfo v l y t1 ho1 hs hx hown hl hK

theorem liveR_append (A B : List RE) : ∃ T, liveR (A ++ B) = liveR A ++ T := by
  unfold liveR
  rw [List.zipIdx_append, List.filter_append, List.map_append]
  exact ⟨_, rfl⟩
theorem liveR_cut (R : List RE) (k : Nat) : ∃ T, liveR R = liveR (R.take k) ++ T := by
  obtain ⟨T, h⟩ := liveR_append (R.take k) (R.drop k)
  rw [List.take_append_drop] at h
  exact ⟨T, h⟩
theorem find_here {p : LV → Bool} {R : List RE} {k : Nat} {e : JE} (hr : R[k]? = some (e, false)) (hno : (liveR (R.take k)).find? p = none) (hp : p (e, (k : Int) + 1) = true) : (liveR R).find? p = some (e, (k : Int) + 1) := by
  obtain ⟨T, hT⟩ := liveR_cut R (k + 1)
  rw [hT, liveR_take hr, List.append_assoc, List.find?_append, hno]
  simp [hp]
theorem find_on {p : LV → Bool} {R : List RE} {k : Nat} {r : RE} (hr : R[k]? = some r) (hno : (liveR (R.take k)).find? p = none) (hp : r.2 = true ∨ p (r.1, (k : Int) + 1) = false) : (liveR (R.take (k + 1))).find? p = none := by
  rw [liveR_take hr, List.find?_append, hno]
  rcases hp with h | h
  · simp [h]
  · cases hd : r.2 <;> simp [h]

set_option maxHeartbeats 1000000 in
theorem reffind_any (v : Value) (R : List RE) (c i : Int) (w : World) (hv : RS w v R encR 5 goodR) (hl : R.length ≤ 900) :
    Calls Try.prog 47 #[v, .int .i64 c, .int .i64 i] w fun e w' => e = .returned (.int .i64 (findH c i (liveR R))) ∧ Below w.heap.size w w' := by
  have HV := Lib.hid hv
  obtain ⟨a, cap, rfl, hc1, hc2⟩ := hv.shape
  clear hv
  go_enter Try.func47, Try.ntmps47
  go_wp2
  go_loopw [7, 8, 11] (fun _ _ s wr => ∃ k : Nat, k ≤ R.length ∧ s = .int .i64 k ∧ Hid ((liveR (R.take k)).find? (isCI c i) = none) ∧ Below w.heap.size w wr) (fun _ _ s _ => R.length - (intOf s).toNat)
  case atStart => exact ⟨0, Nat.zero_le _, rfl, rfl, Below.refl _ _⟩
  case round =>
    obtain ⟨k, hk, rfl, HN, hb⟩ := hrel
    by_cases hlt : k < R.length
    · obtain ⟨b2, off, x, rfl, hbb, hx, hgx, hcx⟩ := (HV.out.below hb).at hlt
      have HX := Lib.hid hx
      have hxn0 := hgx.2.2.2
      obtain ⟨⟨xc, xi, xt, xn⟩, xd⟩ := x
      have hxn : -9223372036854775808 ≤ xn ∧ xn ≤ 9223372036854775807 := hxn0
      have c0 : wr.cell? ⟨b2, off + k * 5, none⟩ = some (.int .i64 xc) := hcx 0 _ rfl
      have c1 : wr.cell? ⟨b2, off + k * 5 + 1, none⟩ = some (.int .i64 xi) := hcx 1 _ rfl
      have c2 : wr.cell? ⟨b2, off + k * 5 + 2, none⟩ = some (.int .i64 xt) := hcx 2 _ rfl
      have c3 : wr.cell? ⟨b2, off + k * 5 + 3, none⟩ = some (.int .i64 xn) := hcx 3 _ rfl
      have c4 : wr.cell? ⟨b2, off + k * 5 + 4, none⟩ = some (.bool xd) := hcx 4 _ rfl
      have HAL := Lib.hid (below_alloc wr (.cells #[.int .i64 xc, .int .i64 xi, .int .i64 xt, .int .i64 xn, .bool xd] 45 (0, 0)))
      have HB3 := Lib.hid (hb.trans (below_of HAL.out hb.size))
      clear hx hgx hcx hb hxn0
      cases xd with
      | true =>
        have HN2 := Lib.hid (find_on HX.out HN.out (.inl rfl))
        go_wp2
        go_roundw
        case rel => exact ⟨k + 1, by omega, by go_num, HN2.out, HB3.out⟩
        case measure => simp [intOf]; omega
      | false =>
        cases h1 : xc == c with
        | false =>
          have HN2 := Lib.hid (find_on (p := isCI c i) HX.out HN.out (.inr (by show ((xc == c) && (xi == i)) = false; rw [h1]; rfl)))
          go_wp2
          go_roundw
          case rel => exact ⟨k + 1, by omega, by go_num, HN2.out, HB3.out⟩
          case measure => simp [intOf]; omega
        | true =>
          cases h2 : xi == i with
          | false =>
            have HN2 := Lib.hid (find_on (p := isCI c i) HX.out HN.out (.inr (by show ((xc == c) && (xi == i)) = false; rw [h2, Bool.and_false])))
            go_wp2
            go_roundw
            case rel => exact ⟨k + 1, by omega, by go_num, HN2.out, HB3.out⟩
            case measure => simp [intOf]; omega
          | true =>
            have HF := Lib.hid (show findH c i (liveR R) = (k : Int) + 1 by
              unfold findH
              rw [find_here (p := isCI c i) HX.out HN.out (by show ((xc == c) && (xi == i)) = true; rw [h1, h2]; rfl)])
            go_wp2
            go_ret
            exact ⟨ret_int HF.out.symm, HB3.out⟩
    · obtain rfl : k = R.length := by omega
      have HF := Lib.hid (show findH c i (liveR R) = 0 by unfold findH; have := HN.out; rw [List.take_length] at this; rw [this])
      go_wp2
      go_ret
      exact ⟨ret_int HF.out.symm, hb⟩

set_option maxHeartbeats 1000000 in
theorem reflen_any (v : Value) (R : List RE) (w : World) (hv : RS w v R encR 5 goodR) (hl : R.length ≤ 900) :
    Calls Try.prog 22 #[v] w fun e w' => e = .returned (.int .i64 ((liveR R).length : Int)) ∧ Below w.heap.size w w' := by
  have HV := Lib.hid hv
  obtain ⟨a, cap, rfl, hc1, hc2⟩ := hv.shape
  clear hv
  go_enter Try.func22, Try.ntmps22
  go_wp2
  go_loopw [3, 5, 8] (fun n _ s wr => ∃ (k m : Nat), k ≤ R.length ∧ m ≤ k ∧ n = .int .i64 m ∧ s = .int .i64 k ∧ Hid (m = (liveR (R.take k)).length) ∧ Below w.heap.size w wr) (fun _ _ s _ => R.length - (intOf s).toNat)
  case atStart => exact ⟨0, 0, Nat.zero_le _, Nat.le_refl _, rfl, rfl, rfl, Below.refl _ _⟩
  case round =>
    obtain ⟨k, m, hk, hmk, rfl, rfl, HN, hb⟩ := hrel
    by_cases hlt : k < R.length
    · obtain ⟨b2, off, x, rfl, hbb, hx, hgx, hcx⟩ := (HV.out.below hb).at hlt
      have HX := Lib.hid hx
      have hxn0 := hgx.2.2.2
      obtain ⟨⟨xc, xi, xt, xn⟩, xd⟩ := x
      have hxn : -9223372036854775808 ≤ xn ∧ xn ≤ 9223372036854775807 := hxn0
      have c0 : wr.cell? ⟨b2, off + k * 5, none⟩ = some (.int .i64 xc) := hcx 0 _ rfl
      have c1 : wr.cell? ⟨b2, off + k * 5 + 1, none⟩ = some (.int .i64 xi) := hcx 1 _ rfl
      have c2 : wr.cell? ⟨b2, off + k * 5 + 2, none⟩ = some (.int .i64 xt) := hcx 2 _ rfl
      have c3 : wr.cell? ⟨b2, off + k * 5 + 3, none⟩ = some (.int .i64 xn) := hcx 3 _ rfl
      have c4 : wr.cell? ⟨b2, off + k * 5 + 4, none⟩ = some (.bool xd) := hcx 4 _ rfl
      have HAL := Lib.hid (below_alloc wr (.cells #[.int .i64 xc, .int .i64 xi, .int .i64 xt, .int .i64 xn, .bool xd] 45 (0, 0)))
      have HB3 := Lib.hid (hb.trans (below_of HAL.out hb.size))
      clear hx hgx hcx hb hxn0
      have HT := Lib.hid (congrArg List.length (liveR_take HX.out))
      cases xd with
      | true =>
        have HN2 := Lib.hid (show m = (liveR (R.take (k + 1))).length by rw [HT.out, HN.out]; simp)
        clear HT
        go_wp2
        go_roundw
        case rel => exact ⟨k + 1, m, by omega, by omega, rfl, by go_num, HN2.out, HB3.out⟩
        case measure => simp [intOf]; omega
      | false =>
        have HN2 := Lib.hid (show m + 1 = (liveR (R.take (k + 1))).length by rw [HT.out, HN.out]; simp)
        clear HT
        go_wp2
        go_roundw
        case rel => exact ⟨k + 1, m + 1, by omega, by omega, by go_num, by go_num, HN2.out, HB3.out⟩
        case measure => simp [intOf]; omega
    · obtain rfl : k = R.length := by omega
      have HF := Lib.hid (show (m : Int) = ((liveR R).length : Int) by rw [HN.out, List.take_length])
      go_wp2
      go_ret
      exact ⟨ret_int HF.out, hb⟩

def isB (by_ : Bool) (n : Int) : LV → Bool := if by_ then isT n else isC n

theorem hnd_ok2 {p : LV → Bool} {R : List RE} (hl : R.length ≤ 900) : ∀ n ∈ hndL p (liveR R), -9223372036854775808 ≤ n ∧ n ≤ 9223372036854775807 := by
  intro n hn
  unfold hndL at hn
  obtain ⟨x, hx, rfl⟩ := List.mem_map.1 hn
  obtain ⟨k, hk, e⟩ := liveR_mem.1 (List.mem_filter.1 hx).1
  have := (List.getElem?_eq_some_iff.1 hk).1
  omega

set_option maxHeartbeats 2000000 in
set_option maxRecDepth 100000 in
theorem refhnd_any (v : Value) (R : List RE) (n : Int) (by_ : Bool) (w : World) (hv : RS w v R encR 5 goodR) (hl : R.length ≤ 900) :
    Calls Try.prog 49 #[v, .int .i64 n, .bool by_] w fun e w' => ∃ v', e = .returned v' ∧ RInts w' v' (hndL (isB by_ n) (liveR R)) ∧ Below w.heap.size w w' := by
  have HV := Lib.hid hv
  obtain ⟨a, cap, rfl, hc1, hc2⟩ := hv.shape
  clear hv
  go_enter Try.func49, Try.ntmps49
  go_wp2
  go_loopw [7, 8, 9, 12] (fun o _ _ s wr => ∃ (k : Nat), k ≤ R.length ∧ s = .int .i64 k ∧ Hid (OwnI wr 3 o (hndL (isB by_ n) (liveR (R.take k)))) ∧ Hid (FreshV w.heap.size o) ∧ Below w.heap.size w wr) (fun _ _ _ s _ => R.length - (intOf s).toNat)
  case atStart => exact ⟨0, Nat.zero_le _, rfl, OwnI.nil _ _, FreshV.nil _, Below.refl _ _⟩
  case round =>
    obtain ⟨k, hk, rfl, HO, HFR, hb⟩ := hrel
    by_cases hlt : k < R.length
    · obtain ⟨b2, off, x, rfl, hbb, hx, hgx, hcx⟩ := (HV.out.below hb).at hlt
      have HX := Lib.hid hx
      have hxn0 := hgx.2.2.2
      obtain ⟨⟨xc, xi, xt, xn⟩, xd⟩ := x
      have hxn : -9223372036854775808 ≤ xn ∧ xn ≤ 9223372036854775807 := hxn0
      have c0 : wr.cell? ⟨b2, off + k * 5, none⟩ = some (.int .i64 xc) := hcx 0 _ rfl
      have c1 : wr.cell? ⟨b2, off + k * 5 + 1, none⟩ = some (.int .i64 xi) := hcx 1 _ rfl
      have c2 : wr.cell? ⟨b2, off + k * 5 + 2, none⟩ = some (.int .i64 xt) := hcx 2 _ rfl
      have c3 : wr.cell? ⟨b2, off + k * 5 + 3, none⟩ = some (.int .i64 xn) := hcx 3 _ rfl
      have c4 : wr.cell? ⟨b2, off + k * 5 + 4, none⟩ = some (.bool xd) := hcx 4 _ rfl
      have HAL := Lib.hid (below_alloc wr (.cells #[.int .i64 xc, .int .i64 xi, .int .i64 xt, .int .i64 xn, .bool xd] 45 (0, 0)))
      have HB3 := Lib.hid (hb.trans (below_of HAL.out hb.size))
      clear hx hgx hcx hb hxn0
      have HO2 := Lib.hid (HO.out.below HAL.out)
      have HT := Lib.hid (congrArg (hndL (isB by_ n)) (liveR_take HX.out))
      have HLN := Lib.hid (show (hndL (isB by_ n) (liveR (R.take k))).length < 1000000000 by
        have h1 := hndL_len (isB by_ n) (liveR (R.take k))
        have h2 := liveR_len (R.take k)
        rw [List.length_take] at h2
        omega)
      have HC : Hid (xd = true ∨ (xd = false ∧ isB by_ n ((xc, xi, xt, xn), (k : Int) + 1) = false) ∨ (xd = false ∧ isB by_ n ((xc, xi, xt, xn), (k : Int) + 1) = true)) := by
        cases xd
        · cases hh : isB by_ n ((xc, xi, xt, xn), (k : Int) + 1)
          · exact .inr (.inl ⟨rfl, rfl⟩)
          · exact .inr (.inr ⟨rfl, rfl⟩)
        · exact .inl rfl
      have HW := Lib.hid (show ((k : Int) + 1) = ((k : Int) + 1) from rfl)
      obtain ⟨ao, co, hvo, -, -, -⟩ := Own.reads HO2.out
      subst hvo
      have hown := HO2.out
      have hb3 := HB3.out
      clear HO HAL
      rcases HC.out with rfl | ⟨rfl, hp⟩ | ⟨rfl, hp⟩
      · have HO3 := Lib.hid (show OwnI _ 3 _ (hndL (isB by_ n) (liveR (R.take (k + 1)))) by rw [HT.out]; simpa using HO2.out)
        clear HT HC hown HO2 HW
        go_wp2
        go_roundw
        case rel => exact ⟨k + 1, by omega, by go_num, HO3.out, HFR.out, HB3.out⟩
        case measure => simp [intOf]; omega
      · have HO3 := Lib.hid (show OwnI _ 3 _ (hndL (isB by_ n) (liveR (R.take (k + 1)))) by rw [HT.out, if_neg Bool.false_ne_true, hndL_snoc, hp, if_neg (by decide), List.append_nil]; exact HO2.out)
        clear HT HC hown HO2 HW
        cases by_ with
        | true =>
          have hq : (xt == n) = false := hp
          clear hp
          go_wp2
          go_roundw
          case rel => exact ⟨k + 1, by omega, by go_num, HO3.out, HFR.out, HB3.out⟩
          case measure => simp [intOf]; omega
        | false =>
          have hq : (xc == n) = false := hp
          clear hp
          go_wp2
          go_roundw
          case rel => exact ⟨k + 1, by omega, by go_num, HO3.out, HFR.out, HB3.out⟩
          case measure => simp [intOf]; omega
      · have HT2 := Lib.hid (show hndL (isB by_ n) (liveR (R.take (k + 1))) = hndL (isB by_ n) (liveR (R.take k)) ++ [(k : Int) + 1] by rw [HT.out, if_neg Bool.false_ne_true, hndL_snoc, hp, if_pos rfl])
        clear HT HC HO2 HW
        cases by_ with
        | true =>
          have hq : (xt == n) = true := hp
          clear hp
          go_wp2_with (at_builtin; refine wpList_append_int2 _ _ rfl _ _ 28 rfl 3 Try.underlying28 intinfo _ (by simp) _ (hndL (isB true n) (liveR (R.take k))) _ _ rfl rfl rfl hown HLN.out ?_)
          intro v3 w3 hown3 hkeep hfresh
          have hb4 := below_append hb3 hkeep HFR.out hb3.size
          have HF3 := Lib.hid (show FreshV w.heap.size v3 from fun g hg => (hfresh g hg).elim (HFR.out g) (fun h => by have := hb3.size; simp at this; omega))
          have HO3 := Lib.hid (show OwnI w3 3 v3 (hndL (isB true n) (liveR (R.take (k + 1)))) by rw [HT2.out]; exact hown3)
          clear hown hown3 hkeep hfresh HT2
          go_wp2
          go_roundw
          case rel => exact ⟨k + 1, by omega, by go_num, HO3.out, HF3.out, hb4⟩
          case measure => simp [intOf]; omega
        | false =>
          have hq : (xc == n) = true := hp
          clear hp
          go_wp2_with (at_builtin; refine wpList_append_int2 _ _ rfl _ _ 28 rfl 3 Try.underlying28 intinfo _ (by simp) _ (hndL (isB false n) (liveR (R.take k))) _ _ rfl rfl rfl hown HLN.out ?_)
          intro v3 w3 hown3 hkeep hfresh
          have hb4 := below_append hb3 hkeep HFR.out hb3.size
          have HF3 := Lib.hid (show FreshV w.heap.size v3 from fun g hg => (hfresh g hg).elim (HFR.out g) (fun h => by have := hb3.size; simp at this; omega))
          have HO3 := Lib.hid (show OwnI w3 3 v3 (hndL (isB false n) (liveR (R.take (k + 1)))) by rw [HT2.out]; exact hown3)
          clear hown hown3 hkeep hfresh HT2
          go_wp2
          go_roundw
          case rel => exact ⟨k + 1, by omega, by go_num, HO3.out, HF3.out, hb4⟩
          case measure => simp [intOf]; omega
    · obtain rfl : k = R.length := by omega
      have HO2 := Lib.hid (show OwnI wr 3 _ (hndL (isB by_ n) (liveR R)) by have := HO.out; rwa [List.take_length] at this)
      go_wp2
      go_ret
      exact ⟨_, rfl, HO2.out.reads (hnd_ok2 hl), hb⟩

theorem refneed1 {xt t m xn n : Int} (hn : 0 ≤ n) (hxt : xt = t) (h0 : ¬ xn < 0) : need1 t n ((m, m, xt, xn), m) = if 1099511627776 < xn ∨ 1099511627776 < n + xn then 1099511627776 else n + xn := by
  unfold need1
  rw [if_pos hxt]
  dsimp only
  split <;> omega
theorem need1_eq {t n : Int} {a b c d e a' b' e' : Int} : need1 t n ((a, b, c, d), e) = need1 t n ((a', b', c, d), e') := rfl

set_option maxHeartbeats 2000000 in
theorem refneed_any (v : Value) (R : List RE) (t : Int) (w : World) (hv : RS w v R encR 5 goodR) (hl : R.length ≤ 900) :
    Calls Try.prog 50 #[v, .int .i64 t] w fun e w' => e = .returned (.int .i64 (needL t (liveR R))) ∧ Below w.heap.size w w' := by
  have HV := Lib.hid hv
  obtain ⟨a, cap, rfl, hc1, hc2⟩ := hv.shape
  clear hv
  go_enter Try.func50, Try.ntmps50
  go_wp2
  go_loopw [5, 7, 10] (fun o _ s wr => ∃ (k : Nat) (n : Int), k ≤ R.length ∧ s = .int .i64 k ∧ o = .int .i64 n ∧ 0 ≤ n ∧ n ≤ 1099511627776 ∧ Hid (needL t (liveR (R.take k)) = n) ∧ Below w.heap.size w wr) (fun _ _ s _ => R.length - (intOf s).toNat)
  case atStart => exact ⟨0, 0, Nat.zero_le _, rfl, rfl, Int.le_refl _, by decide, rfl, Below.refl _ _⟩
  case round =>
    obtain ⟨k, n, hk, rfl, rfl, hn0, hn1, HN, hb⟩ := hrel
    by_cases hlt : k < R.length
    · obtain ⟨b2, off, x, rfl, hbb, hx, hgx, hcx⟩ := (HV.out.below hb).at hlt
      have HX := Lib.hid hx
      have hxn0 := hgx.2.2.2
      obtain ⟨⟨xc, xi, xt, xn⟩, xd⟩ := x
      have hxn : -9223372036854775808 ≤ xn ∧ xn ≤ 9223372036854775807 := hxn0
      have c0 : wr.cell? ⟨b2, off + k * 5, none⟩ = some (.int .i64 xc) := hcx 0 _ rfl
      have c1 : wr.cell? ⟨b2, off + k * 5 + 1, none⟩ = some (.int .i64 xi) := hcx 1 _ rfl
      have c2 : wr.cell? ⟨b2, off + k * 5 + 2, none⟩ = some (.int .i64 xt) := hcx 2 _ rfl
      have c3 : wr.cell? ⟨b2, off + k * 5 + 3, none⟩ = some (.int .i64 xn) := hcx 3 _ rfl
      have c4 : wr.cell? ⟨b2, off + k * 5 + 4, none⟩ = some (.bool xd) := hcx 4 _ rfl
      have HAL := Lib.hid (below_alloc wr (.cells #[.int .i64 xc, .int .i64 xi, .int .i64 xt, .int .i64 xn, .bool xd] 45 (0, 0)))
      have HB3 := Lib.hid (hb.trans (below_of HAL.out hb.size))
      clear hx hgx hcx hb hxn0
      have HT := Lib.hid (congrArg (needL t) (liveR_take HX.out))
      cases xd with
      | true =>
        have HN2 := Lib.hid (show needL t (liveR (R.take (k + 1))) = n by rw [HT.out]; simpa using HN.out)
        clear HT
        go_wp2
        go_roundw
        case rel => exact ⟨k + 1, n, by omega, by go_num, rfl, hn0, hn1, HN2.out, HB3.out⟩
        case measure => simp [intOf]; omega
      | false =>
        have HT2 := Lib.hid (show needL t (liveR (R.take (k + 1))) = need1 t n ((xc, xi, xt, xn), (k : Int) + 1) by rw [HT.out, if_neg Bool.false_ne_true, needL_snoc, HN.out])
        clear HT
        cases h1 : xt != t with
        | true =>
          have HN2 := Lib.hid (show needL t (liveR (R.take (k + 1))) = n by
            rw [HT2.out]
            unfold need1
            exact if_neg (by simpa using h1))
          clear HT2
          go_wp2
          go_roundw
          case rel => exact ⟨k + 1, n, by omega, by go_num, rfl, hn0, hn1, HN2.out, HB3.out⟩
          case measure => simp [intOf]; omega
        | false =>
          have hxt : xt = t := by simpa using h1
          by_cases h2 : xn < 0
          · have hd2 : decide (xn < 0) = true := decide_eq_true h2
            have HN2 := Lib.hid (show needL t (liveR (R.take (k + 1))) = n by
              rw [HT2.out]
              unfold need1
              rw [if_pos hxt]
              dsimp only
              omega)
            clear HT2 hxt h2
            go_wp2
            go_roundw
            case rel => exact ⟨k + 1, n, by omega, by go_num, rfl, hn0, hn1, HN2.out, HB3.out⟩
            case measure => simp [intOf]; omega
          · have hd2 : decide (xn < 0) = false := decide_eq_false h2
            have HN2 := Lib.hid (show needL t (liveR (R.take (k + 1))) = if 1099511627776 < xn ∨ 1099511627776 < n + xn then 1099511627776 else n + xn by
              rw [HT2.out, ← refneed1 (m := 0) hn0 hxt h2]
              exact need1_eq)
            clear HT2 hxt
            by_cases h3 : 1099511627776 < xn
            · have hd3 : decide (1099511627776 < xn) = true := decide_eq_true h3
              have HN3 := Lib.hid (show needL t (liveR (R.take (k + 1))) = 1099511627776 by rw [HN2.out, if_pos (.inl h3)])
              clear HN2 h2 h3
              go_wp2
              go_roundw
              case rel => exact ⟨k + 1, 1099511627776, by omega, by go_num, rfl, by decide, by decide, HN3.out, HB3.out⟩
              case measure => simp [intOf]; omega
            · have hd3 : decide (1099511627776 < xn) = false := decide_eq_false h3
              obtain ⟨s, hs⟩ : ∃ z, n + xn = z := ⟨_, rfl⟩
              have hwr : IntKind.i64.wrap s = s := IntWalk.i64_in _ (by omega)
              rw [hs] at HN2
              by_cases h4 : 1099511627776 < s
              · have hd4 : decide (1099511627776 < s) = true := decide_eq_true h4
                have HN3 := Lib.hid (show needL t (liveR (R.take (k + 1))) = 1099511627776 by rw [HN2.out, if_pos (.inr h4)])
                clear HN2 h2 h3 h4
                go_wp2
                go_roundw
                case rel => exact ⟨k + 1, 1099511627776, by omega, by go_num, rfl, by decide, by decide, HN3.out, HB3.out⟩
                case measure => simp [intOf]; omega
              · have hd4 : decide (1099511627776 < s) = false := decide_eq_false h4
                have HN3 := Lib.hid (show needL t (liveR (R.take (k + 1))) = s by rw [HN2.out, if_neg (by omega)])
                have hs0 : 0 ≤ s := by omega
                have hs1 : s ≤ 1099511627776 := by omega
                clear HN2 h2 h3 h4
                go_wp2
                go_roundw
                case rel => exact ⟨k + 1, s, by omega, by go_num, rfl, hs0, hs1, HN3.out, HB3.out⟩
                case measure => simp [intOf]; omega
    · obtain rfl : k = R.length := by omega
      have HN2 := Lib.hid (show n = needL t (liveR R) by have := HN.out; rw [List.take_length] at this; exact this.symm)
      go_wp2
      go_ret
      exact ⟨ret_int HN2.out, hb⟩

set_option maxHeartbeats 1000000 in
theorem reflives_any (v : Value) (R : List RE) (h : Int) (w : World) (hv : RS w v R encR 5 goodR) (hl : R.length ≤ 900) (h1 : -9223372036854775808 ≤ h) (h2 : h ≤ 9223372036854775807) :
    Calls Try.prog 17 #[v, .int .i64 h] w fun e w' => e = .returned (.bool (livesR R h)) ∧ Below w.heap.size w w' := by
  have HV := Lib.hid hv
  obtain ⟨a, cap, rfl, hc1, hc2⟩ := hv.shape
  clear hv
  by_cases hh1 : 1 ≤ h
  · have hd1 : decide (1 ≤ h) = true := decide_eq_true hh1
    by_cases hh2 : h ≤ (R.length : Int)
    · have hd2 : decide (h ≤ (R.length : Int)) = true := decide_eq_true hh2
      obtain ⟨k, rfl⟩ : ∃ k : Nat, h = (k : Int) + 1 := ⟨(h - 1).toNat, by omega⟩
      have hk : k < R.length := by omega
      obtain ⟨b2, off, x, rfl, hbb, hx, hgx, hcx⟩ := HV.out.at hk
      have HR := Lib.hid (show livesR R ((k : Int) + 1) = !x.2 by
        unfold livesR
        rw [hd1, hd2, show ((k : Int) + 1 - 1).toNat = k by omega, hx]
        rfl)
      obtain ⟨⟨xc, xi, xt, xn⟩, xd⟩ := x
      have c4 : w.cell? ⟨b2, off + k * 5 + 4, none⟩ = some (.bool xd) := hcx 4 _ rfl
      have e1 : IntKind.i64.wrap ((k : Int) + 1 - 1) = (k : Int) := by rw [IntWalk.i64_in _ (by omega)]; omega
      have e2 : (k : Int) + 1 - 1 = (k : Int) := by omega
      clear hx hgx hcx hh1 hh2
      cases xd with
      | true =>
        go_enter Try.func17, Try.ntmps17
        go_wp2
        go_ret
        exact ⟨ret_bool HR.out.symm, Below.refl _ _⟩
      | false =>
        go_enter Try.func17, Try.ntmps17
        go_wp2
        go_ret
        exact ⟨ret_bool HR.out.symm, Below.refl _ _⟩
    · have hd2 : decide (h ≤ (R.length : Int)) = false := decide_eq_false hh2
      have HR := Lib.hid (show livesR R h = false by unfold livesR; rw [hd1, hd2]; rfl)
      clear hh1 hh2
      go_enter Try.func17, Try.ntmps17
      go_wp2
      go_ret
      exact ⟨ret_bool HR.out.symm, Below.refl _ _⟩
  · have hd1 : decide (1 ≤ h) = false := decide_eq_false hh1
    have HR := Lib.hid (show livesR R h = false by unfold livesR; rw [hd1]; rfl)
    clear hh1
    go_enter Try.func17, Try.ntmps17
    go_wp2
    go_ret
    exact ⟨ret_bool HR.out.symm, Below.refl _ _⟩
end Go.Proofs.Ytmgjmpmcadjemaa

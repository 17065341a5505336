/- Package jobs: Dropped, add, entry, fits, again. -/
import Derived.Test.YtmgjmpmcadjemaaJobE
import Derived.Deep.RegionHeld3
namespace Go.Proofs.Ytmgjmpmcadjemaa
open Go.RowKit

theorem below_drew1 (w : World) : Below w.heap.size w w.drew := below_drawn ⟨1, rfl⟩
theorem flatR_snoc (L : List RE) (x : RE) : (L ++ [x]).flatMap encR = L.flatMap encR ++ encR x := by rw [List.flatMap_append]; simp
theorem reinfo : (Try.prog.info? 45).map (fun i => (i.zero, i.size, i.bytes)) = some (some (.agg #[.int .i64 0, .int .i64 0, .int .i64 0, .int .i64 0, .bool false]), 5, 40) := by kernel_rfl
theorem encR_one (x : RE) : ∀ u ∈ encR x, u.oneCell' = true := by
  intro u hu
  simp [encR] at hu
  rcases hu with rfl | rfl | rfl | rfl | rfl <;> rfl

/-- 'append(out, x)', the new block's number in other words -/
theorem wpList_append_elem3 {P : Program} (wr : World) (o1 : Obj) {ops : Array Oper} {rest : List Oper} {o : Oper} {a : Act} {Q : Exit → Act → World → Prop}
    (hg : o.guard = none) (s x : Operand) (t : TypeId) (hop : o.op = Op.call { callee := Callee.builtin Builtin.append, args := #[s, x], argTypes := #[t, t] })
    (e : TypeId) (z : Value) (size bytes : Nat) (h1 : P.underlying t = some (.slice e)) (hinfo : (P.info? e).map (fun i => (i.zero, i.size, i.bytes)) = some (some z, size, bytes)) (hzs : z.cells.size = size) (hsz : 0 < size)
    (v : Value) (n : Nat) (xs : List Value) (us : List Value) (t1 : TypeId) (ho1 : o1 = .cells us.toArray t1 (0, 0)) (hus : us.length = size) (hu : ∀ u ∈ us, u.oneCell' = true) (nb : Nat) (hnb : nb = wr.heap.size) (hs : a.eval s = v) (hx : a.eval x = .slice (some ⟨nb, 0, none⟩) 1 1)
    (hown : Own wr e size v n xs) (hn : n < 1000000000) (hby : bytes ≤ 1000)
    (hK : ∀ v' w', Own w' e size v' (n + 1) (xs ++ us) → Keep (fun k => v.ownBlock = some k) wr w' → (∀ g, v'.ownBlock = some g → v.ownBlock = some g ∨ wr.heap.size ≤ g) → wpList P ops Q rest (a.put o.dst v') w') :
    wpList P ops Q (o :: rest) a (wr.alloc o1) := by
  subst hnb
  exact wpList_append_elem wr o1 hg s x t hop e z size bytes h1 hinfo hzs hsz v n xs us t1 ho1 hus hu hs hx hown hn hby hK

set_option maxHeartbeats 1000000 in
theorem refdrop_any (v : Value) (R : List RE) (h : Int) (w : World) (hv : RS w v R encR 5 goodR) (hl : R.length ≤ 900) :
    Calls Try.prog 19 #[v, .int .i64 h] w fun e w' => ∃ v', e = .returned v' ∧ Own w' 45 5 v' (dropR R h).length ((dropR R h).flatMap encR) ∧ FreshV w.heap.size v' ∧ Below w.heap.size w w' := by
  have HV := Lib.hid hv
  obtain ⟨a, cap, rfl, hc1, hc2⟩ := hv.shape
  clear hv
  go_enter Try.func19, Try.ntmps19
  go_wp2
  go_loopw [5, 6, 7, 10] (fun o _ _ s wr => ∃ (k : Nat), k ≤ R.length ∧ s = .int .i64 k ∧ Hid (Own wr 45 5 o (dropR (R.take k) h).length ((dropR (R.take k) h).flatMap encR)) ∧ Hid (FreshV w.heap.size o) ∧ Below w.heap.size w wr) (fun _ _ _ s _ => R.length - (intOf s).toNat)
  case atStart => exact ⟨0, Nat.zero_le _, rfl, Own.nil _ _ _, FreshV.nil _, Below.refl _ _⟩
  case round =>
    obtain ⟨k, hk, rfl, HO, HFR, hb⟩ := hrel
    by_cases hlt : k < R.length
    · obtain ⟨b2, off, x, rfl, hbb, hx, hgx, hcx⟩ := (HV.out.below hb).at hlt
      have HX := Lib.hid hx
      have HT := Lib.hid (dropR_take (h := h) hx)
      obtain ⟨⟨xc, xi, xt, xn⟩, xd⟩ := x
      have c0 : wr.cell? ⟨b2, off + k * 5, none⟩ = some (.int .i64 xc) := hcx 0 _ rfl
      have c1 : wr.cell? ⟨b2, off + k * 5 + 1, none⟩ = some (.int .i64 xi) := hcx 1 _ rfl
      have c2 : wr.cell? ⟨b2, off + k * 5 + 2, none⟩ = some (.int .i64 xt) := hcx 2 _ rfl
      have c3 : wr.cell? ⟨b2, off + k * 5 + 3, none⟩ = some (.int .i64 xn) := hcx 3 _ rfl
      have c4 : wr.cell? ⟨b2, off + k * 5 + 4, none⟩ = some (.bool xd) := hcx 4 _ rfl
      have HLN := Lib.hid (show (dropR (R.take k) h).length < 1000000000 by rw [dropR_len, List.length_take]; omega)
      have HSZ := Lib.hid hb.size
      have HOL := Lib.hid (Own.lt HO.out)
      obtain ⟨D, hD⟩ : ∃ z, dropR (R.take k) h = z := ⟨_, rfl⟩
      rw [hD] at HT HO HLN
      obtain ⟨ao, co, hvo, -, -, -⟩ := Own.reads HO.out
      subst hvo
      have hB := hb
      clear hx hgx hcx hD
      cases hh : ((k : Int) + 1 == h) with
      | true =>
        have hD3 : dropR (R.take (k + 1)) h = D ++ [((xc, xi, xt, xn), true)] := by rw [HT.out, if_pos (by simpa using hh)]
        have HD3 := Lib.hid hD3
        have hal := below_alloc wr (.cells #[.int .i64 xc, .int .i64 xi, .int .i64 xt, .int .i64 xn, .bool true] 45 (0, 0))
        have hown := HO.out.below hal
        have HB1 := Lib.hid (hb.trans (below_of hal hb.size))
        have HNB := Lib.hid (show w.heap.size ≤ (wr.alloc (.cells #[.int .i64 xc, .int .i64 xi, .int .i64 xt, .int .i64 xn, .bool true] 45 (0, 0))).heap.size from HB1.out.size)
        clear HT HO hD3 hal hb hB
        go_wp2_with (at_builtin; refine wpList_append_elem3 _ _ rfl _ _ 41 rfl 45 (.agg #[.int .i64 0, .int .i64 0, .int .i64 0, .int .i64 0, .bool false]) 5 40 Try.underlying41 reinfo rfl (by decide) _ _ _ [.int .i64 xc, .int .i64 xi, .int .i64 xt, .int .i64 xn, .bool true] _ rfl rfl (encR_one ((xc, xi, xt, xn), true)) _ (by simp) rfl rfl hown HLN.out (by decide) ?_)
        intro v3 w3 hown3 hkeep hfresh
        have hb4 := below_append HB1.out hkeep HFR.out HB1.out.size
        have HF3 := Lib.hid (show FreshV w.heap.size v3 from fun g hg => (hfresh g hg).elim (HFR.out g) (fun h => by have := HSZ.out; omega))
        have HO3 := Lib.hid (show Own w3 45 5 v3 (dropR (R.take (k + 1)) h).length ((dropR (R.take (k + 1)) h).flatMap encR) by rw [HD3.out, flatR_snoc, List.length_append]; exact hown3)
        clear hown hown3 hkeep hfresh
        go_wp2
        go_roundw
        case rel => exact ⟨k + 1, by omega, by go_num, HO3.out, HF3.out, hb4⟩
        case measure => simp [intOf]; omega
      | false =>
        have hD3 : dropR (R.take (k + 1)) h = D ++ [((xc, xi, xt, xn), xd)] := by rw [HT.out, if_neg (by simpa using hh)]
        have HD3 := Lib.hid hD3
        have hal := below_alloc wr (.cells #[.int .i64 xc, .int .i64 xi, .int .i64 xt, .int .i64 xn, .bool xd] 45 (0, 0))
        have hown := HO.out.below hal
        have HB1 := Lib.hid (hb.trans (below_of hal hb.size))
        have HNB := Lib.hid (show w.heap.size ≤ (wr.alloc (.cells #[.int .i64 xc, .int .i64 xi, .int .i64 xt, .int .i64 xn, .bool xd] 45 (0, 0))).heap.size from HB1.out.size)
        clear HT HO hD3 hal hb hB
        go_wp2_with (at_builtin; refine wpList_append_elem3 _ _ rfl _ _ 41 rfl 45 (.agg #[.int .i64 0, .int .i64 0, .int .i64 0, .int .i64 0, .bool false]) 5 40 Try.underlying41 reinfo rfl (by decide) _ _ _ [.int .i64 xc, .int .i64 xi, .int .i64 xt, .int .i64 xn, .bool xd] _ rfl rfl (encR_one ((xc, xi, xt, xn), xd)) _ (by simp) rfl rfl hown HLN.out (by decide) ?_)
        intro v3 w3 hown3 hkeep hfresh
        have hb4 := below_append HB1.out hkeep HFR.out HB1.out.size
        have HF3 := Lib.hid (show FreshV w.heap.size v3 from fun g hg => (hfresh g hg).elim (HFR.out g) (fun h => by have := HSZ.out; omega))
        have HO3 := Lib.hid (show Own w3 45 5 v3 (dropR (R.take (k + 1)) h).length ((dropR (R.take (k + 1)) h).flatMap encR) by rw [HD3.out, flatR_snoc, List.length_append]; exact hown3)
        clear hown hown3 hkeep hfresh
        go_wp2
        go_roundw
        case rel => exact ⟨k + 1, by omega, by go_num, HO3.out, HF3.out, hb4⟩
        case measure => simp [intOf]; omega
    · obtain rfl : k = R.length := by omega
      have HO2 := Lib.hid (show Own wr 45 5 _ (dropR R h).length ((dropR R h).flatMap encR) by have := HO.out; rwa [List.take_length] at this)
      go_wp2
      go_ret
      exact ⟨_, rfl, HO2.out, HFR.out, hb⟩

set_option maxHeartbeats 400000 in
theorem refadd_any (v : Value) (R : List RE) (lim c i t n : Int) (w : World) (hv : RS w v R encR 5 goodR) (hl : R.length ≤ 900) :
    Calls Try.prog 20 #[v, .int .i64 lim, .agg #[.int .i64 c, .int .i64 i, .int .i64 t, .int .i64 n]] w fun e w' => e = .returned (.int .i64 (addE c i lim (liveR R))) ∧ Below w.heap.size w w' := by
  have HAL := Lib.hid (below_alloc w (.cells #[.int .i64 c, .int .i64 i, .int .i64 t, .int .i64 n] 31 (0, 0)))
  have HV := Lib.hid (hv.below HAL.out)
  have HF := Lib.hid (reffind_any v R c i _ HV.out hl)
  obtain ⟨a, cap, rfl, hc1, hc2⟩ := hv.shape
  obtain ⟨m, hm⟩ : ∃ z, (liveR R).length = z := ⟨_, rfl⟩
  obtain ⟨fh, hfh⟩ : ∃ z, findH c i (liveR R) = z := ⟨_, rfl⟩
  have HE := Lib.hid (show addE c i lim (liveR R) = if 0 < fh then 8 else if (m : Int) = lim then 5 else 0 by unfold addE; rw [hfh, hm])
  have HL := Lib.hid (fun w h => reflen_any (.slice a R.length cap) R w h hl)
  rw [hfh] at HF
  rw [hm] at HL
  clear hv hm hfh
  by_cases h1 : 0 < fh
  · have HE2 := Lib.hid (show addE c i lim (liveR R) = 8 by rw [HE.out, if_pos h1])
    have hd : decide (0 < fh) = true := decide_eq_true h1
    clear HE h1
    go_enter Try.func20, Try.ntmps20
    go_wp2_with fail
    refine HF.out.mono ?_
    rintro e w1 ⟨rfl, hb⟩
    have HB := Lib.hid (below_two HAL.out hb)
    clear hb HF
    go_wp2
    go_ret
    exact ⟨ret_int HE2.out.symm, HB.out⟩
  · have hd : decide (0 < fh) = false := decide_eq_false h1
    rw [if_neg h1] at HE
    clear h1
    go_enter Try.func20, Try.ntmps20
    go_wp2_with fail
    refine HF.out.mono ?_
    rintro e w1 ⟨rfl, hb⟩
    have HB := Lib.hid (below_two HAL.out hb)
    have HL2 := Lib.hid (HL.out _ (HV.out.below hb))
    clear hb HF HL
    go_wp2_with fail
    refine HL2.out.mono ?_
    rintro e w2 ⟨rfl, hb⟩
    have HB2 := Lib.hid (below_two HB.out hb)
    clear hb HL2
    by_cases h2 : (m : Int) = lim
    · have HE2 := Lib.hid (show addE c i lim (liveR R) = 5 by rw [HE.out, if_pos h2])
      have hd2 : ((m : Int) == lim) = true := beq_iff_eq.2 h2
      clear HE h2
      go_wp2
      go_ret
      exact ⟨ret_int HE2.out.symm, HB2.out⟩
    · have HE2 := Lib.hid (show addE c i lim (liveR R) = 0 by rw [HE.out, if_neg h2])
      have hd2 : ((m : Int) == lim) = false := beq_eq_false_iff_ne.2 h2
      clear HE h2
      go_wp2
      go_ret
      exact ⟨ret_int HE2.out.symm, HB2.out⟩

set_option maxHeartbeats 400000 in
set_option maxRecDepth 100000 in
theorem entry_any (c i t n : Int) (d : Bool) (w : World) :
    Calls Try.prog 18 #[.agg #[.int .i64 c, .int .i64 i, .int .i64 t, .int .i64 n, .bool d]] w fun e w' => e = .returned (.agg #[.int .i64 c, .int .i64 i, .int .i64 t, .int .i64 n]) ∧ Below w.heap.size w w' := by
  have hal1 := below_alloc w (.cells #[.int .i64 c, .int .i64 i, .int .i64 t, .int .i64 n, .bool d] 45 (0, 0))
  have hal2 := below_alloc (w.alloc (.cells #[.int .i64 c, .int .i64 i, .int .i64 t, .int .i64 n, .bool d] 45 (0, 0))) (.cells #[.int .i64 c, .int .i64 i, .int .i64 t, .int .i64 n] 31 (0, 0))
  have HAL := Lib.hid (below_two hal1 hal2)
  clear hal1 hal2
  go_enter Try.func18, Try.ntmps18
  go_wp2
  refine bodyPost_ret (v := .agg #[.int .i64 c, .int .i64 i, .int .i64 t, .int .i64 n]) (by simp [results, Try.results18, go_sem]) rfl ?_
  exact ⟨rfl, HAL.out⟩
end Go.Proofs.Ytmgjmpmcadjemaa

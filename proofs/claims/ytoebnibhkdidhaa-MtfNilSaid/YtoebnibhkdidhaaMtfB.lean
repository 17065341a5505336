/- Package mtf: the references. -/
import Derived.Test.YtoebnibhkdidhaaMtfA
import Derived.Test.YtoebnibhkdidhaaSame
namespace Go.Proofs.Ytoebnibhkdidhaa
open Go.RowKit

set_option maxHeartbeats 1000000 in
theorem refplace_any (s : ByteArray) (S : List UInt8) (d : UInt8) (w : World) (hs : s = str S) (hl : S.length ≤ 1000000) :
    Calls Try.prog 23 #[.string s, .int .u8 (d.toNat : Int)] w fun e w' => e = .returned (.int .i64 (plcI S d)) ∧ w = w' := by
  have hsz : s.size = S.length := by rw [hs, str_size]
  have HS := Lib.hid hs
  have HSZ := Lib.hid hsz
  have hz : s.size ≤ 1000000 := by omega
  obtain ⟨R, hR⟩ : ∃ z, plcI S d = z := ⟨_, rfl⟩
  have HR := Lib.hid hR
  rw [hR]
  clear hs hsz hR
  go_enter Try.func23, Try.ntmps23
  go_wp2
  go_loop [5] (fun i => ∃ (j : Nat), j ≤ s.size ∧ i = .int .i64 j ∧ Hid (∀ (i : Nat) (c : UInt8), i < j → S[i]? = some c → c ≠ d)) (fun i => s.size - (intOf i).toNat)
  case atStart => exact ⟨0, Nat.zero_le _, rfl, fun i c h => absurd h (by omega)⟩
  case round =>
    obtain ⟨j, hj, rfl, HA⟩ := hrel
    by_cases hlt : j < s.size
    · have hat := str_at HS.out hlt
      obtain ⟨c, hc⟩ : ∃ c, s[j] = c := ⟨_, rfl⟩
      rw [hc] at hat
      have HAT := Lib.hid hat
      clear hat
      cases hcb : (((c.toNat : Nat) : Int) == ((d.toNat : Nat) : Int)) with
      | true =>
        have HY := Lib.hid (show plcI S d = (j : Int) by
          have e : c = d := UInt8.toNat_inj.1 (by have := of_decide_eq_true (by simpa using hcb); omega)
          subst e
          exact plcI_some (plc_of HAT.out HA.out))
        go_wp2
        go_ret
        exact ⟨ret_int (by rw [← HR.out, HY.out]), rfl⟩
      | false =>
        have HA2 := Lib.hid (show ∀ (i : Nat) (c : UInt8), i < j + 1 → S[i]? = some c → c ≠ d from fun i x hi hx => by
          by_cases e : i = j
          · subst e
            have := HAT.out
            rw [hx] at this
            cases this
            intro e2
            rw [e2] at hcb
            simp at hcb
          · exact HA.out i x (by omega) hx)
        go_wp2
        go_round
        case rel => exact ⟨j + 1, by omega, by go_num, HA2.out⟩
        case measure => simp [intOf]; omega
    · obtain rfl : j = s.size := by omega
      have HN := Lib.hid (show plcI S d = -1 from plcI_none (plc_none fun i c hc => HA.out i c (by have := (List.getElem?_eq_some_iff.1 hc).1; have := HSZ.out; omega) hc))
      go_wp2
      go_ret
      exact ⟨ret_int (by rw [← HR.out, HN.out]), rfl⟩

set_option maxHeartbeats 1000000 in
theorem reftouch_any (s : ByteArray) (S : List UInt8) (i : Nat) (w : World) (hs : s = str S) (hl : S.length ≤ 1000000) (hi : i < S.length) :
    Calls Try.prog 26 #[.string s, .int .i64 (i : Int)] w fun e w' => e = .returned (.string (str (touchL S i))) ∧ Below w.heap.size w w' := by
  have hsz : s.size = S.length := by rw [hs, str_size]
  have HF := Lib.hid (show s.extract i (i + 1) ++ s.extract 0 i ++ s.extract (i + 1) s.size = str (touchL S i) by
    rw [hsz, hs, str_extract, str_extract, str_extract, str_append, str_append]
    unfold touchL
    rw [show i + 1 - i = 1 by omega, List.drop_zero, Nat.sub_zero, List.take_of_length_le (l := S.drop (i + 1)) (by rw [List.length_drop]; omega), List.append_assoc])
  have hz : s.size ≤ 1000000 := by omega
  have h1 : i < s.size := by omega
  have h2 : i + 1 ≤ s.size := by omega
  have h3 : (i : Int) + 1 ≤ (s.size : Int) := by omega
  have e1 : IntKind.i64.wrap ((i : Int) + 1) = ((i + 1 : Nat) : Int) := by rw [IntWalk.i64_in _ (by omega)]; omega
  obtain ⟨m, hm⟩ : ∃ z, i + 1 = z := ⟨_, rfl⟩
  rw [hm] at HF e1 h2
  have h4 : i ≤ m := by omega
  have h5 : (m : Int) ≤ (s.size : Int) := by omega
  have h6 : (i : Int) ≤ (m : Int) := by omega
  obtain ⟨q, hq⟩ : ∃ z, str (touchL S i) = z := ⟨_, rfl⟩
  rw [hq] at HF ⊢
  clear hs hsz hq hm h3
  go_enter Try.func26, Try.ntmps26
  go_wp2
  go_quiet (fail)
  go_wp2
  go_ret
  exact ⟨ret_str HF.out, below_drawn ⟨_, rfl⟩⟩

theorem ret_vi {v : Value} {a b : Int} (h : a = b) : Ending.returned (.tuple #[v, .int .i64 a]) = .returned (.tuple #[v, .int .i64 b]) := by rw [h]
theorem ret_si {q r : ByteArray} {a b : Int} (h : a = b) (h2 : q = r) : Ending.returned (.tuple #[.string q, .int .i64 a]) = .returned (.tuple #[.string r, .int .i64 b]) := by rw [h, h2]
theorem natI_ok {l : List Nat} {n : Nat} (h : ∀ x ∈ l, x < n) (hn : n ≤ 1000000) : ∀ x ∈ l.map (fun (k : Nat) => (k : Int)), -9223372036854775808 ≤ x ∧ x ≤ 9223372036854775807 := by
  intro x hx
  obtain ⟨k, hk, rfl⟩ := List.mem_map.1 hx
  have := h k hk
  omega

set_option maxHeartbeats 1000000 in
set_option maxRecDepth 100000 in
theorem refenc_no (s y : ByteArray) (O : List UInt8) (w : World) (hy : y = str O) (hol : O.length ≤ 1000000) (his : isL O = false) :
    Calls Try.prog 16 #[.string s, .string y] w fun e w' => e = .returned (.tuple #[.slice none 0 0, .int .i64 1]) ∧ Below w.heap.size w w' := by
  have HI := Lib.hid (refis_any y O w hy hol)
  rw [his] at HI
  clear hy his
  go_enter Try.func16, Try.ntmps16
  go_wp2_with fail
  refine HI.out.mono ?_
  rintro e w1 ⟨rfl, hb⟩
  clear HI
  go_wp2
  go_ret2
  exact ⟨rfl, hb⟩

set_option maxHeartbeats 1000000 in
set_option maxRecDepth 100000 in
theorem refenc_any (s y : ByteArray) (S O : List UInt8) (w : World) (hs : s = str S) (hy : y = str O) (hl : S.length ≤ 1000000) (hol : O.length ≤ 1000000) (his : isL O = true) :
    Calls Try.prog 16 #[.string s, .string y] w fun e w' => ∃ v, e = .returned (.tuple #[v, .int .i64 (encE O S)]) ∧ RInts w' v (encV O S) ∧ Below w.heap.size w w' := by
  have HI := Lib.hid (refis_any y O w hy hol)
  rw [his] at HI
  have hsz : s.size = S.length := by rw [hs, str_size]
  have HS := Lib.hid hs
  have HY := Lib.hid hy
  have HSZ := Lib.hid hsz
  have hz : s.size ≤ 1000000 := by omega
  have HOL := Lib.hid hol
  clear hs hy his hsz
  go_enter Try.func16, Try.ntmps16
  go_wp2_with fail
  refine HI.out.mono ?_
  rintro e w1 ⟨rfl, hb1⟩
  clear HI
  go_wp2
  go_loopw [6, 7, 8] (fun o q i wr => ∃ (j : Nat) (q' : ByteArray) (ord : List UInt8) (L : List Nat), j ≤ s.size ∧ i = .int .i64 j ∧ q = .string q' ∧ Hid (q' = str ord) ∧ Hid (encL O (S.take j) = some L) ∧ Hid (encO O (S.take j) = ord) ∧ Hid (OwnI wr 3 o (L.map (fun (k : Nat) => (k : Int)))) ∧ Hid (FreshV w.heap.size o) ∧ Below w.heap.size w wr) (fun _ _ i _ => s.size - (intOf i).toNat)
  case atStart => exact ⟨0, _, O, [], Nat.zero_le _, rfl, rfl, HY.out, rfl, rfl, OwnI.nil _ _, FreshV.nil _, hb1⟩
  case round =>
    obtain ⟨j, q', ord, L, hj, rfl, rfl, HQ, HL, HO, HOWN, HF, hb⟩ := hrel
    have HOL2 := Lib.hid (show ord.length = O.length by rw [← HO.out, encO_len])
    by_cases hlt : j < s.size
    · have hat := str_at HS.out hlt
      obtain ⟨c, hc⟩ : ∃ c, s[j] = c := ⟨_, rfl⟩
      rw [hc] at hat
      have HAT := Lib.hid hat
      have HP := Lib.hid (refplace_any q' ord c wr HQ.out (by rw [HOL2.out]; exact HOL.out))
      clear hat
      cases hp : plc ord c with
      | none =>
        have HE := Lib.hid (enc_no (encL_none HL.out HAT.out (by rw [HO.out]; exact hp)))
        rw [plcI_none hp] at HP
        clear hp
        go_wp2_with fail
        refine HP.out.mono ?_
        rintro e w2 ⟨rfl, rfl⟩
        clear HP
        go_wp2
        go_ret2
        exact ⟨_, ret_vi HE.out.1.symm, by rw [HE.out.2]; exact RInts.nil _, hb⟩
      | some k =>
        have hk := plc_some hp
        have hk1 : k < 1000001 := by have := HOL2.out; have := HOL.out; omega
        have HT := Lib.hid (fun w => reftouch_any q' ord k w HQ.out (by rw [HOL2.out]; exact HOL.out) hk.2)
        have HL2 := Lib.hid (show encL O (S.take (j + 1)) = some (L ++ [k]) by
          rw [List.take_add_one, HAT.out]
          show encL O (S.take j ++ [c]) = _
          rw [encL_snoc c HL.out, HO.out, hp]
          rfl)
        have HO2 := Lib.hid (show encO O (S.take (j + 1)) = touchL ord k by
          rw [List.take_add_one, HAT.out]
          show encO O (S.take j ++ [c]) = _
          rw [encO_snoc c k HL.out (by rw [HO.out]; exact hp), HO.out])
        have HLN := Lib.hid (show (L.map (fun (k : Nat) => (k : Int))).length < 1000000000 by
          rw [natI_len, encL_len HL.out, List.length_take]
          omega)
        have hown := HOWN.out
        rw [plcI_some hp] at HP
        clear hp hk HL HO
        go_wp2_with fail
        refine HP.out.mono ?_
        rintro e w2 ⟨rfl, rfl⟩
        clear HP
        go_wp2_with (at_builtin; refine wpList_append_int _ _ rfl _ _ 23 rfl 3 Try.underlying23 intinfo _ (L.map (fun (k : Nat) => (k : Int))) _ _ rfl rfl rfl hown HLN.out ?_)
        intro v2 w2 hown2 hkeep hfresh
        have hb2 := below_append hb hkeep HF.out hb.size
        have HF2 := Lib.hid (HF.out.step hb.size hfresh)
        have HOWN2 := Lib.hid (show OwnI w2 3 v2 ((L ++ [k]).map (fun (k : Nat) => (k : Int))) by rw [List.map_append]; exact hown2)
        clear hown hown2 hkeep hfresh HOWN
        go_wp2_with fail
        refine (HT.out _).mono ?_
        rintro e w3 ⟨rfl, hb3⟩
        have HB3 := Lib.hid (hb2.trans (below_of hb3 hb2.size))
        have HOWN3 := Lib.hid (HOWN2.out.below hb3)
        clear HT hb3
        go_wp2
        go_roundw
        case rel => exact ⟨j + 1, _, _, _, by omega, by go_num, rfl, rfl, HL2.out, HO2.out, HOWN3.out, HF2.out, HB3.out⟩
        case measure => simp [intOf]; omega
    · obtain rfl : j = s.size := by omega
      have HE := Lib.hid (enc_yes (show encL O S = some L by have := HL.out; rwa [HSZ.out, List.take_length] at this))
      have HB := Lib.hid (encL_lt HL.out)
      go_wp2
      go_ret2
      exact ⟨_, ret_vi HE.out.1.symm, by rw [HE.out.2]; exact HOWN.out.reads (natI_ok HB.out HOL.out), hb⟩

set_option maxHeartbeats 1000000 in
set_option maxRecDepth 100000 in
theorem refdec_no (v : Value) (l : List Int) (y : ByteArray) (O : List UInt8) (w : World) (hv : RInts w v l) (hy : y = str O) (hol : O.length ≤ 1000000) (his : isL O = false) :
    Calls Try.prog 19 #[v, .string y] w fun e w' => e = .returned (.tuple #[.string ⟨#[]⟩, .int .i64 1]) ∧ Below w.heap.size w w' := by
  have HI := Lib.hid (refis_any y O w hy hol)
  rw [his] at HI
  obtain ⟨a, cap, rfl, -, -⟩ := hv.shape
  clear hy his hv
  go_enter Try.func19, Try.ntmps19
  go_wp2_with fail
  refine HI.out.mono ?_
  rintro e w1 ⟨rfl, hb⟩
  clear HI
  go_wp2
  go_ret2
  exact ⟨rfl, hb⟩

set_option maxHeartbeats 1000000 in
set_option maxRecDepth 100000 in
theorem refdec_any (v : Value) (l : List Int) (y : ByteArray) (O : List UInt8) (w : World) (hv : RInts w v l) (hy : y = str O) (hl : l.length ≤ 1000000) (hol : O.length ≤ 1000000) (his : isL O = true) :
    Calls Try.prog 19 #[v, .string y] w fun e w' => e = .returned (.tuple #[.string (str (decV O l)), .int .i64 (decE O l)]) ∧ Below w.heap.size w w' := by
  have HI := Lib.hid (refis_any y O w hy hol)
  rw [his] at HI
  have HV := Lib.hid hv
  obtain ⟨a, cap, rfl, hc1, hc2⟩ := hv.shape
  have HY := Lib.hid hy
  have HOL := Lib.hid hol
  clear hy his hv
  go_enter Try.func19, Try.ntmps19
  go_wp2_with fail
  refine HI.out.mono ?_
  rintro e w1 ⟨rfl, hb1⟩
  clear HI
  go_wp2
  go_loopw [6, 7, 16] (fun o q i wr => ∃ (j : Nat) (o' q' : ByteArray) (ord s : List UInt8), j ≤ l.length ∧ i = .int .i64 j ∧ o = .string o' ∧ q = .string q' ∧ Hid (o' = str s) ∧ Hid (q' = str ord) ∧ Hid (decL O (l.take j) = some s) ∧ Hid (decO O (l.take j) = ord) ∧ Below w.heap.size w wr) (fun _ _ i _ => l.length - (intOf i).toNat)
  case atStart => exact ⟨0, _, _, O, [], Nat.zero_le _, rfl, rfl, rfl, rfl, HY.out, rfl, rfl, hb1⟩
  case round =>
    obtain ⟨j, o', q', ord, s, hj, rfl, rfl, rfl, HOO, HQ, HL, HO, hb⟩ := hrel
    have HOL2 := Lib.hid (show ord.length = O.length by rw [← HO.out, decO_len])
    have hqz : q'.size ≤ ord.length ∧ ord.length ≤ q'.size := by rw [HQ.out, str_size]; exact ⟨Nat.le_refl _, Nat.le_refl _⟩
    have hoz : o'.size ≤ 1000000 := by rw [HOO.out, str_size, decL_len HL.out, List.length_take]; omega
    have hql : ord.length ≤ 1000000 := by rw [HOL2.out]; exact HOL.out
    by_cases hlt : j < l.length
    · have hvr := HV.out.below hb
      obtain ⟨b, off, x, rfl, hbb, hx, hcx, hx1, hx2⟩ := hvr.at hlt
      have HX := Lib.hid hx
      clear hvr hx
      by_cases hbad : x < 0 ∨ (ord.length : Int) ≤ x
      · have HE := Lib.hid (dec_no (decL_none HL.out HX.out (by rw [HOL2.out] at hbad; exact hbad)))
        by_cases hx0 : x < 0
        · have hd : decide (x < 0) = true := decide_eq_true hx0
          clear hbad hx0
          go_wp2
          go_ret2
          exact ⟨ret_si HE.out.1.symm (by rw [HE.out.2]; rfl), hb⟩
        · have hd : decide (x < 0) = false := decide_eq_false hx0
          have hd2 : decide ((q'.size : Int) ≤ x) = true := decide_eq_true (by omega)
          clear hbad hx0
          go_wp2
          go_ret2
          exact ⟨ret_si HE.out.1.symm (by rw [HE.out.2]; rfl), hb⟩
      · obtain ⟨k, rfl⟩ : ∃ k : Nat, x = k := ⟨x.toNat, by omega⟩
        have hk : k < ord.length := by omega
        have hd : decide ((k : Int) < 0) = false := decide_eq_false (by omega)
        have hd2 : decide ((q'.size : Int) ≤ (k : Int)) = false := decide_eq_false (by omega)
        have hd3 : decide (q'.size ≤ k) = false := decide_eq_false (by omega)
        have HT := Lib.hid (fun w => reftouch_any q' ord k w HQ.out hql hk)
        have HL2 := Lib.hid (show decL O (l.take (j + 1)) = some (s ++ [ord.getD k 0]) by
          rw [List.take_add_one, HX.out]
          show decL O (l.take j ++ [(k : Int)]) = _
          rw [decL_snoc _ HL.out, if_neg (by rw [← HOL2.out]; exact hbad), HO.out]
          simp)
        have HO2 := Lib.hid (show decO O (l.take (j + 1)) = touchL ord k by
          rw [List.take_add_one, HX.out]
          show decO O (l.take j ++ [(k : Int)]) = _
          rw [decO_snoc k HL.out (by rw [← HOL2.out]; exact hk), HO.out])
        have HOO2 := Lib.hid (show o' ++ q'.extract k (k + 1) = str (s ++ [ord.getD k 0]) by
          rw [HOO.out, HQ.out, str_extract, str_append, show k + 1 - k = 1 by omega, List.drop_eq_getElem_cons hk]
          congr 2
          rw [List.getD_eq_getElem?_getD, List.getElem?_eq_getElem hk]
          rfl)
        have h2 : k + 1 ≤ q'.size := by omega
        have h3 : (k : Int) + 1 ≤ (q'.size : Int) := by omega
        have e1 : IntKind.i64.wrap ((k : Int) + 1) = ((k + 1 : Nat) : Int) := by rw [IntWalk.i64_in _ (by omega)]; omega
        obtain ⟨m, hm⟩ : ∃ z, k + 1 = z := ⟨_, rfl⟩
        rw [hm] at HOO2 e1 h2
        have h4 : k ≤ m := by omega
        have h5 : (m : Int) ≤ (q'.size : Int) := by omega
        have h6 : (k : Int) ≤ (m : Int) := by omega
        clear hbad HL HO HOO hm h3
        go_wp2_with fail
        refine (HT.out _).mono ?_
        rintro e w3 ⟨rfl, hb3⟩
        have HB3 := Lib.hid (hb.trans (below_of hb3 hb.size))
        clear HT hb3
        go_wp2
        go_roundw
        case rel => exact ⟨j + 1, _, _, _, _, by omega, by go_num, rfl, rfl, HOO2.out, rfl, HL2.out, HO2.out, HB3.out⟩
        case measure => simp [intOf]; omega
    · obtain rfl : j = l.length := by omega
      have HE := Lib.hid (dec_yes (show decL O l = some s by have := HL.out; rwa [List.take_length] at this))
      go_wp2
      go_ret2
      exact ⟨ret_si HE.out.1.symm (by rw [HE.out.2, HOO.out]), hb⟩
end Go.Proofs.Ytoebnibhkdidhaa

/- Package mtf: Encode, Decode. -/
import Derived.Test.YtoebnibhkdidhaaMtfB
namespace Go.Proofs.Ytoebnibhkdidhaa
open Go.RowKit

theorem mbyteinfo : (Try.prog.info? 5).map (fun i => (i.zero, i.size, i.bytes)) = some (some (.int .u8 0), 1, 1) := by kernel_rfl

set_option maxHeartbeats 1000000 in
set_option maxRecDepth 100000 in
theorem enc_bad (s y : ByteArray) (O : List UInt8) (w : World) (hy : y = str O) (hol : O.length ≤ 1000000) (his : isL O = false) :
    Calls Try.prog 15 #[.string s, .string y] w fun e w' => e = .returned (.tuple #[.slice none 0 0, .int .i64 1]) ∧ Below w.heap.size w w' := by
  have HI := Lib.hid (mnew_no y O w hy his hol)
  clear hy his
  go_enter Try.func15, Try.ntmps15
  go_wp2_with fail
  refine HI.out.mono ?_
  rintro e w1 ⟨rfl, hb⟩
  clear HI
  go_wp2
  go_ret2
  exact ⟨rfl, hb⟩

/-- a row that is filled from its beginning -/
def fillI (L : List Nat) (n j : Nat) : List Value := L.map (fun (k : Nat) => Value.int .i64 (k : Int)) ++ List.replicate (n - j) (.int .i64 0)
theorem fillI_at {L : List Nat} {n j : Nat} (hL : L.length = j) (hj : j < n) : (fillI L n j)[j]? = some (.int .i64 0) := by
  unfold fillI
  rw [List.getElem?_append_right (by rw [List.length_map]; omega), List.length_map, hL, Nat.sub_self, List.getElem?_replicate, if_pos (by omega)]
theorem fillI_set {L : List Nat} {n j : Nat} (k : Nat) (hL : L.length = j) (hj : j < n) : (fillI L n j).set j (.int .i64 (k : Int)) = fillI (L ++ [k]) n (j + 1) := by
  unfold fillI
  rw [List.set_append_right _ _ (by rw [List.length_map]; omega), List.length_map, hL, Nat.sub_self, show n - j = (n - (j + 1)) + 1 by omega, List.replicate_succ, List.set_cons_zero, List.map_append]
  simp
def fillB (L : List UInt8) (n j : Nat) : List Value := bcells L ++ List.replicate (n - j) (.int .u8 0)
theorem fillB_at {L : List UInt8} {n j : Nat} (hL : L.length = j) (hj : j < n) : (fillB L n j)[j]? = some (.int .u8 0) := by
  unfold fillB
  rw [List.getElem?_append_right (by rw [bcells_len]; omega), bcells_len, hL, Nat.sub_self, List.getElem?_replicate, if_pos (by omega)]
theorem fillB_set {L : List UInt8} {n j : Nat} (k : UInt8) (hL : L.length = j) (hj : j < n) : (fillB L n j).set j (.int .u8 (k.toNat : Int)) = fillB (L ++ [k]) n (j + 1) := by
  unfold fillB
  rw [List.set_append_right _ _ (by rw [bcells_len]; omega), bcells_len, hL, Nat.sub_self, show n - j = (n - (j + 1)) + 1 by omega, List.replicate_succ, List.set_cons_zero, bcells_append]
  simp [bcells, u8]

set_option maxHeartbeats 1000000 in
set_option maxRecDepth 100000 in
theorem enc_any (s y : ByteArray) (S O : List UInt8) (w : World) (hs : s = str S) (hy : y = str O) (hl : S.length ≤ 1000000) (hol : O.length ≤ 1000000) (his : isL O = true) :
    Calls Try.prog 15 #[.string s, .string y] w fun e w' => ∃ v, e = .returned (.tuple #[v, .int .i64 (encE O S)]) ∧ RInts w' v (encV O S) ∧ Below w.heap.size w w' := by
  have HI := Lib.hid (mnew_ok y O w hy his hol)
  have hsz : s.size = S.length := by rw [hs, str_size]
  have HS := Lib.hid hs
  have HSZ := Lib.hid hsz
  have hz : s.size ≤ 1000000 := by omega
  have HOL := Lib.hid hol
  clear hs hy his hsz
  go_enter Try.func15, Try.ntmps15
  go_wp2_with fail
  refine HI.out.mono ?_
  rintro e w1 ⟨b, g, cap, rfl, h1, hb, hg, hb1⟩
  have H1 := Lib.hid h1
  clear HI h1
  go_wp2_with (at_make; refine wpList_make_blk _ rfl _ _ 23 rfl 3 (.int .i64 0) 8 Try.underlying23 intinfo rfl _ _ _ _ s.size rfl rfl rfl rfl (by omega) (by unfold maxLen; omega) ?_)
  intro w2 hblk hk2
  have H2 := Lib.hid (H1.out.below hk2)
  have hb2 := hb1.trans (below_of hk2 hb1.size)
  obtain ⟨G, hG⟩ : ∃ z, w1.heap.size = z := ⟨_, rfl⟩
  rw [hG] at hblk ⊢
  have HGG := Lib.hid (show w.heap.size ≤ G by rw [← hG]; exact hb1.size)
  have HNB := Lib.hid (show G ≠ b ∧ G ≠ g by rw [← hG]; exact ⟨fun e => by have := H1.out.box.lt; omega, fun e => by have := H1.out.lt; omega⟩)
  have HBLK := Lib.hid (show Blk w2 G (fillI [] s.size 0) 3 from hblk)
  clear hblk hk2 hb1 hG H1
  go_wp2
  go_loopw [25] (fun i wr => ∃ (j : Nat) (ord : List UInt8) (L : List Nat), j ≤ s.size ∧ i = .int .i64 j ∧ Hid (encL O (S.take j) = some L) ∧ Hid (encO O (S.take j) = ord) ∧ Hid (Blk wr G (fillI L s.size j) 3) ∧ Hid (ListAt wr b g cap ord) ∧ Below w.heap.size w wr) (fun i _ => s.size - (intOf i).toNat)
  case atStart => exact ⟨0, O, [], Nat.zero_le _, rfl, rfl, rfl, HBLK.out, H2.out, hb2⟩
  case round =>
    obtain ⟨j, ord, L, hj, rfl, HL, HO, HB, HLA, hbel⟩ := hrel
    have HOL2 := Lib.hid (show ord.length = O.length by rw [← HO.out, encO_len])
    have HLL := Lib.hid (show L.length = j by rw [encL_len HL.out, List.length_take]; have := HSZ.out; omega)
    clear HBLK H2 hb2
    by_cases hlt : j < s.size
    · have hat := str_at HS.out hlt
      obtain ⟨c, hc⟩ : ∃ c, s[j] = c := ⟨_, rfl⟩
      rw [hc] at hat
      have HAT := Lib.hid hat
      clear hat
      cases hp : plc ord c with
      | none =>
        have HF := Lib.hid (find_none b g cap ord c wr HLA.out hp)
        have HE := Lib.hid (enc_no (encL_none HL.out HAT.out (by rw [HO.out]; exact hp)))
        clear hp
        go_wp2_with fail
        refine HF.out.mono ?_
        rintro e w3 ⟨rfl, rfl⟩
        clear HF
        go_wp2
        go_ret2
        exact ⟨_, ret_vi HE.out.1.symm, by rw [HE.out.2]; exact RInts.nil _, hbel⟩
      | some k =>
        have HF := Lib.hid (find_some b g cap ord c k wr HLA.out hp (by rw [HOL2.out]; exact HOL.out))
        have HL2 := Lib.hid (show encL O (S.take (j + 1)) = some (L ++ [k]) by
          rw [List.take_add_one, HAT.out]
          show encL O (S.take j ++ [c]) = _
          rw [encL_snoc c HL.out, HO.out, hp]
          rfl)
        have HO2 := Lib.hid (show encO O (S.take (j + 1)) = touchL ord k by
          rw [List.take_add_one, HAT.out]
          show encO O (S.take j ++ [c]) = _
          rw [encO_snoc c k HL.out (by rw [HO.out]; exact hp), HO.out])
        clear hp HL HO
        go_wp2_with fail
        refine HF.out.mono ?_
        rintro e w3 ⟨rfl, h3, k3⟩
        have HB3 := Lib.hid (HB.out.keep k3 (fun e => HNB.out.2 e))
        have HLA3 := Lib.hid h3
        have hb3 := hbel.trans (k3.below (B := w.heap.size) hbel.size (fun i hi e => by have h2 : i = g := e; omega))
        clear HF h3 k3 HB HLA hbel
        have hcell := HB3.out.cell (fillI_at HLL.out hlt)
        have hfr := HB3.out.free j
        have HB4 := Lib.hid (show Blk (w3.setCell ⟨G, j, none⟩ (.int .i64 (k : Int))) G (fillI (L ++ [k]) s.size (j + 1)) 3 by
          rw [← fillI_set k HLL.out hlt]
          exact HB3.out.set j _)
        have HLA4 := Lib.hid (HLA3.out.keep (keep_setCell (S := fun i => i = G) (Keep.refl _ w3) (a := ⟨G, j, none⟩) rfl (.int .i64 (k : Int))) (fun e => HNB.out.1 e.symm) (fun e => HNB.out.2 e.symm))
        have HB5 := Lib.hid (hb3.setCell (p := ⟨G, j, none⟩) HGG.out (.int .i64 (k : Int)))
        clear hb3
        go_wp2
        go_roundw
        case rel => exact ⟨j + 1, _, _, by omega, by go_num, HL2.out, HO2.out, HB4.out, HLA4.out, HB5.out⟩
        case measure => simp [intOf]; omega
    · obtain rfl : j = s.size := by omega
      have HE := Lib.hid (enc_yes (show encL O S = some L by have := HL.out; rwa [HSZ.out, List.take_length] at this))
      have HBD := Lib.hid (encL_lt HL.out)
      have HR := Lib.hid (show RInts wr (.slice (some ⟨G, 0, none⟩) s.size s.size) (encV O S) by
        rw [HE.out.2]
        have := HB.out
        unfold fillI at this
        rw [Nat.sub_self, List.replicate_zero, List.append_nil] at this
        refine ⟨?_, natI_ok HBD.out HOL.out⟩
        rw [natI_len, HLL.out, List.map_map]
        exact this.reads _ _ (Nat.le_refl _) (by unfold maxLen; omega))
      go_wp2
      go_ret2
      exact ⟨_, ret_vi HE.out.1.symm, HR.out, hbel⟩

set_option maxHeartbeats 1000000 in
set_option maxRecDepth 100000 in
theorem dec_bad (v : Value) (l : List Int) (y : ByteArray) (O : List UInt8) (w : World) (hv : RInts w v l) (hy : y = str O) (hol : O.length ≤ 1000000) (his : isL O = false) :
    Calls Try.prog 18 #[v, .string y] w fun e w' => e = .returned (.tuple #[.string ⟨#[]⟩, .int .i64 1]) ∧ Below w.heap.size w w' := by
  have HI := Lib.hid (mnew_no y O w hy his hol)
  obtain ⟨a, cap, rfl, -, -⟩ := hv.shape
  clear hy his hv
  go_enter Try.func18, Try.ntmps18
  go_wp2_with fail
  refine HI.out.mono ?_
  rintro e w1 ⟨rfl, hb⟩
  clear HI
  go_wp2
  go_ret2
  exact ⟨rfl, hb⟩

set_option maxHeartbeats 1000000 in
set_option maxRecDepth 100000 in
theorem dec_any (v : Value) (l : List Int) (y : ByteArray) (O : List UInt8) (w : World) (hv : RInts w v l) (hy : y = str O) (hl : l.length ≤ 1000000) (hol : O.length ≤ 1000000) (his : isL O = true) :
    Calls Try.prog 18 #[v, .string y] w fun e w' => e = .returned (.tuple #[.string (str (decV O l)), .int .i64 (decE O l)]) ∧ Below w.heap.size w w' := by
  have HI := Lib.hid (mnew_ok y O w hy his hol)
  have HV := Lib.hid hv
  obtain ⟨a, cap0, rfl, hc1, hc2⟩ := hv.shape
  have HOL := Lib.hid hol
  clear hy his hv
  go_enter Try.func18, Try.ntmps18
  go_wp2_with fail
  refine HI.out.mono ?_
  rintro e w1 ⟨b, g, cap, rfl, h1, hb, hg, hb1⟩
  have H1 := Lib.hid h1
  clear HI h1
  go_wp2_with (at_make; refine wpList_make_blk _ rfl _ _ 81 rfl 5 (.int .u8 0) 1 Try.underlying81 mbyteinfo rfl _ _ _ _ l.length rfl rfl rfl rfl (by omega) (by unfold maxLen; omega) ?_)
  intro w2 hblk hk2
  have H2 := Lib.hid (H1.out.below hk2)
  have hb2 := hb1.trans (below_of hk2 hb1.size)
  obtain ⟨G, hG⟩ : ∃ z, w1.heap.size = z := ⟨_, rfl⟩
  rw [hG] at hblk ⊢
  have HGG := Lib.hid (show w.heap.size ≤ G by rw [← hG]; exact hb1.size)
  have HNB := Lib.hid (show G ≠ b ∧ G ≠ g by rw [← hG]; exact ⟨fun e => by have := H1.out.box.lt; omega, fun e => by have := H1.out.lt; omega⟩)
  have HBLK := Lib.hid (show Blk w2 G (fillB [] l.length 0) 5 from hblk)
  clear hblk hk2 hb1 hG H1
  go_wp2
  go_loopw [26] (fun i wr => ∃ (j : Nat) (ord s : List UInt8), j ≤ l.length ∧ i = .int .i64 j ∧ Hid (decL O (l.take j) = some s) ∧ Hid (decO O (l.take j) = ord) ∧ Hid (Blk wr G (fillB s l.length j) 5) ∧ Hid (ListAt wr b g cap ord) ∧ Below w.heap.size w wr) (fun i _ => l.length - (intOf i).toNat)
  case atStart => exact ⟨0, O, [], Nat.zero_le _, rfl, rfl, rfl, HBLK.out, H2.out, hb2⟩
  case round =>
    obtain ⟨j, ord, s, hj, rfl, HL, HO, HB, HLA, hbel⟩ := hrel
    have HOL2 := Lib.hid (show ord.length = O.length by rw [← HO.out, decO_len])
    have HLL := Lib.hid (show s.length = j by rw [decL_len HL.out, List.length_take]; omega)
    clear HBLK H2 hb2
    by_cases hlt : j < l.length
    · have hvr := HV.out.below hbel
      obtain ⟨b0, off, x, rfl, hbb, hx, hcx, hx1, hx2⟩ := hvr.at hlt
      have HX := Lib.hid hx
      clear hvr hx
      by_cases hbad : x < 0 ∨ (ord.length : Int) ≤ x
      · have HE := Lib.hid (dec_no (decL_none HL.out HX.out (by rw [HOL2.out] at hbad; exact hbad)))
        have HF := Lib.hid (at_no b g cap ord x wr HLA.out hbad)
        clear hbad
        go_wp2_with fail
        refine HF.out.mono ?_
        rintro e w3 ⟨rfl, rfl⟩
        clear HF
        go_wp2
        go_ret2
        exact ⟨ret_si HE.out.1.symm (by rw [HE.out.2]; rfl), hbel⟩
      · obtain ⟨k, rfl⟩ : ∃ k : Nat, x = k := ⟨x.toNat, by omega⟩
        have hk : k < ord.length := by omega
        have hgd : ord[k]? = some (ord.getD k 0) := by rw [List.getD_eq_getElem?_getD, List.getElem?_eq_getElem hk]; rfl
        have HF := Lib.hid (at_ok b g cap ord k _ wr HLA.out hgd (by rw [HOL2.out]; exact HOL.out))
        have HL2 := Lib.hid (show decL O (l.take (j + 1)) = some (s ++ [ord.getD k 0]) by
          rw [List.take_add_one, HX.out]
          show decL O (l.take j ++ [(k : Int)]) = _
          rw [decL_snoc _ HL.out, if_neg (by rw [← HOL2.out]; exact hbad), HO.out]
          simp)
        have HO2 := Lib.hid (show decO O (l.take (j + 1)) = touchL ord k by
          rw [List.take_add_one, HX.out]
          show decO O (l.take j ++ [(k : Int)]) = _
          rw [decO_snoc k HL.out (by rw [← HOL2.out]; exact hk), HO.out])
        obtain ⟨d, hd⟩ : ∃ d, ord.getD k 0 = d := ⟨_, rfl⟩
        rw [hd] at HF HL2
        clear hbad hgd hd HL HO
        go_wp2_with fail
        refine HF.out.mono ?_
        rintro e w3 ⟨rfl, h3, k3⟩
        have HB3 := Lib.hid (HB.out.keep k3 (fun e => HNB.out.2 e))
        have HLA3 := Lib.hid h3
        have hb3 := hbel.trans (k3.below (B := w.heap.size) hbel.size (fun i hi e => by have h2 : i = g := e; omega))
        clear HF h3 k3 HB HLA hbel
        have hcell := HB3.out.cell (fillB_at HLL.out hlt)
        have hfr := HB3.out.free j
        have HB4 := Lib.hid (show Blk (w3.setCell ⟨G, j, none⟩ (.int .u8 (d.toNat : Int))) G (fillB (s ++ [d]) l.length (j + 1)) 5 by
          rw [← fillB_set d HLL.out hlt]
          exact HB3.out.set j _)
        have HLA4 := Lib.hid (HLA3.out.keep (keep_setCell (S := fun i => i = G) (Keep.refl _ w3) (a := ⟨G, j, none⟩) rfl (.int .u8 (d.toNat : Int))) (fun e => HNB.out.1 e.symm) (fun e => HNB.out.2 e.symm))
        have HB5 := Lib.hid (hb3.setCell (p := ⟨G, j, none⟩) HGG.out (.int .u8 (d.toNat : Int)))
        clear hb3
        go_wp2
        go_roundw
        case rel => exact ⟨j + 1, _, _, by omega, by go_num, HL2.out, HO2.out, HB4.out, HLA4.out, HB5.out⟩
        case measure => simp [intOf]; omega
    · obtain rfl : j = l.length := by omega
      have HE := Lib.hid (dec_yes (show decL O l = some s by have := HL.out; rwa [List.take_length] at this))
      have HR : RBytes wr (.slice (some ⟨G, 0, none⟩) s.length l.length) s := by
        have := HB.out
        unfold fillB at this
        rw [Nat.sub_self, List.replicate_zero, List.append_nil] at this
        exact this.reads _ _ (by rw [HLL.out]; exact Nat.le_refl _) (by unfold maxLen; omega)
      have hst := run_string_of (P := Try.prog) HR 81 9 5 Try.underlying81 Try.underlying5 Try.underlying9
      rw [HLL.out] at hst
      obtain ⟨q, hq⟩ : ∃ z, str s = z := ⟨_, rfl⟩
      rw [hq] at hst
      have HQ := Lib.hid hq
      clear HR hq
      go_wp2
      go_ret2
      exact ⟨ret_si HE.out.1.symm (by rw [HE.out.2, HQ.out]), hbel⟩

set_option maxHeartbeats 1000000 in
set_option maxRecDepth 100000 in
theorem bab_any (w : World) : Calls Try.prog 14 #[] w fun e w' => e = .returned (.bool true) ∧ Below w.heap.size w w' := by
  have HE := Lib.hid (enc_any ⟨#[98, 97, 98]⟩ ⟨#[97, 98]⟩ [98, 97, 98] [97, 98] w rfl rfl (by decide) (by decide) rfl)
  have he : encE [97, 98] [98, 97, 98] = 0 ∧ encV [97, 98] [98, 97, 98] = [1, 1, 1] := by decide
  rw [he.1, he.2] at HE
  have hd : decE [97, 98, 99] [1, 0, 1] = 0 ∧ decV [97, 98, 99] [1, 0, 1] = [98, 98, 97] := by decide
  have HD := Lib.hid (fun (v : Value) (w : World) (hv : RInts w v [1, 0, 1]) => dec_any v [1, 0, 1] ⟨#[97, 98, 99]⟩ [97, 98, 99] w hv rfl (by decide) (by decide) rfl)
  rw [hd.1, hd.2] at HD
  have HSTR := Lib.hid (show str [98, 98, 97] = ⟨#[98, 98, 97]⟩ from rfl)
  clear he hd
  go_enter Try.func14, Try.ntmps14
  go_wp2_with fail
  refine HE.out.mono ?_
  rintro e w1 ⟨v, rfl, hv, hb1⟩
  have HV := Lib.hid hv
  obtain ⟨a, cap, rfl, hc1, hc2⟩ := hv.shape
  clear HE hv
  have HN := Lib.hid (rints_new w1 [1, 0, 1] 3 3 _ _ rfl rfl rfl (by simp) (by decide))
  have HBN := Lib.hid (below_alloc w1 (.cells #[.int .i64 1, .int .i64 0, .int .i64 1] 3 (0, 0)))
  go_wp2_with fail
  refine (HD.out _ _ HN.out).mono ?_
  rintro e w2 ⟨rfl, hb2⟩
  rw [HSTR.out]
  have hb3 := (hb1.trans (below_of HBN.out hb1.size)).trans (below_of hb2 (hb1.trans (below_of HBN.out hb1.size)).size)
  have HV2 := Lib.hid ((HV.out.below HBN.out).below hb2)
  clear HD HN HBN hb1 hb2 HV
  have HN2 := Lib.hid (rints_new w2 [1, 1, 1] 3 3 _ _ rfl rfl rfl (by simp) (by decide))
  have HBN2 := Lib.hid (below_alloc w2 (.cells #[.int .i64 1, .int .i64 1, .int .i64 1] 3 (0, 0)))
  go_wp2_with fail
  refine (ints_same _ _ [1, 1, 1] _ (HV2.out.below HBN2.out) HN2.out).mono ?_
  rintro e w3 ⟨rfl, hd3⟩
  have HB3 := Lib.hid ((hb3.trans (below_of HBN2.out hb3.size)).trans (below_of (below_drawn hd3) (hb3.trans (below_of HBN2.out hb3.size)).size))
  clear hb3 hd3 HV2 HN2 HBN2
  go_wp2
  go_ret
  exact ⟨rfl, HB3.out⟩
end Go.Proofs.Ytoebnibhkdidhaa

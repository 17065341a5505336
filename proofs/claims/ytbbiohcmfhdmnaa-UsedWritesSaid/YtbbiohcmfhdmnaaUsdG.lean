/- Package used: read. -/
import Derived.Test.YtbbiohcmfhdmnaaUsdF
namespace Go.Proofs.Ytbbiohcmfhdmnaa
open Go.RowKit

/-- all bits from the place on -/
def restB (S : List UInt8) (at_ : Nat) : List Bool := (bitsL S).drop at_
theorem restB_len (S : List UInt8) (at_ : Nat) : (restB S at_).length = 8 * S.length - at_ := by unfold restB; rw [List.length_drop, bitsL_len]
theorem restB_get (S : List UInt8) (at_ n m : Nat) : ((restB S at_).drop n).take m = getBits S (at_ + n) m := by
  unfold restB getBits
  rw [List.drop_drop]
theorem marksV_num {l : List Bool} (h : l.length = 16) : marksV (numL l) 16 = marksL l := by
  unfold marksV marksL numsL
  apply List.filter_congr
  intro k hk
  exact numL_bit h (List.mem_range.1 hk)
theorem boolsL_congr {f g : Nat → Bool} (h : ∀ b, b < 256 → f b = g b) : boolsL f = boolsL g := by
  unfold boolsL
  apply List.map_congr_left
  intro b hb
  rw [h b (List.mem_range.1 hb)]

/-- what reading tells: symbols, an error; and where the reader is -/
def ReadP (br : Nat) (S : List UInt8) (d at_ : Nat) (w : World) (e : Ending) (w' : World) : Prop :=
  e = .returned (.tuple #[.string (str (refRead (restB S at_)).1), .int .i64 (refRead (restB S at_)).2.2]) ∧
    ∃ a', RDid br S d a' w w' ∧ at_ ≤ a' ∧ ((refRead (restB S at_)).2.2 = 0 → a' = at_ + (refRead (restB S at_)).2.1)

theorem readP_err {br : Nat} {S : List UInt8} {d at_ a' : Nat} {w w' : World} {er : Int} (h : refRead (restB S at_) = ([], 0, er)) (h0 : er ≠ 0) (hd : RDid br S d a' w w') (ha : at_ ≤ a') :
    ReadP br S d at_ w (.returned (.tuple #[.string ⟨#[]⟩, .int .i64 er])) w' := by
  unfold ReadP
  rw [h]
  exact ⟨rfl, a', hd, ha, fun e => absurd e h0⟩

theorem inL_snoc (out : List Nat) (n b : Nat) : inL (out ++ [n]) b = (inL out b || (n == b)) := by
  unfold inL
  rw [Bool.eq_iff_iff]
  simp
  constructor
  · rintro (h | h)
    · exact .inl h
    · exact .inr h.symm
  · rintro (h | h)
    · exact .inl h
    · exact .inr h.symm

set_option maxHeartbeats 4000000 in
set_option maxRecDepth 100000 in
theorem read_any (br : Nat) (S : List UInt8) (d at_ : Nat) (w : World) (h : ReaderAt w br S d at_) :
    Calls Try.prog 56 #[.pointer (some ⟨br, 0, none⟩)] w (ReadP br S d at_ w) := by
  have hbl := h.box.lt
  have H := Lib.hid h
  have HLEN := Lib.hid (restB_len S at_)
  by_cases hsh : 8 * S.length < at_ + 16
  · have HG := Lib.hid (rget_short br S d at_ 16 w h (by decide) hsh)
    have HE := Lib.hid (refRead_short (all := restB S at_) (by have := HLEN.out; have := h.hi; omega))
    clear h hsh
    go_enter Try.func56, Try.ntmps56
    go_wp2_with fail
    refine HG.out.mono ?_
    rintro e w1 ⟨rfl, hd⟩
    have HD := Lib.hid (RDid.same H.out (below_drawn hd))
    clear HG hd
    go_wp2
    go_ret2
    exact readP_err HE.out (by decide) HD.out (Nat.le_refl _)
  · have HG := Lib.hid (rget_ok br S d at_ 16 w h (by decide) (by omega))
    have hwl : (getBits S at_ 16).length = 16 := getBits_len (by omega)
    have HWM := Lib.hid (show marksV (numL (getBits S at_ 16)) 16 = marksL ((restB S at_).take 16) by
      rw [marksV_num hwl]
      have := restB_get S at_ 0 16
      rw [List.drop_zero, Nat.add_zero] at this
      rw [this])
    have hvl := numL_lt (getBits S at_ 16)
    rw [hwl] at hvl
    obtain ⟨V, hV⟩ : ∃ z, numL (getBits S at_ 16) = z := ⟨_, rfl⟩
    rw [hV] at HG HWM hvl
    have HLN := Lib.hid (show ¬ (restB S at_).length < 16 by have := HLEN.out; omega)
    have HI := Lib.hid (show (marksL ((restB S at_).take 16)).length ≤ 16 from Nat.le_trans (List.length_filter_le _ _) (by simp))
    have HI16 := Lib.hid (show ∀ x ∈ marksL ((restB S at_).take 16), x < 16 from fun x hx => marksL_lt hx)
    obtain ⟨I, hI⟩ : ∃ z, marksL ((restB S at_).take 16) = z := ⟨_, rfl⟩
    have HIE := Lib.hid hI
    rw [hI] at HWM HI HI16
    have HMA := Lib.hid (fun w => marks_any V w (by omega))
    rw [HWM.out] at HMA
    have hz := zero_bools
    obtain ⟨Z, hZ⟩ : ∃ z, (boolsL fun _ => false).toArray = z := ⟨_, rfl⟩
    have HZ := Lib.hid hZ
    rw [hZ] at hz
    clear h hsh hwl hV hI hZ
    go_enter Try.func56, Try.ntmps56
    go_wp2_with fail
    refine HG.out.mono ?_
    rintro e w1 ⟨rfl, hd⟩
    have HD := Lib.hid hd
    have hbl1 := hd.1.box.lt
    have hws := hd.2.size
    clear HG hd
    go_wp2_with fail
    refine (HMA.out _).mono ?_
    rintro e w2 ⟨v2, rfl, hr2, hf2, hb2⟩
    have hal := below_alloc w1 (.cells Z 75 (0, 0))
    have HB6 := Lib.hid ((show Blk (w1.alloc (.cells Z 75 (0, 0))) w1.heap.size (boolsL (inL [])) 75 by
      have := Blk.new w1 (boolsL fun _ => false) 75
      rw [HZ.out] at this
      exact this).below hb2)
    have HRD := Lib.hid (HD.out.trans (RDid.same HD.out.1 (below_two hal hb2)))
    obtain ⟨a2, cap2, hv2, _, _⟩ := hr2.shape
    rw [List.length_map] at hv2
    subst hv2
    have HR2 := Lib.hid hr2
    have HF2 := Lib.hid (show ∀ g, (Value.slice a2 I.length cap2).ownBlock = some g → g ≠ w1.heap.size ∧ g ≠ br from fun g hg => by have := hf2 g hg; simp at this; omega)
    have HS6 := Lib.hid (show w.heap.size ≤ w1.heap.size ∧ w1.heap.size < w2.heap.size ∧ br ≠ w1.heap.size from ⟨hws, HB6.out.lt, by omega⟩)
    clear hr2 hf2 hb2 hal hz HMA
    obtain ⟨b6, hb6⟩ : ∃ z, w1.heap.size = z := ⟨_, rfl⟩
    rw [hb6] at HB6 HF2 HS6
    have hil : I.length ≤ 16 := HI.out
    go_wp2
    clear hb6
    go_loopw [8, 9, 10, 12, 25] (fun x y z u i wr => ∃ (j : Nat) (out : List Nat), j ≤ I.length ∧ i = .int .i64 j ∧ Hid (rowsGo (restB S at_) I 16 [] = rowsGo (restB S at_) (I.drop j) (16 + 16 * j) out) ∧ Hid (Blk wr b6 (boolsL (inL out)) 75) ∧ Hid (RDid br S d (at_ + 16 + 16 * j) w wr) ∧ Hid (RInts wr (.slice a2 I.length cap2) (I.map (fun (k : Nat) => (k : Int))))) (fun _ _ _ _ i _ => I.length - (intOf i).toNat)
    case atStart => exact ⟨0, [], Nat.zero_le _, rfl, rfl, HB6.out, HRD.out, HR2.out⟩
    case round =>
      obtain ⟨j, out, hj, rfl, HGO, HB, HR, HM⟩ := hrel
      by_cases hlt : j < I.length
      · obtain ⟨b2, off2, x0, rfl, hbb2, hx0, hcx, _, _⟩ := HM.out.at hlt
        obtain ⟨x, hx⟩ : ∃ x, I[j]? = some x := ⟨_, List.getElem?_eq_getElem hlt⟩
        rw [List.getElem?_map, hx] at hx0
        obtain rfl : (x : Int) = x0 := by simpa using hx0
        have hx16 := HI16.out x (List.mem_of_getElem? hx)
        have HDR := Lib.hid (show I.drop j = x :: I.drop (j + 1) by rw [List.drop_eq_getElem_cons hlt]; congr 1; have := (List.getElem?_eq_some_iff.1 hx).2; exact this)
        clear hx hx0
        by_cases hs2 : 8 * S.length < at_ + 16 + 16 * j + 16
        · have HG2 := Lib.hid (rget_short br S d (at_ + 16 + 16 * j) 16 wr HR.out.1 (by decide) hs2)
          have HE := Lib.hid (show refRead (restB S at_) = ([], 0, 3) from refRead_none (by
            rw [HIE.out, HGO.out, HDR.out, rowsGo, if_pos (by have := HLEN.out; have := HR.out.1.hi; omega)]))
          clear hs2
          go_wp2_with fail
          refine HG2.out.mono ?_
          rintro e w3 ⟨rfl, hd⟩
          have HD3 := Lib.hid (HR.out.trans (RDid.same HR.out.1 (below_drawn hd)))
          clear HG2 hd
          go_wp2
          go_ret2
          exact readP_err HE.out (by decide) HD3.out (by omega)
        · have HG2 := Lib.hid (rget_ok br S d (at_ + 16 + 16 * j) 16 wr HR.out.1 (by decide) (by omega))
          have hwl2 : (getBits S (at_ + 16 + 16 * j) 16).length = 16 := getBits_len (by omega)
          have HRO := Lib.hid (show rowOut (restB S at_) (16 + 16 * j) x = (marksL (getBits S (at_ + 16 + 16 * j) 16)).map (16 * x + ·) by
            unfold rowOut
            rw [restB_get, show at_ + (16 + 16 * j) = at_ + 16 + 16 * j by omega])
          have HWM2 := Lib.hid (marksV_num hwl2)
          have hvl2 := numL_lt (getBits S (at_ + 16 + 16 * j) 16)
          rw [hwl2] at hvl2
          have HNX := Lib.hid (show rowsGo (restB S at_) I 16 [] = rowsGo (restB S at_) (I.drop (j + 1)) (16 + 16 * (j + 1)) (out ++ rowOut (restB S at_) (16 + 16 * j) x) by
            rw [HGO.out, HDR.out, rowsGo, if_neg (by have := HLEN.out; omega), show 16 + 16 * j + 16 = 16 + 16 * (j + 1) by omega])
          obtain ⟨M, hM⟩ : ∃ z, marksL (getBits S (at_ + 16 + 16 * j) 16) = z := ⟨_, rfl⟩
          have HML := Lib.hid (show (∀ k ∈ M, k < 16) ∧ M.length ≤ 16 from ⟨fun k hk => by rw [← hM] at hk; exact marksL_lt hk, by rw [← hM]; exact Nat.le_trans (List.length_filter_le _ _) (by simp)⟩)
          obtain ⟨V2, hV2⟩ : ∃ z, numL (getBits S (at_ + 16 + 16 * j) 16) = z := ⟨_, rfl⟩
          rw [hV2] at HG2 HWM2 hvl2
          rw [hM] at HWM2 HRO
          have HMA2 := Lib.hid (fun w => marks_any V2 w (by omega))
          rw [HWM2.out] at HMA2
          clear hs2 hwl2 hM hV2
          go_wp2_with fail
          refine HG2.out.mono ?_
          rintro e w3 ⟨rfl, hd⟩
          have HD3 := Lib.hid (HR.out.trans hd)
          have HB3 := Lib.hid (HB.out.keep hd.2 (fun e => by have h : b6 = br := e; have := HS6.out.2.2; omega))
          have HM3 := Lib.hid (HM.out.keep hd.2 (fun g hg e => by have h : g = br := e; exact (HF2.out g hg).2 h))
          clear HG2 hd HB HM HR hcx
          go_wp2_with fail
          refine (HMA2.out _).mono ?_
          rintro e w4 ⟨v4, rfl, hr4, hf4, hb4⟩
          obtain ⟨a4, cap4, hv4, _, _⟩ := hr4.shape
          rw [List.length_map] at hv4
          subst hv4
          have HR4 := Lib.hid hr4
          have HB4 := Lib.hid (HB3.out.below hb4)
          have HM4 := Lib.hid (HM3.out.below hb4)
          have HD4 := Lib.hid (HD3.out.trans (RDid.same HD3.out.1 hb4))
          have HF4 := Lib.hid (show ∀ g, (Value.slice a4 M.length cap4).ownBlock = some g → g ≠ b6 from fun g hg => by have := hf4 g hg; have := HB3.out.lt; omega)
          have hml := HML.out.2
          clear hr4 hf4 hb4 HB3 HM3 HD3 HMA2
          go_wp2
          go_loopw [12, 40] (fun z i wi => ∃ (i0 : Nat), i0 ≤ M.length ∧ i = .int .i64 i0 ∧ Hid (Blk wi b6 (boolsL (inL (out ++ (M.take i0).map (16 * x + ·)))) 75) ∧ Hid (Keep (fun j => j = b6) w4 wi)) (fun _ i _ => M.length - (intOf i).toNat)
          case atStart => exact ⟨0, Nat.zero_le _, rfl, by show Blk _ _ _ _; rw [List.take_zero, List.map_nil, List.append_nil]; exact HB4.out, Keep.refl _ _⟩
          case round =>
            obtain ⟨i0, hi0, rfl, HBI, HKI⟩ := hrel
            by_cases hlt2 : i0 < M.length
            · obtain ⟨b5, off5, k0, he5, hbb5, hk0, hck, _, _⟩ := (HR4.out.keep HKI.out (fun g hg e => by have h : g = b6 := e; exact HF4.out g hg h)).at hlt2
              subst he5
              obtain ⟨k, hk⟩ : ∃ k, M[i0]? = some k := ⟨_, List.getElem?_eq_getElem hlt2⟩
              rw [List.getElem?_map, hk] at hk0
              obtain rfl : (k : Int) = k0 := by simpa using hk0
              have hk16 := HML.out.1 k (List.mem_of_getElem? hk)
              have HTK := Lib.hid (show out ++ (M.take (i0 + 1)).map (16 * x + ·) = (out ++ (M.take i0).map (16 * x + ·)) ++ [16 * x + k] by rw [take_snoc hk, List.map_append, List.append_assoc]; rfl)
              obtain ⟨n, hn⟩ : ∃ z, 16 * x + k = z := ⟨_, rfl⟩
              have e1 : (16 : Int) * (x : Int) + (k : Int) = (n : Int) := by omega
              have hn256 : n < 256 := by omega
              have hni : (n : Int) < 256 := by omega
              rw [hn] at HTK
              have hcell := HBI.out.cell (boolsL_at _ hn256)
              have hfr := HBI.out.free n
              have HBN := Lib.hid (show Blk (World.setCell _ ⟨b6, n, none⟩ (.bool true)) b6 (boolsL (inL (out ++ (M.take (i0 + 1)).map (16 * x + ·)))) 75 from by
                rw [HTK.out, show inL ((out ++ (M.take i0).map (16 * x + ·)) ++ [n]) = fun b => inL (out ++ (M.take i0).map (16 * x + ·)) b || (n == b) from funext fun b => inL_snoc _ _ _, ← boolsL_set _ hn256]
                exact HBI.out.set n (.bool true))
              have HKN := Lib.hid (keep_setCell (S := fun j => j = b6) HKI.out (a := ⟨b6, n, none⟩) rfl (.bool true))
              clear hk hk0 hn
              go_wp2
              go_roundw
              case rel => exact ⟨i0 + 1, by omega, by go_num, HBN.out, HKN.out⟩
              case measure => simp [intOf]; omega
            · obtain rfl : i0 = M.length := by omega
              have hbx := HBI.out
              rw [List.take_length, ← HRO.out] at hbx
              have HBX := Lib.hid hbx
              have HKB := Lib.hid (show Keep (fun j => w.heap.size ≤ j) w4 _ from HKI.out.mono (fun j _ e => by have h : j = b6 := e; have := HS6.out.1; omega))
              have HRX := Lib.hid (show RDid br S d (at_ + 16 + 16 * (j + 1)) w _ from by
                have h1 := HD4.out.1.keep HKI.out (fun e => HS6.out.2.2 e)
                have h2 : Keep (fun j => j = br) w _ := ⟨HKI.out.os.trans HD4.out.2.os, HKI.out.tape.trans HD4.out.2.tape, HKI.out.output.trans HD4.out.2.output, Nat.le_trans HD4.out.2.size HKI.out.size, fun k hk hs => by
                  rw [HKI.out.block k (Nat.lt_of_lt_of_le hk HD4.out.2.size) (fun e => by have h : k = b6 := e; have := HS6.out.1; omega)]
                  exact HD4.out.2.block k hk hs⟩
                rw [show at_ + 16 + 16 * (j + 1) = at_ + 16 + 16 * j + 16 by omega]
                exact ⟨h1, h2⟩)
              have HMX := Lib.hid (HM4.out.keep HKI.out (fun g hg e => by have h : g = b6 := e; exact (HF2.out g hg).1 h))
              clear hbx HBI HKI HKB HB4 HM4 HD4
              go_wp2
              go_roundw
              case rel => exact ⟨j + 1, _, by omega, by go_num, HNX.out, HBX.out, HRX.out, HMX.out⟩
              case measure => simp [intOf]; omega
      · obtain rfl : j = I.length := by omega
        have HGF := Lib.hid (show rowsGo (restB S at_) I 16 [] = some (16 + 16 * I.length, out) by rw [HGO.out, List.drop_length]; rfl)
        have hrs := refRead_some HLN.out (by rw [HIE.out]; exact HGF.out)
        have HRS := Lib.hid hrs
        have HLI := Lib.hid (fun w => listed_any (inL out) w)
        have hsz2 : (Try.prog.info? 75).map (·.size) = some (boolsL (inL out)).toArray.size := by rw [List.size_toArray, boolsL_len]; exact boolsinfo
        have hg : (_ : World).heap[b6]? = some (.cells (boolsL (inL out)).toArray 75 (0, 0)) := HB.out
        obtain ⟨A2, hA2⟩ : ∃ z, (boolsL (inL out)).toArray = z := ⟨_, rfl⟩
        rw [hA2] at hg hsz2 HLI
        have HSY := Lib.hid (show str (symL (inL out)) = str (out.map UInt8.ofNat) by rw [hrs.1])
        rw [HSY.out] at HLI
        clear hrs hA2
        by_cases ho : out = []
        · have HE := Lib.hid (show refRead (restB S at_) = ([], 0, 25) by rw [HRS.out.2, if_pos ho])
          rw [show str (out.map UInt8.ofNat) = ⟨#[]⟩ by rw [ho]; rfl] at HLI
          clear ho
          go_wp2_with (refine wpList_load_row rfl 75 _ rfl _ rfl _ A2 (0, 0) _ hg Try.underlying75 rfl hsz2 ?_)
          clear hg hsz2
          go_wp2_with fail
          refine (HLI.out _).mono ?_
          rintro e w3 ⟨rfl, hb3⟩
          have HD3 := Lib.hid (HR.out.trans (RDid.same HR.out.1 hb3))
          clear hb3 HLI
          go_wp2
          go_ret2
          exact readP_err HE.out (by decide) HD3.out (by omega)
        · have HE := Lib.hid (show refRead (restB S at_) = (out.map UInt8.ofNat, 16 + 16 * I.length, 0) by rw [HRS.out.2, if_neg ho])
          obtain ⟨q, hq⟩ : ∃ z, str (out.map UInt8.ofNat) = z := ⟨_, rfl⟩
          have HQ := Lib.hid hq
          have hqe : q.toList.isEmpty = false := by rw [← hq, str_toList]; cases out with | nil => exact absurd rfl ho | cons a l => rfl
          rw [hq] at HLI
          clear ho hq
          go_wp2_with (refine wpList_load_row rfl 75 _ rfl _ rfl _ A2 (0, 0) _ hg Try.underlying75 rfl hsz2 ?_)
          clear hg hsz2
          go_wp2_with fail
          refine (HLI.out _).mono ?_
          rintro e w3 ⟨rfl, hb3⟩
          have HD3 := Lib.hid (HR.out.trans (RDid.same HR.out.1 hb3))
          clear hb3 HLI
          go_wp2
          go_ret2
          unfold ReadP
          rw [HE.out]
          exact ⟨by rw [← HQ.out]; rfl, _, HD3.out, by omega, fun _ => by show _ = at_ + (16 + 16 * I.length); omega⟩
end Go.Proofs.Ytbbiohcmfhdmnaa

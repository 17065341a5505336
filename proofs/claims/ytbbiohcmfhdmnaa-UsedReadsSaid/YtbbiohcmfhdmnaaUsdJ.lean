/- balerref05: Read. -/
import Derived.Test.YtbbiohcmfhdmnaaUsdI
namespace Go.Proofs.Ytbbiohcmfhdmnaa
open Go.RowKit

def GotP (all : List Bool) (w : World) (e : Ending) (w' : World) : Prop :=
  (∃ (o : ByteArray) (n : Nat) (er : Int), e = .returned (.agg #[.string o, .int .i64 n, .int .i64 er]) ∧ Hid (o = str (refRead all).1 ∧ n = (refRead all).2.1 ∧ er = (refRead all).2.2)) ∧ Below w.heap.size w w'

theorem got_zero : ∀ w : World, (zeroValue 54).run Try.prog w = .ok (.agg #[.string ⟨#[]⟩, .int .i64 0, .int .i64 0]) w := fun _ => by kernel_rfl

theorem take16_get {all : List Bool} {n k : Nat} {x : Bool} (hx : all[n + k]? = some x) (hk : k < 16) : ((all.drop n).take 16).getD k false = x := by
  rw [List.getD_eq_getElem?_getD, List.getElem?_take_of_lt hk, List.getElem?_drop, hx]
  rfl

set_option maxHeartbeats 4000000 in
set_option maxRecDepth 100000 in
theorem refread05_any (s : ByteArray) (all : List Bool) (w : World) (hs : s = stx all) (hl : all.length ≤ 1000000) :
    Calls Try.prog 40 #[.string s] w (GotP all w) := by
  have hsz : s.size = all.length := by rw [hs, stx_size]
  have HS := Lib.hid hs
  have HZ := Lib.hid hsz
  have hz : s.size ≤ 1000000 := by omega
  have hal := below_alloc w (.cells #[.string ⟨#[]⟩, .int .i64 0, .int .i64 0] 54 (0, 0))
  have HB := Lib.hid hal
  have HBX := Lib.hid (Blk.new w [.string ⟨#[]⟩, .int .i64 0, .int .i64 0] 54)
  have hc0 := HBX.out.cell (i := 0) rfl
  have hc1 := HBX.out.cell (i := 1) rfl
  have hc2 := HBX.out.cell (i := 2) rfl
  have f0 := HBX.out.free 0
  have f1 := HBX.out.free 1
  have f2 := HBX.out.free 2
  have hbl := HBX.out.lt
  by_cases hsh : all.length < 16
  · have HE := Lib.hid (refRead_short hsh)
    have ht : decide ((s.size : Int) < 16) = true := decide_eq_true (by omega)
    clear hs hsz hsh hal
    go_enter Try.func40, Try.ntmps40
    go_wp2
    refine bodyPost_ret (v := .agg #[.string ⟨#[]⟩, .int .i64 (0 : Nat), .int .i64 3]) (by simp [results, Try.results40, go_sem, hbl, hc0, hc1, hc2, f0, f1, f2]) rfl ?_
    refine ⟨⟨_, 0, 3, rfl, ?_⟩, ?_⟩
    · rw [HE.out]; exact ⟨rfl, rfl, rfl⟩
    · exact below_alloc _ _
  · have ht : decide ((s.size : Int) < 16) = false := decide_eq_false (by omega)
    have h16 : 16 ≤ s.size := by omega
    have HL := Lib.hid hsh
    obtain ⟨b0, hb0⟩ : ∃ z, w.heap.size = z := ⟨_, rfl⟩
    have HB0 := Lib.hid hb0
    clear hs hsz hsh hal hc0 hc1 hc2 f0 f1 f2 hbl
    go_enter Try.func40, Try.ntmps40
    rw [hb0] at HB HBX
    go_wp2
    clear hb0
    go_loopw [3, 4, 5, 6, 11, 24] (fun a b _ _ i _ wr => ∃ (j n : Nat) (out : List Nat) (oo : ByteArray), j ≤ 16 ∧ i = .int .i64 j ∧ a = .int .i64 n ∧ n ≤ 16 + 16 * j ∧ out.length ≤ 16 * j ∧ b = .string oo ∧ Hid (oo = str (out.map UInt8.ofNat)) ∧ Hid (rowsGo all (marksL (all.take 16)) 16 [] = rowsGo all (marksFrom (all.take 16) j) n out) ∧ Hid (Below b0 w wr) ∧ Hid (Blk wr b0 [.string ⟨#[]⟩, .int .i64 0, .int .i64 0] 54)) (fun _ _ _ _ i _ _ => 16 - (intOf i).toNat)
    case atStart => exact ⟨0, 16, [], ⟨#[]⟩, by omega, rfl, rfl, by omega, by simp, rfl, rfl, by rw [marksFrom_zero]; exact rfl, HB.out, HBX.out⟩
    case round =>
      obtain ⟨j, n, out, oo, hj, rfl, rfl, hn, hol, rfl, HO, HGO, HBR, HBB⟩ := hrel
      have hoz : oo.size ≤ 256 := by rw [HO.out, str_size, List.length_map]; omega
      by_cases hlt : j < 16
      · have hjs : j < s.size := by omega
        obtain ⟨x, hx⟩ : ∃ x, all[j]? = some x := ⟨_, List.getElem?_eq_getElem (by have := HZ.out; omega)⟩
        have hat := stx_at HS.out hx hjs
        have HMF := Lib.hid (marksFrom_step (r := all.take 16) hlt)
        have hg : (all.take 16).getD j false = x := by rw [List.getD_eq_getElem?_getD, List.getElem?_take_of_lt hlt, hx]; rfl
        rw [hg] at HMF
        clear hx hg
        cases x with
        | false =>
          have hat2 : s[j] = 48 := hat
          have HGN := Lib.hid (show rowsGo all (marksL (all.take 16)) 16 [] = rowsGo all (marksFrom (all.take 16) (j + 1)) n out by rw [HGO.out, HMF.out]; rfl)
          clear hat HMF HGO
          go_wp2
          go_roundw
          case rel => exact ⟨j + 1, n, out, oo, by omega, by go_num, rfl, by omega, by omega, rfl, HO.out, HGN.out, HBR.out, HBB.out⟩
          case measure => simp [intOf]; omega
        | true =>
          have hat2 : s[j] = 49 := hat
          have HGN := Lib.hid (show rowsGo all (marksL (all.take 16)) 16 [] = rowsGo all (j :: marksFrom (all.take 16) (j + 1)) n out by rw [HGO.out, HMF.out]; rfl)
          clear hat HMF HGO
          by_cases hs2 : all.length < n + 16
          · have HE := Lib.hid (show refRead all = ([], 0, 3) from refRead_none (by rw [HGN.out, rowsGo, if_pos hs2]))
            have ht2 : decide ((s.size : Int) < (n : Int) + 16) = true := decide_eq_true (by have := HZ.out; omega)
            have hc0 := HBB.out.cell (i := 0) rfl
            have hc1 := HBB.out.cell (i := 1) rfl
            have hc2 := HBB.out.cell (i := 2) rfl
            have f0 := HBB.out.free 0
            have f1 := HBB.out.free 1
            have f2 := HBB.out.free 2
            have hbl := HBB.out.lt
            clear hs2
            go_wp2
            refine bodyPost_ret (v := .agg #[.string ⟨#[]⟩, .int .i64 (0 : Nat), .int .i64 3]) (by simp [results, Try.results40, go_sem, hbl, hc0, hc1, hc2, f0, f1, f2]) rfl ?_
            refine ⟨⟨_, 0, 3, rfl, ?_⟩, ?_⟩
            · rw [HE.out]; exact ⟨rfl, rfl, rfl⟩
            · rw [HB0.out]; exact ((HBR.out.setCell (p := ⟨b0, 0, none⟩) (Nat.le_refl _) _).setCell (p := ⟨b0, 1, none⟩) (Nat.le_refl _) _).setCell (p := ⟨b0, 2, none⟩) (Nat.le_refl _) _
          · have ht2 : decide ((s.size : Int) < (n : Int) + 16) = false := decide_eq_false (by have := HZ.out; omega)
            have hn16 : n + 16 ≤ s.size := by have := HZ.out; omega
            have HNX := Lib.hid (show rowsGo all (marksL (all.take 16)) 16 [] = rowsGo all (marksFrom (all.take 16) (j + 1)) (n + 16) (out ++ rowOut all n j) by rw [HGN.out, rowsGo, if_neg hs2])
            clear hs2 HGN
            go_wp2
            go_loopw [4, 6, 24] (fun b _ i wi => ∃ (k : Nat) (o2 : ByteArray), k ≤ 16 ∧ i = .int .i64 k ∧ b = .string o2 ∧ Hid (o2 = str ((out ++ (numsL (fun k => ((all.drop n).take 16).getD k false) k).map (16 * j + ·)).map UInt8.ofNat)) ∧ Hid (Below b0 w wi) ∧ Hid (Blk wi b0 [.string ⟨#[]⟩, .int .i64 0, .int .i64 0] 54)) (fun _ _ i _ => 16 - (intOf i).toNat)
            case atStart => exact ⟨0, oo, by omega, rfl, rfl, by show oo = _; rw [HO.out]; simp [numsL], HBR.out, HBB.out⟩
            case round =>
              obtain ⟨k, o2, hk, rfl, rfl, HO2, HBI, HBC⟩ := hrel
              have ho2z : o2.size ≤ 300 := by
                rw [HO2.out, str_size, List.length_map, List.length_append, List.length_map]
                have : (numsL (fun k => ((all.drop n).take 16).getD k false) k).length ≤ k := Nat.le_trans (List.length_filter_le _ _) (by simp)
                omega
              by_cases hlt2 : k < 16
              · obtain ⟨m, hm⟩ : ∃ m : Nat, n + k = m := ⟨_, rfl⟩
                have e1 : (n : Int) + (k : Int) = (m : Int) := by omega
                have hms : m < s.size := by omega
                obtain ⟨x, hx⟩ : ∃ x, all[m]? = some x := ⟨_, List.getElem?_eq_getElem (by have := HZ.out; omega)⟩
                have hat := stx_at HS.out hx hms
                have HNS := Lib.hid (numsL_succ (fun k => ((all.drop n).take 16).getD k false) k)
                rw [← hm] at hx
                rw [show ((all.drop n).take 16).getD k false = x from take16_get hx hlt2] at HNS
                clear hx hm
                obtain ⟨M, hM⟩ : ∃ z, numsL (fun k => ((all.drop n).take 16).getD k false) k = z := ⟨_, rfl⟩
                rw [hM] at HNS HO2
                clear hM
                cases x with
                | false =>
                  have hat2 : s[m] = 48 := hat
                  have HON := Lib.hid (show o2 = str ((out ++ (numsL (fun k => ((all.drop n).take 16).getD k false) (k + 1)).map (16 * j + ·)).map UInt8.ofNat) by rw [HNS.out, if_neg (by decide), List.append_nil]; exact HO2.out)
                  clear hat HNS HO2
                  go_wp2
                  go_roundw
                  case rel => exact ⟨k + 1, _, by omega, by go_num, rfl, HON.out, HBI.out, HBC.out⟩
                  case measure => simp [intOf]; omega
                | true =>
                  have hat2 : s[m] = 49 := hat
                  obtain ⟨q, hq⟩ : ∃ q : Nat, 16 * j + k = q := ⟨_, rfl⟩
                  have e2 : (16 : Int) * (j : Int) + (k : Int) = (q : Int) := by omega
                  have hqm : (q : Int) % 256 = (q : Int) := by omega
                  have hcv := run_one_byte wr q (by omega) _ rfl
                  obtain ⟨d, hd⟩ : ∃ d, str [UInt8.ofNat q] = d := ⟨_, rfl⟩
                  have hdz : d.size ≤ 1 := by rw [← hd, str_size]; exact Nat.le_refl _
                  have HON := Lib.hid (show o2 ++ d = str ((out ++ (numsL (fun k => ((all.drop n).take 16).getD k false) (k + 1)).map (16 * j + ·)).map UInt8.ofNat) by
                    rw [HNS.out, if_pos rfl, HO2.out, ← hd, str_append, ← hq, List.map_append, List.map_append, List.map_append, List.map_append, List.append_assoc]
                    rfl)
                  rw [hd] at hcv
                  have HBA := Lib.hid (HBI.out.trans ((below_alloc wr (Obj.cells #[.int .u8 (q : Int)] 5 (0, 0))).mono (Nat.le_of_lt (Nat.lt_of_le_of_lt (Nat.zero_le _) HBC.out.lt) |> fun _ => Nat.le_of_lt HBC.out.lt)))
                  have HBD := Lib.hid (HBC.out.below (below_alloc wr (Obj.cells #[.int .u8 (q : Int)] 5 (0, 0))))
                  clear hd HNS HO2 hat hq HBI HBC
                  go_wp2
                  go_roundw
                  case rel => exact ⟨k + 1, _, by omega, by go_num, rfl, HON.out, HBA.out, HBD.out⟩
                  case measure => simp [intOf]; omega
              · obtain rfl : k = 16 := by omega
                have HON := Lib.hid (show o2 = str ((out ++ rowOut all n j).map UInt8.ofNat) from HO2.out)
                have hro : (out ++ rowOut all n j).length ≤ 16 * (j + 1) := by
                  unfold rowOut
                  rw [List.length_append, List.length_map]
                  have : (marksL ((all.drop n).take 16)).length ≤ 16 := Nat.le_trans (List.length_filter_le _ _) (by simp)
                  omega
                obtain ⟨O, hO⟩ : ∃ z, out ++ rowOut all n j = z := ⟨_, rfl⟩
                rw [hO] at HON hro HNX
                clear hO HO2 hk hlt2
                go_wp2
                go_roundw
                case rel => exact ⟨j + 1, n + 16, O, o2, by omega, by go_num, by go_num, by omega, by omega, rfl, HON.out, HNX.out, HBI.out, HBC.out⟩
                case measure => simp [intOf]; omega
      · obtain rfl : j = 16 := by omega
        have HRS := Lib.hid (refRead_some HL.out (show rowsGo all (marksL (all.take 16)) 16 [] = some (n, out) by rw [HGO.out, marksFrom_end]; rfl))
        have hc0 := HBB.out.cell (i := 0) rfl
        have hc1 := HBB.out.cell (i := 1) rfl
        have hc2 := HBB.out.cell (i := 2) rfl
        have f0 := HBB.out.free 0
        have f1 := HBB.out.free 1
        have f2 := HBB.out.free 2
        have hbl := HBB.out.lt
        by_cases ho : out = []
        · have HE := Lib.hid (show refRead all = ([], 0, 25) by rw [HRS.out.2, if_pos ho])
          obtain rfl : oo = ⟨#[]⟩ := by rw [HO.out, ho]; rfl
          clear ho HGO HRS
          go_wp2
          refine bodyPost_ret (v := .agg #[.string ⟨#[]⟩, .int .i64 (0 : Nat), .int .i64 25]) (by simp [results, Try.results40, go_sem, hbl, hc0, hc1, hc2, f0, f1, f2]) rfl ?_
          refine ⟨⟨_, 0, 25, rfl, ?_⟩, ?_⟩
          · rw [HE.out]; exact ⟨rfl, rfl, rfl⟩
          · rw [HB0.out]; exact ((HBR.out.setCell (p := ⟨b0, 0, none⟩) (Nat.le_refl _) _).setCell (p := ⟨b0, 1, none⟩) (Nat.le_refl _) _).setCell (p := ⟨b0, 2, none⟩) (Nat.le_refl _) _
        · have HE := Lib.hid (show refRead all = (out.map UInt8.ofNat, n, 0) by rw [HRS.out.2, if_neg ho])
          have hqe : oo.toList.isEmpty = false := by rw [HO.out, str_toList]; cases out with | nil => exact absurd rfl ho | cons a l => rfl
          clear ho HGO HRS
          go_wp2
          refine bodyPost_ret (v := .agg #[.string oo, .int .i64 n, .int .i64 0]) (by simp [results, Try.results40, go_sem, hbl, hc0, hc1, hc2, f0, f1, f2]) rfl ?_
          refine ⟨⟨_, n, 0, rfl, ?_⟩, ?_⟩
          · rw [HE.out]; exact ⟨HO.out, rfl, rfl⟩
          · rw [HB0.out]; exact ((HBR.out.setCell (p := ⟨b0, 0, none⟩) (Nat.le_refl _) _).setCell (p := ⟨b0, 1, none⟩) (Nat.le_refl _) _).setCell (p := ⟨b0, 2, none⟩) (Nat.le_refl _) _
end Go.Proofs.Ytbbiohcmfhdmnaa

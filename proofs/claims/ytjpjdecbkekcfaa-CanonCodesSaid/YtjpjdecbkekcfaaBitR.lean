/- The reference of package bits: bits as texts of 0 and 1. -/
import Derived.Test.YtjpjdecbkekcfaaBitB
namespace Go.Proofs.Ytjpjdecbkekcfaa
open Go.RowKit

/-- bits as a text -/
def stx (l : List Bool) : ByteArray := str (txt l)
theorem stx_size (l : List Bool) : (stx l).size = l.length := by unfold stx; rw [str_size, txt_len]
theorem stx_append (a b : List Bool) : stx a ++ stx b = stx (a ++ b) := by unfold stx; rw [str_append, txt_append]
theorem stx_inj {a b : List Bool} (h : stx a = stx b) : a = b := txt_inj (str_inj h)
theorem stx_extract (l : List Bool) (a b : Nat) : (stx l).extract a b = stx ((l.drop a).take (b - a)) := by
  unfold stx
  rw [str_extract]
  unfold txt
  rw [← List.map_drop, ← List.map_take]
theorem stx_at {s : ByteArray} {l : List Bool} (hs : s = stx l) {i : Nat} {x : Bool} (hx : l[i]? = some x) (h : i < s.size) : s[i] = chB x := by
  have h1 := str_at (l := txt l) hs h
  unfold txt at h1
  rw [List.getElem?_map, hx] at h1
  simpa using h1.symm
theorem ret_int' {k : IntKind} {a b : Nat} (h : a = b) : Ending.returned (.int k (a : Int)) = .returned (.int k (b : Int)) := by rw [h]
theorem ret_str {a b : ByteArray} (h : a = b) : Ending.returned (.string a) = .returned (.string b) := by rw [h]

theorem field_up (v j : Nat) : fieldL v (j + 1) = v.testBit j :: fieldL v j := rfl
theorem testBit_mod (v j : Nat) : v.testBit j = decide (v / 2 ^ j % 2 = 1) := by rw [Nat.testBit_eq_decide_div_mod_eq]
theorem div_step (v j : Nat) : v / 2 ^ j / 2 = v / 2 ^ (j + 1) := by rw [Nat.div_div_eq_div_mul, Nat.pow_succ]

theorem slice_zero : ∀ w : World, (Instr.slice 9 (.string ⟨#[48, 49]⟩) (some (.int .u32 0)) (some (.int .u32 1)) none).run Try.prog w = .ok (.string ⟨#[48]⟩) w := fun _ => by kernel_rfl
theorem slice_one : ∀ w : World, (Instr.slice 9 (.string ⟨#[48, 49]⟩) (some (.int .u32 1)) (some (.int .u32 2)) none).run Try.prog w = .ok (.string ⟨#[49]⟩) w := fun _ => by kernel_rfl

set_option maxHeartbeats 1000000 in
set_option maxRecDepth 100000 in
theorem field_any (v : Nat) (n : Int) (w : World) (hv : v < 4294967296) (hn : n ≤ 1000) :
    Calls Try.prog 20 #[.int .u32 (v : Nat), .int .i64 n] w fun e w' => e = .returned (.string (stx (fieldL v n.toNat))) ∧ w = w' := by
  have hs0 := slice_zero
  have hs1 := slice_one
  go_enter Try.func20, Try.ntmps20
  go_wp2
  go_loop [0, 5, 7] (fun a s i => ∃ (j vj : Nat) (ss : ByteArray), (j : Int) ≤ max n 0 ∧ i = .int .i64 j ∧ Hid (v / 2 ^ j = vj) ∧ vj < 4294967296 ∧ a = .int .u32 (vj : Nat) ∧ s = .string ss ∧ Hid (ss = stx (fieldL v j)) ∧ ss.size ≤ 100000) (fun _ _ i => n.toNat - (intOf i).toNat)
  case atStart => exact ⟨0, v, ⟨#[]⟩, by omega, rfl, by show v / 2 ^ 0 = v; simp, hv, rfl, rfl, rfl, by decide⟩
  case round =>
    obtain ⟨j, vj, ss, hj, rfl, HV, hvj, rfl, rfl, HS, hsz⟩ := hrel
    by_cases hlt : (j : Int) < n
    · have HV2 := Lib.hid (show v / 2 ^ (j + 1) = vj / 2 by rw [← div_step, HV.out])
      have hvj2 : vj / 2 < 4294967296 := by omega
      have HZ := Lib.hid (show ss.size = j by rw [HS.out, stx_size, fieldL_len])
      rcases Nat.mod_two_eq_zero_or_one vj with hm | hm
      · have hmi : (vj : Int) % 2 = 0 := by omega
        have HB := Lib.hid (show stx (fieldL v (j + 1)) = ⟨#[48]⟩ ++ ss by rw [field_up, testBit_mod, HV.out, hm, HS.out]; exact (stx_append [false] _).symm)
        clear hm
        go_wp2
        go_round
        case rel => exact ⟨j + 1, vj / 2, _, by omega, by go_num, HV2.out, hvj2, by go_num, rfl, HB.out.symm, by have := HZ.out; rw [← HB.out, stx_size, fieldL_len]; omega⟩
        case measure => simp [intOf]; omega
      · have hmi : (vj : Int) % 2 = 1 := by omega
        have HB := Lib.hid (show stx (fieldL v (j + 1)) = ⟨#[49]⟩ ++ ss by rw [field_up, testBit_mod, HV.out, hm, HS.out]; exact (stx_append [true] _).symm)
        clear hm
        go_wp2
        go_round
        case rel => exact ⟨j + 1, vj / 2, _, by omega, by go_num, HV2.out, hvj2, by go_num, rfl, HB.out.symm, by have := HZ.out; rw [← HB.out, stx_size, fieldL_len]; omega⟩
        case measure => simp [intOf]; omega
    · have HE := Lib.hid (show n.toNat = j by omega)
      go_wp2
      go_ret
      exact ⟨ret_str (by rw [HE.out]; exact HS.out), rfl⟩

set_option maxHeartbeats 1000000 in
theorem reffits_any (v : Nat) (n : Int) (w : World) (hv : v < 4294967296) :
    Calls Try.prog 48 #[.int .u32 (v : Nat), .int .i64 n] w fun e w' => e = .returned (.bool (fitsB v n)) ∧ w = w' := by
  by_cases h0 : 0 ≤ n
  · by_cases h1 : n ≤ 32
    · obtain ⟨m, rfl⟩ : ∃ m : Nat, n = m := ⟨n.toNat, by omega⟩
      have hres : fitsB v (m : Int) = decide (v < 2 ^ m) := by unfold fitsB; simp; omega
      rw [hres]
      have hd0 : decide ((m : Int) < 0) = false := decide_eq_false (by omega)
      have hd1 : decide ((32 : Int) < (m : Int)) = false := decide_eq_false (by omega)
      clear hres
      go_enter Try.func48, Try.ntmps48
      go_wp2
      go_loop [5, 13] (fun x i => ∃ (j y : Nat), j ≤ m ∧ i = .int .i64 j ∧ x = .int .u64 (y : Nat) ∧ Hid (2 ^ j = y) ∧ y ≤ 4294967296) (fun _ i => m - (intOf i).toNat)
      case atStart => exact ⟨0, 1, Nat.zero_le _, rfl, rfl, rfl, by decide⟩
      case round =>
        obtain ⟨j, y, hj, rfl, rfl, HY, hy⟩ := hrel
        by_cases hlt : j < m
        · have HY2 := Lib.hid (show 2 ^ (j + 1) = 2 * y by rw [Nat.pow_succ, HY.out]; omega)
          have hy2 : 2 * y ≤ 4294967296 := by
            rw [← HY2.out]
            exact Nat.le_trans (Nat.pow_le_pow_right (by decide) (show j + 1 ≤ 32 by omega)) (by decide)
          go_wp2
          go_round
          case rel => exact ⟨j + 1, 2 * y, by omega, by go_num, by go_num, HY2.out, hy2⟩
          case measure => simp [intOf]; omega
        · obtain rfl : j = m := by omega
          go_wp2
          go_ret
          exact ⟨ret_bool (by rw [HY.out]), rfl⟩
    · go_enter Try.func48, Try.ntmps48
      go_wp2
      go_ret
      exact ⟨ret_bool (by unfold fitsB; simp; omega), rfl⟩
  · go_enter Try.func48, Try.ntmps48
    go_wp2
    go_ret
    exact ⟨ret_bool (by unfold fitsB; simp; omega), rfl⟩

set_option maxHeartbeats 1000000 in
set_option maxRecDepth 100000 in
theorem refbits_any (s : ByteArray) (S : List UInt8) (w : World) (hs : s = str S) (hl : S.length ≤ 100000) :
    Calls Try.prog 24 #[.string s] w fun e w' => e = .returned (.string (stx (bitsL S))) ∧ w = w' := by
  have hsz : s.size = S.length := by rw [hs, str_size]
  have HS := Lib.hid hs
  have HZ := Lib.hid hsz
  have hz : s.size ≤ 100000 := by omega
  clear hs hsz
  go_enter Try.func24, Try.ntmps24
  go_wp2
  go_loop [3, 4] (fun a i => ∃ (j : Nat) (ss : ByteArray), j ≤ s.size ∧ i = .int .i64 j ∧ a = .string ss ∧ Hid (ss = stx (bitsL (S.take j))) ∧ ss.size ≤ 800000) (fun _ i => s.size - (intOf i).toNat)
  case atStart => exact ⟨0, ⟨#[]⟩, Nat.zero_le _, rfl, rfl, rfl, by decide⟩
  case round =>
    obtain ⟨j, ss, hj, rfl, rfl, HA, hsz⟩ := hrel
    by_cases hlt : j < s.size
    · have hat := str_at HS.out hlt
      obtain ⟨c, hc⟩ : ∃ c, s[j] = c := ⟨_, rfl⟩
      rw [hc] at hat
      have HN := Lib.hid (show ss ++ stx (fieldL c.toNat 8) = stx (bitsL (S.take (j + 1))) by
        rw [take_snoc hat, bitsL_append, HA.out, stx_append]
        congr 2)
      have HL := Lib.hid (show (bitsL (S.take (j + 1))).length ≤ 800000 by rw [bitsL_len, List.length_take]; omega)
      have hcl : c.toNat < 4294967296 := by have := UInt8.toNat_lt c; omega
      have HF := Lib.hid (field_any c.toNat 8 w hcl (by decide))
      obtain ⟨f, hf⟩ : ∃ f, stx (fieldL c.toNat (8 : Int).toNat) = f := ⟨_, rfl⟩
      have hf8 : f.size = 8 := by rw [← hf, stx_size, fieldL_len]; rfl
      have hf9 : f.size ≤ 8 := by omega
      rw [hf] at HF
      rw [show stx (fieldL c.toNat 8) = f from hf] at HN
      have hcm : ((c.toNat : Nat) : Int) % 4294967296 = ((c.toNat : Nat) : Int) := by omega
      clear hat hf hf8
      go_wp2_with fail
      refine HF.out.mono ?_
      rintro e w1 ⟨rfl, rfl⟩
      clear HF
      go_wp2
      go_round
      case rel => exact ⟨j + 1, _, by omega, by go_num, rfl, HN.out, by rw [HN.out, stx_size]; exact HL.out⟩
      case measure => simp [intOf]; omega
    · obtain rfl : j = s.size := by omega
      go_wp2
      go_ret
      exact ⟨ret_str (by rw [HA.out, HZ.out, List.take_length]), rfl⟩

theorem refnum_any (s : ByteArray) (l : List Bool) (w : World) (hs : s = stx l) (hl : l.length ≤ 32) :
    Calls Try.prog 63 #[.string s] w fun e w' => e = .returned (.int .u32 (numL l : Nat)) ∧ w = w' := by
  have hsz : s.size = l.length := by rw [hs, stx_size]
  have HS := Lib.hid hs
  have HZ := Lib.hid hsz
  have hz : s.size ≤ 32 := by omega
  clear hs hsz
  go_enter Try.func63, Try.ntmps63
  go_wp2
  go_loop [3, 4] (fun a i => ∃ (j v : Nat), j ≤ s.size ∧ i = .int .i64 j ∧ a = .int .u32 (v : Nat) ∧ Hid (v = numL (l.take j))) (fun _ i => s.size - (intOf i).toNat)
  case atStart => exact ⟨0, 0, Nat.zero_le _, rfl, rfl, rfl⟩
  case round =>
    obtain ⟨j, v, hj, rfl, rfl, HA⟩ := hrel
    by_cases hlt : j < s.size
    · have hjl : j < l.length := by have := HZ.out; omega
      obtain ⟨x, hx⟩ : ∃ x, l[j]? = some x := ⟨_, List.getElem?_eq_getElem hjl⟩
      have hat := stx_at HS.out hx hlt
      have HN := Lib.hid (show 2 * v + x.toNat = numL (l.take (j + 1)) by rw [take_snoc hx, numL_snoc, HA.out])
      have hv : v < 2147483648 := by
        have h1 := numL_lt (l.take j)
        rw [← HA.out, List.length_take] at h1
        have : (2 : Nat) ^ (min j l.length) ≤ 2 ^ 31 := Nat.pow_le_pow_right (by decide) (by omega)
        omega
      clear hx
      cases x with
      | true =>
        have hat2 : s[j] = 49 := hat
        clear hat
        go_wp2
        go_round
        case rel => exact ⟨j + 1, 2 * v + 1, by omega, by go_num, by go_num, HN.out⟩
        case measure => simp [intOf]; omega
      | false =>
        have hat2 : s[j] = 48 := hat
        clear hat
        go_wp2
        go_round
        case rel => exact ⟨j + 1, 2 * v + 0, by omega, by go_num, by go_num, HN.out⟩
        case measure => simp [intOf]; omega
    · obtain rfl : j = s.size := by omega
      go_wp2
      go_ret
      exact ⟨ret_int' (by rw [HA.out, HZ.out, List.take_length]), rfl⟩

theorem refpad_any (s : ByteArray) (l : List Bool) (w : World) (hs : s = stx l) (hl : l.length ≤ 100000) :
    Calls Try.prog 62 #[.string s] w fun e w' => e = .returned (.string (stx (padL l))) ∧ w = w' := by
  have HS := Lib.hid hs
  clear hs
  go_enter Try.func62, Try.ntmps62
  go_wp2
  go_loopg [0] ((8 - l.length % 8) % 8) (fun g a wr => ∃ (a2 : List Bool) (ss : ByteArray), w = wr ∧ a = .string ss ∧ Hid (ss = stx a2) ∧ Hid (padL a2 = padL l) ∧ (8 - a2.length % 8) % 8 = g)
  case atStart => exact ⟨l, s, rfl, rfl, HS.out, rfl, rfl⟩
  case round =>
    obtain ⟨a2, ss, rfl, rfl, HA, HP, rfl⟩ := hrel
    have hsz : ss.size = a2.length := by rw [HA.out, stx_size]
    have hln : a2.length ≤ 100007 := by have h1 := padL_len a2; have h2 := padL_len l; rw [HP.out] at h1; omega
    by_cases hz : a2.length % 8 = 0
    · have HPE := Lib.hid (show ss = stx (padL l) by rw [HA.out, ← HP.out, padL_even hz])
      have ht : ((ss.size : Int) % 8 != 0) = false := by rw [hsz]; simp; omega
      clear hz hsz HP HA
      go_wp2
      go_ret
      exact ⟨ret_str HPE.out, rfl⟩
    · have HPE := Lib.hid (show padL (a2 ++ [false]) = padL l by rw [padL_step hz]; exact HP.out)
      have ht : ((ss.size : Int) % 8 != 0) = true := by rw [hsz]; simp; omega
      have HLT := Lib.hid (show (8 - (a2 ++ [false]).length % 8) % 8 < (8 - a2.length % 8) % 8 by rw [List.length_append, List.length_singleton]; omega)
      have HN := Lib.hid (show ss ++ ⟨#[48]⟩ = stx (a2 ++ [false]) by rw [HA.out]; exact stx_append _ [false])
      have hsl : ss.size ≤ 100007 := by omega
      clear hz hsz HP HA
      go_wp2
      go_roundg ((8 - (a2 ++ [false]).length % 8) % 8)
      case rel => exact ⟨a2 ++ [false], _, rfl, rfl, HN.out, HPE.out, rfl⟩
      case measure => exact HLT.out

/-- 'string([]byte{c})' -/
theorem run_one_byte (w : World) (n : Nat) (hn : n < 256) (o : Obj) (ho : o = .cells #[.int .u8 (n : Int)] 5 (0, 0)) :
    (convert 83 9 (.slice (some ⟨w.heap.size, 0, none⟩) 1 1)).run Try.prog (w.alloc o) = .ok (.string (str [UInt8.ofNat n])) (w.alloc o) := by
  subst ho
  have hu : (UInt8.ofNat n).toNat = n := UInt8.toNat_ofNat_of_lt (by simpa using hn)
  have hb : RBytes (w.alloc (.cells #[.int .u8 (n : Int)] 5 (0, 0))) (.slice (some ⟨w.heap.size, 0, none⟩) 1 1) [UInt8.ofNat n] := by
    have h := Blk.new w [.int .u8 (n : Int)] 5
    have h2 := h.reads 1 1 (Nat.le_refl _) (by unfold maxLen; omega)
    unfold RBytes
    have e : bcells [UInt8.ofNat n] = [.int .u8 (n : Int)] := by simp [bcells, u8, hu]
    rw [e]
    exact h2
  exact run_string_of hb _ _ 5 Try.underlying83 Try.underlying5 Try.underlying9

set_option maxHeartbeats 1000000 in
set_option maxRecDepth 100000 in
theorem refbytes_any (s : ByteArray) (l : List Bool) (w : World) (hs : s = stx l) (hl : l.length ≤ 1000000) :
    Calls Try.prog 61 #[.string s] w fun e w' => e = .returned (.string (str (bytesL l))) ∧ Below w.heap.size w w' := by
  have HS := Lib.hid hs
  clear hs
  go_enter Try.func61, Try.ntmps61
  go_wp2
  go_loopg [0, 3] (l.length) (fun g a o wr => ∃ (a2 : List Bool) (ss oo : ByteArray) (done : List UInt8), Below w.heap.size w wr ∧ a = .string ss ∧ o = .string oo ∧ Hid (ss = stx a2) ∧ Hid (oo = str done) ∧ Hid (done ++ bytesL a2 = bytesL l) ∧ a2.length = g)
  case atStart => exact ⟨l, s, ⟨#[]⟩, [], Below.refl _ _, rfl, rfl, HS.out, rfl, rfl, rfl⟩
  case round =>
    obtain ⟨a2, ss, oo, done, hb, rfl, rfl, HA, HO, HD, rfl⟩ := hrel
    have hsz : ss.size = a2.length := by rw [HA.out, stx_size]
    have hdl : done.length + a2.length / 8 = l.length / 8 := by
      have := congrArg List.length HD.out
      rw [List.length_append, bytesL_len, bytesL_len] at this
      exact this
    by_cases hz : a2.length < 8
    · have HE := Lib.hid (show oo = str (bytesL l) by rw [HO.out, ← HD.out, bytesL_short hz, List.append_nil])
      have ht : decide ((8 : Int) ≤ (ss.size : Int)) = false := decide_eq_false (by omega)
      clear hz hsz HD HA HO hdl
      go_wp2
      go_ret
      exact ⟨ret_str HE.out, hb⟩
    · have ht8 : (a2.take 8).length = 8 := by rw [List.length_take]; omega
      have hnl := numL_lt (a2.take 8)
      rw [ht8] at hnl
      have HX := Lib.hid (show ss.extract 0 8 = stx (a2.take 8) by rw [HA.out, stx_extract, List.drop_zero])
      have HR := Lib.hid (show ss.extract 8 ss.size = stx (a2.drop 8) by rw [HA.out, stx_extract, stx_size, List.take_of_length_le (by rw [List.length_drop]; omega)])
      have HNUM := Lib.hid (refnum_any _ (a2.take 8) wr HX.out (by omega))
      have HS2 := Lib.hid (show bytesL a2 = UInt8.ofNat (numL (a2.take 8)) :: bytesL (a2.drop 8) from bytesL_step (by omega))
      obtain ⟨v, hv⟩ : ∃ v, numL (a2.take 8) = v := ⟨_, rfl⟩
      rw [hv] at hnl HNUM HS2
      have hvm : (v : Int) % 256 = (v : Int) := by omega
      have hcv := run_one_byte wr v (by omega) _ rfl
      obtain ⟨d, hd⟩ : ∃ d, str [UInt8.ofNat v] = d := ⟨_, rfl⟩
      have hdz : d.size ≤ 1 := by rw [← hd, str_size]; exact Nat.le_refl _
      have hoz : oo.size ≤ 1000000 := by rw [HO.out, str_size]; omega
      have HO2 := Lib.hid (show oo ++ d = str (done ++ [UInt8.ofNat v]) by rw [HO.out, ← hd, str_append])
      have HD2 := Lib.hid (show (done ++ [UInt8.ofNat v]) ++ bytesL (a2.drop 8) = bytesL l by rw [← HD.out, HS2.out]; simp)
      have HLT := Lib.hid (show (a2.drop 8).length < a2.length by rw [List.length_drop]; omega)
      rw [hd] at hcv
      have ht : decide ((8 : Int) ≤ (ss.size : Int)) = true := decide_eq_true (by omega)
      have ht2 : (8 : Int) ≤ (ss.size : Int) := by omega
      have hb2 := hb.trans ((below_alloc wr (Obj.cells #[.int .u8 (v : Int)] 5 (0, 0))).mono hb.size)
      clear hz hsz HD HA HO HX hv hd HS2 ht8 hdl
      go_wp2_with fail
      refine HNUM.out.mono ?_
      rintro e w2 ⟨rfl, rfl⟩
      clear HNUM
      go_wp2
      go_roundg ((a2.drop 8).length)
      case rel => exact ⟨a2.drop 8, _, _, _, hb2, rfl, rfl, HR.out, HO2.out, HD2.out, rfl⟩
      case measure => exact HLT.out

theorem refpack_any (s : ByteArray) (l : List Bool) (w : World) (hs : s = stx l) (hl : l.length ≤ 99000) :
    Calls Try.prog 35 #[.string s] w fun e w' => e = .returned (.string (str (bytesL (padL l)))) ∧ Below w.heap.size w w' := by
  have HP := Lib.hid (refpad_any s l w hs (by omega))
  have HB := Lib.hid (refbytes_any _ (padL l) w rfl (by rw [padL_len]; omega))
  obtain ⟨p, hp⟩ : ∃ p, stx (padL l) = p := ⟨_, rfl⟩
  rw [hp] at HP HB
  clear hs hp
  go_enter Try.func35, Try.ntmps35
  go_wp2_with fail
  refine HP.out.mono ?_
  rintro e w1 ⟨rfl, rfl⟩
  go_wp2_with fail
  refine HB.out.mono ?_
  rintro e w1 ⟨rfl, hb⟩
  clear HP HB
  go_wp2
  go_ret
  exact ⟨rfl, hb⟩
end Go.Proofs.Ytjpjdecbkekcfaa

/- Package mtf: MtfBack, MtfList. -/
import Derived.Test.YtoebnibhkdidhaaMtfD
import Derived.Test.YtoebnibhkdidhaaRs
namespace Go.Proofs.Ytoebnibhkdidhaa
open Go.RowKit Go.ChangeShapes Go.WideShapes Go.ChangeAt

theorem isL_of_sym {S : List UInt8} (h : S ≠ []) : isL (symL (thereL S)) = true := by
  rw [isL_iff, symL_thereL_symL]
  have : 0 < (symL (thereL S)).length := List.length_pos_iff.2 (fun e => h ((symL_nil_iff S).1 e))
  simp [this]
theorem symL_len (f : Nat → Bool) : (symL f).length ≤ 256 := by
  unfold symL numsL
  rw [List.length_map]
  exact Nat.le_trans (List.length_filter_le _ _) (by simp)
theorem sym_mem {S : List UInt8} {c : UInt8} (h : c ∈ S) : c ∈ symL (thereL S) := by
  have h1 : thereL S c.toNat = true := thereL_mem.2 (List.mem_map.2 ⟨c, h, rfl⟩)
  have h2 : thereL (symL (thereL S)) c.toNat = true := by rw [thereL_symL (UInt8.toNat_lt c)]; exact h1
  obtain ⟨d, hd, e⟩ := List.mem_map.1 (thereL_mem.1 h2)
  rw [← UInt8.toNat_inj.1 e]
  exact hd
/-- what the law asks of places -/
theorem back_plain {S : List UInt8} (h : S ≠ []) : ∃ L : List Nat, encL (symL (thereL S)) S = some L ∧ encE (symL (thereL S)) S = 0 ∧ encV (symL (thereL S)) S = L.map (fun (k : Nat) => (k : Int)) ∧ L.length = S.length ∧
    decE (symL (thereL S)) (L.map (fun (k : Nat) => (k : Int))) = 0 ∧ decV (symL (thereL S)) (L.map (fun (k : Nat) => (k : Int))) = S := by
  obtain ⟨L, hL⟩ := encL_some (o := symL (thereL S)) (s := S) (fun c hc => sym_mem hc)
  have hd := dec_enc hL
  exact ⟨L, hL, (enc_yes hL).1, (enc_yes hL).2, encL_len hL, (dec_yes hd).1, (dec_yes hd).2⟩

set_option maxHeartbeats 1000000 in
set_option maxRecDepth 100000 in
theorem lawMtfBack {s : ByteArray} {w : World} (_hs : s.size ≤ maxLen) :
    Calls Try.prog 5 #[.string s] w fun e w' => e = .returned (.bool true) ∧ Below w.heap.size w w' := by
  have HB := Lib.hid bab_any
  by_cases hz : 300 < s.size
  · have h1 : decide (300 < s.size) = true := decide_eq_true hz
    have h1' := dec_int _ 300 300 rfl _ h1
    clear hz
    go_enter Try.func5, Try.ntmps5
    go_wp2_with fail
    refine (HB.out _).mono ?_
    rintro e w1 ⟨rfl, hb⟩
    go_wp2
    go_ret
    exact ⟨rfl, hb⟩
  have h1 : decide (300 < s.size) = false := decide_eq_false hz
  have h1' := dec_int _ 300 300 rfl _ h1
  obtain ⟨S, hS⟩ : ∃ S, s = str S := ⟨_, str_of s⟩
  have hsl : s.size = S.length := by rw [hS, str_size]
  cases hem : s.toList.isEmpty with
  | true =>
    clear hz hS hsl
    go_enter Try.func5, Try.ntmps5
    go_wp2_with fail
    refine (HB.out _).mono ?_
    rintro e w1 ⟨rfl, hb⟩
    go_wp2
    go_ret
    exact ⟨rfl, hb⟩
  | false =>
    have hne : S ≠ [] := by
      intro e
      rw [hS, str_toList, e] at hem
      cases hem
    have hbad : (s.toList == []) = false := by
      rw [hS, str_toList]
      cases S with
      | nil => exact absurd rfl hne
      | cons a S => rfl
    have hql := symL_len (thereL S)
    have HQS := Lib.hid (fun w => refsym_any s S w hS (by omega))
    obtain ⟨L, hL, hL1, hL2, hL3, hL4, hL5⟩ := back_plain hne
    have his := isL_of_sym hne
    have HE := Lib.hid (fun q w (hq : q = str (symL (thereL S))) => enc_any s q S (symL (thereL S)) w hS hq (by omega) (by omega) his)
    rw [hL1, hL2] at HE
    have HD := Lib.hid (fun v q w hv (hq : q = str (symL (thereL S))) => dec_any v (L.map (fun (k : Nat) => (k : Int))) q (symL (thereL S)) w hv hq (by rw [natI_len]; omega) (by omega) his)
    rw [hL4, hL5, ← hS] at HD
    have HLT := Lib.hid (encL_lt hL)
    have HZE := Lib.hid (enc_zero hL)
    have HML := Lib.hid (show (L.map (fun (k : Nat) => (k : Int))).length = s.size by rw [natI_len, hL3, hsl])
    have HMA := Lib.hid (show ∀ (j : Nat) (x : Int), (L.map (fun (k : Nat) => (k : Int)))[j]? = some x → ∃ k : Nat, x = (k : Int) ∧ L[j]? = some k from fun j x hx => by
      rw [List.getElem?_map] at hx
      cases hk : L[j]? with
      | none => rw [hk] at hx; cases hx
      | some k => rw [hk] at hx; cases hx; exact ⟨k, rfl, rfl⟩)
    obtain ⟨M, hM⟩ : ∃ z, L.map (fun (k : Nat) => (k : Int)) = z := ⟨_, rfl⟩
    rw [hM] at HE HD HML HMA
    have HQZ := Lib.hid (show ∀ k ∈ L, k < (str (symL (thereL S))).size by rw [str_size]; exact HLT.out)
    have HQL := Lib.hid (show (str (symL (thereL S))).size ≤ 256 by rw [str_size]; exact hql)
    have HS := Lib.hid hS
    have HNE := Lib.hid hbad
    obtain ⟨Q, hQ⟩ : ∃ z, str (symL (thereL S)) = z := ⟨_, rfl⟩
    rw [hQ] at HQS HE HD HQZ HQL
    have hss : (s.toList == s.toList) = true := by simp
    have hz300 : s.size ≤ 300 := by omega
    have hzne : ((s.size : Int) != (s.size : Int)) = false := by simp
    clear hz hS hsl hne hql hL hL1 hL2 hL3 hL4 hL5 his hM HLT hQ
    go_enter Try.func5, Try.ntmps5
    go_wp2_with fail
    refine (HQS.out _).mono ?_
    rintro e w1 ⟨rfl, hb1⟩
    have HB1 := Lib.hid hb1
    clear hb1 HQS
    go_wp2_with fail
    refine (HE.out _ _ rfl).mono ?_
    rintro e w2 ⟨v, rfl, hv, hb2⟩
    have HB2 := Lib.hid (below_two HB1.out hb2)
    have HV2 := Lib.hid hv
    obtain ⟨a, cap, hve, hc1, hc2⟩ := hv.shape
    rw [HML.out] at hve hc1
    subst hve
    clear hb2 HE HB1 hv
    go_wp2_with fail
    refine (HD.out _ _ _ HV2.out rfl).mono ?_
    rintro e w3 ⟨rfl, hb3⟩
    have HB3 := Lib.hid (below_two HB2.out hb3)
    have HV3 := Lib.hid (HV2.out.below hb3)
    clear hb3 HD HB2 HV2
    go_wp2
    go_loopw [52] (fun i wr => ∃ j : Nat, j ≤ s.size ∧ i = .int .i64 j ∧ Below w3.heap.size w3 wr) (fun i _ => s.size - (intOf i).toNat)
    case atStart => exact ⟨0, Nat.zero_le _, rfl, Below.refl _ _⟩
    case round =>
      obtain ⟨j, hj, rfl, hbel⟩ := hrel
      by_cases hlt : j < s.size
      · have hvr := HV3.out.below hbel
        obtain ⟨b, off, x, rfl, hbb, hx, hcx, hx1, hx2⟩ := hvr.at hlt
        obtain ⟨k, rfl, hk⟩ := HMA.out j x hx
        have hkq : k < Q.size := HQZ.out k (List.mem_of_getElem? hk)
        have hk256 : k < 256 := by have := HQL.out; omega
        have hat := str_at HS.out hlt
        obtain ⟨c, hc⟩ : ∃ c, s[j] = c := ⟨_, rfl⟩
        rw [hc] at hat
        have hd1 : decide ((k : Int) < 0) = false := decide_eq_false (by omega)
        have hd2 : decide ((Q.size : Int) ≤ (k : Int)) = false := decide_eq_false (by omega)
        have hd3 : decide (Q.size ≤ k) = false := decide_eq_false (by omega)
        have hji : (j : Int) < (s.size : Int) := by omega
        clear hvr hx
        by_cases h0 : j = 0
        · subst h0
          have hd0 : decide ((0 : Int) < ((0 : Nat) : Int)) = false := rfl
          rw [Nat.add_zero] at hcx
          clear hat hk
          go_wp2
          go_quiet (fail)
          go_wp2
          go_roundw
          case rel => exact ⟨0 + 1, by omega, by go_num, hbel.trans (below_of (below_drawn ⟨_, rfl⟩) hbel.size)⟩
          case measure => simp [intOf]; omega
        · have hlt1 : j - 1 < s.size := by omega
          have hat1 := str_at HS.out hlt1
          obtain ⟨d, hd⟩ : ∃ d, s[j - 1] = d := ⟨_, rfl⟩
          rw [hd] at hat1
          have hzc := HZE.out (j - 1) d c k hat1 (by rw [show j - 1 + 1 = j by omega]; exact hat) (by rw [show j - 1 + 1 = j by omega]; exact hk)
          have hj0 : (0 : Int) < (j : Int) := by omega
          have hd0 : decide (0 < j) = true := decide_eq_true (by omega)
          have hd0' : decide ((0 : Int) < (j : Int)) = true := decide_eq_true (by omega)
          have e1 : IntKind.i64.wrap ((j : Int) - 1) = ((j - 1 : Nat) : Int) := by rw [IntWalk.i64_in _ (by omega)]; omega
          have hlt3 : ((j - 1 : Nat) : Int) < (s.size : Int) := by omega
          cases ht : decide (k = 0) with
          | true =>
            have hk0' : ((k : Int) == 0) = true := beq_iff_eq.2 (by have := of_decide_eq_true ht; omega)
            obtain rfl : d = c := hzc.1 (of_decide_eq_true ht)
            have hcc : ((d.toNat : Int) == (d.toNat : Int)) = true := by simp
            clear hat hat1 hk hzc ht
            go_wp2
            go_quiet (fail)
            go_wp2
            go_roundw
            case rel => exact ⟨j + 1, by omega, by go_num, hbel.trans (below_of (below_drawn ⟨_, rfl⟩) hbel.size)⟩
            case measure => simp [intOf]; omega
          | false =>
            have hk0 : ¬ k = 0 := of_decide_eq_false ht
            have hk0' : ((k : Int) == 0) = false := beq_eq_false_iff_ne.2 (by omega)
            have hcc : ((c.toNat : Int) == (d.toNat : Int)) = false := beq_eq_false_iff_ne.2 (fun e => hk0 (hzc.2 (UInt8.toNat_inj.1 (by omega))))
            clear hat hat1 hk hzc ht
            go_wp2
            go_quiet (fail)
            go_wp2
            go_roundw
            case rel => exact ⟨j + 1, by omega, by go_num, hbel.trans (below_of (below_drawn ⟨_, rfl⟩) hbel.size)⟩
            case measure => simp [intOf]; omega
      · obtain rfl : j = s.size := by omega
        have HB4 := Lib.hid (HB3.out.trans (below_of hbel HB3.out.size))
        clear hbel
        go_wp2_with fail
        refine (HB.out _).mono ?_
        rintro e w5 ⟨rfl, hb⟩
        have HB5 := Lib.hid (below_two HB4.out hb)
        clear hb HB4
        go_wp2
        go_ret
        exact ⟨rfl, HB5.out⟩

/-- an act on a list -/
structure OpM where
  at_ : Bool
  b : UInt8
  i : Int
def encM (x : OpM) : List Value := [.bool x.at_, .int .u8 (x.b.toNat : Int), .int .i64 x.i]
def goodM (x : OpM) : Prop := -9223372036854775808 ≤ x.i ∧ x.i ≤ 9223372036854775807

theorem wfu8 {n : Int} (h : (Lit.int .u8 n).wf = true) : 0 ≤ n ∧ n ≤ 255 := by
  have h1 : IntKind.u8.min = 0 := rfl
  have h2 : IntKind.u8.max = 255 := rfl
  simp only [Lit.wf, Bool.and_eq_true, decide_eq_true_eq] at h
  omega

theorem op06_hel {H : Type} {en : TypeId × Value → H} {w : World} (n : Nat) (cs : List Value) (y : DataW H × List MemPlace)
    (h : DataW.trod en Try.prog w 0 (fun _ => true) true n 43 cs = some y) : ∃ x, cs = encM x ∧ goodM x := by
  have c0 : Try.prog.cellsOf 4 = 1 := by kernel_rfl
  have c1 : Try.prog.cellsOf 3 = 1 := by kernel_rfl
  have c3 : Try.prog.cellsOf 5 = 1 := by kernel_rfl
  have c2 : Try.prog.cellsOf 43 = 3 := by kernel_rfl
  obtain ⟨xs, m, _, _, hlen, hxl, hf⟩ := DataW.trod_struct Try.underlying43 h
  rw [c2] at hlen
  have hx3 : xs.length = 3 := hxl
  obtain ⟨_, f0⟩ := fld hf 0 _ rfl 4 0 rfl rfl c0 (by omega)
  obtain ⟨_, f1⟩ := fld hf 1 _ rfl 5 1 rfl rfl c3 (by omega)
  obtain ⟨_, f2⟩ := fld hf 2 _ rfl 3 2 rfl rfl c1 (by omega)
  obtain ⟨k, hk, _⟩ := DataW.trod_bool Try.underlying4 f0
  obtain ⟨t, ht, _, wt⟩ := DataW.trod_int Try.underlying5 f1
  obtain ⟨u, hu, _, wu⟩ := DataW.trod_int Try.underlying3 f2
  have ht0 := wfu8 wt
  have e : t = (((UInt8.ofNat t.toNat).toNat : Nat) : Int) := by rw [ofNat_toNat (by omega)]; omega
  refine ⟨⟨k, UInt8.ofNat t.toNat, u⟩, ?_, wf64 wu⟩
  have := list3 hlen (cells_one hk) (cells_one ht) (cells_one hu)
  rw [this]
  unfold encM
  rw [← e]

set_option maxHeartbeats 4000000 in
set_option maxRecDepth 100000 in
theorem lawMtfList {y : ByteArray} {v : Value} {l : List OpM} {w : World} (_hy : y.size ≤ maxLen) (hv : RS w v l encM 3 goodM) :
    Calls Try.prog 7 #[.string y, v] w fun e w' => e = .returned (.bool true) ∧ Below w.heap.size w w' := by
  have HB := Lib.hid bab_any
  have HV := Lib.hid hv
  obtain ⟨a, cap0, rfl, hc1, hc2⟩ := hv.shape
  clear hv
  rcases long2 y.size l.length 256 60 with (h1 | ⟨h1, h2⟩) | ⟨h1, h2⟩
  · have h1' := dec_int _ 256 256 rfl _ h1
    go_enter Try.func7, Try.ntmps7
    go_wp2_with fail
    refine (HB.out _).mono ?_
    rintro e w1 ⟨rfl, hb⟩
    go_wp2
    go_ret
    exact ⟨rfl, hb⟩
  · have h1' := dec_int _ 256 256 rfl _ h1
    have h2' := dec_int _ 60 60 rfl _ h2
    go_enter Try.func7, Try.ntmps7
    go_wp2_with fail
    refine (HB.out _).mono ?_
    rintro e w1 ⟨rfl, hb⟩
    go_wp2
    go_ret
    exact ⟨rfl, hb⟩
  have hz1 : y.size ≤ 256 := by have := of_decide_eq_false h1; omega
  have hz2 : l.length ≤ 60 := by have := of_decide_eq_false h2; omega
  have h1' := dec_int _ 256 256 rfl _ h1
  have h2' := dec_int _ 60 60 rfl _ h2
  obtain ⟨O, hO⟩ : ∃ S, y = str S := ⟨_, str_of y⟩
  have hol : O.length ≤ 256 := by have := str_size O; rw [← hO] at this; omega
  have HI := Lib.hid (fun w => refis_any y O w hO (by omega))
  cases his : isL O with
  | false =>
    rw [his] at HI
    have HN := Lib.hid (fun w => mnew_no y O w hO his (by omega))
    clear hO his
    go_enter Try.func7, Try.ntmps7
    go_wp2_with fail
    refine (HN.out _).mono ?_
    rintro e w1 ⟨rfl, hb1⟩
    have HB1 := Lib.hid hb1
    clear hb1 HN
    go_wp2_with fail
    refine (HI.out _).mono ?_
    rintro e w2 ⟨rfl, hb⟩
    have HB2 := Lib.hid (below_two HB1.out hb)
    clear hb HI HB1
    go_wp2_with fail
    refine (HB.out _).mono ?_
    rintro e w3 ⟨rfl, hb⟩
    have HB3 := Lib.hid (below_two HB2.out hb)
    clear hb HB2
    go_wp2
    go_ret
    exact ⟨rfl, HB3.out⟩
  | true =>
    rw [his] at HI
    have HN := Lib.hid (fun w => mnew_ok y O w hO his (by omega))
    have HO := Lib.hid hO
    have HOL := Lib.hid (show O.length = y.size by rw [hO, str_size])
    clear hO his hol
    go_enter Try.func7, Try.ntmps7
    go_wp2_with fail
    refine (HN.out _).mono ?_
    rintro e w1 ⟨b, g, cap, rfl, hl1, hbb, hgg, hb1⟩
    have HB1 := Lib.hid hb1
    have HL1 := Lib.hid hl1
    clear hb1 HN hl1
    go_wp2_with fail
    refine (HI.out _).mono ?_
    rintro e w2 ⟨rfl, hb⟩
    have HB2 := Lib.hid (below_two HB1.out hb)
    have HL2 := Lib.hid (HL1.out.below hb)
    clear hb HI HB1 HL1
    go_wp2
    go_loopw [7, 44] (fun q i wr => ∃ (j : Nat) (q' : ByteArray) (ord : List UInt8), j ≤ l.length ∧ i = .int .i64 j ∧ q = .string q' ∧ Hid (q' = str ord) ∧ Hid (ord.length = y.size) ∧ Hid (ListAt wr b g cap ord) ∧ Below w.heap.size w wr) (fun _ i _ => l.length - (intOf i).toNat)
    case atStart => exact ⟨0, _, O, Nat.zero_le _, rfl, rfl, HO.out, HOL.out, HL2.out, HB2.out⟩
    case round =>
      obtain ⟨j, q', ord, hj, rfl, rfl, HQ, HZ, HL, hbel⟩ := hrel
      clear HL2 HB2
      have hql : q'.size ≤ y.size ∧ y.size ≤ q'.size := by rw [HQ.out, str_size, HZ.out]; exact ⟨Nat.le_refl _, Nat.le_refl _⟩
      have hqq : (q'.toList == q'.toList) = true := by simp
      have hqn : (q'.toList != q'.toList) = false := by simp
      have hyn : ((y.size : Int) != (y.size : Int)) = false := by simp
      by_cases hlt : j < l.length
      · obtain ⟨b2, off2, x, rfl, hbb2, hx, hgx, hcx⟩ := (HV.out.below hbel).at hlt
        obtain ⟨xa, xb, xi⟩ := x
        have hc0 : wr.cell? ⟨b2, off2 + j * 3, none⟩ = some (.bool xa) := hcx 0 _ rfl
        have hc1 : wr.cell? ⟨b2, off2 + j * 3 + 1, none⟩ = some (.int .u8 (xb.toNat : Int)) := hcx 1 _ rfl
        have hc2 : wr.cell? ⟨b2, off2 + j * 3 + 2, none⟩ = some (.int .i64 xi) := hcx 2 _ rfl
        clear hx hcx hgx
        have HAL := Lib.hid (below_alloc wr (Obj.cells #[.bool xa, .int .u8 (xb.toNat : Int), .int .i64 xi] 43))
        have HLA := Lib.hid (HL.out.below HAL.out)
        have HBA := Lib.hid (hbel.trans (below_of HAL.out hbel.size))
        have HBX := Lib.hid (Blk.new wr [.bool xa, .int .u8 (xb.toNat : Int), .int .i64 xi] 43)
        have HNB := Lib.hid (show wr.heap.size ≠ b ∧ wr.heap.size ≠ g from ⟨fun e => by have := HL.out.box.lt; omega, fun e => by have := HL.out.lt; omega⟩)
        have HP := Lib.hid (fun w => refplace_any q' ord xb w HQ.out (by rw [HZ.out]; omega))
        clear HL hbel HAL
        cases xa with
        | true =>
          by_cases hbad : xi < 0 ∨ (y.size : Int) ≤ xi
          · have HA := Lib.hid (fun w h => at_no b g cap ord xi w h (by rw [HZ.out]; exact hbad))
            have hor : (xi < 0 ∧ decide (xi < 0) = true) ∨ (decide (xi < 0) = false ∧ decide ((q'.size : Int) ≤ xi) = true) := by
              by_cases h : xi < 0
              · exact .inl ⟨h, decide_eq_true h⟩
              · exact .inr ⟨decide_eq_false h, decide_eq_true (by omega)⟩
            go_wp2_with fail
            refine (HP.out _).mono ?_
            rintro e w3 ⟨rfl, rfl⟩
            clear HP
            have hb2 := HBX.out.cell (i := 2) (x := .int .i64 xi) rfl
            have hb0 := HBX.out.cell (i := 0) (x := .bool true) rfl
            go_wp2_with fail
            refine (HA.out _ HLA.out).mono ?_
            rintro e w3 ⟨rfl, rfl⟩
            clear HA
            clear hbad
            rcases hor with ⟨-, hd⟩ | ⟨hd, hd2⟩
            all_goals
              have HTX := Lib.hid (text_any b g cap ord _ HLA.out)
              rw [← HQ.out] at HTX
              have HLN := Lib.hid (len_any b g cap ord _ HLA.out)
              rw [HZ.out] at HLN
              go_wp2_with fail
              refine HTX.out.mono ?_
              rintro e w4 ⟨rfl, rfl⟩
              go_wp2_with fail
              refine HLN.out.mono ?_
              rintro e w4 ⟨rfl, rfl⟩
              clear HTX HLN
              go_wp2
              go_roundw
              case rel => exact ⟨j + 1, _, _, by omega, by go_num, rfl, HQ.out, HZ.out, HLA.out, HBA.out⟩
              case measure => simp [intOf]; omega
          · obtain ⟨k, rfl⟩ : ∃ k : Nat, xi = k := ⟨xi.toNat, by omega⟩
            have hk : k < ord.length := by have := HZ.out; omega
            have hkq : k < q'.size := by omega
            have hkq2 : (k : Int) < (q'.size : Int) := by omega
            have hgd : ord[k]? = some ord[k] := List.getElem?_eq_getElem hk
            have hchar := str_at HQ.out hkq
            obtain ⟨d, hd⟩ : ∃ d, q'[k] = d := ⟨_, rfl⟩
            rw [hd] at hchar
            have HA := Lib.hid (fun w h => at_ok b g cap ord k d w h hchar (by rw [HZ.out]; omega))
            have HT := Lib.hid (fun w => reftouch_any q' ord k w HQ.out (by rw [HZ.out]; omega) hk)
            have HZ2 := Lib.hid (show (touchL ord k).length = y.size by rw [touchL_len hk, HZ.out])
            have hd1 : decide ((k : Int) < 0) = false := decide_eq_false (by omega)
            have hd2 : decide ((q'.size : Int) ≤ (k : Int)) = false := decide_eq_false (by omega)
            have hd3 : decide (q'.size ≤ k) = false := decide_eq_false (by omega)
            have hd4 : decide ((0 : Int) ≤ (k : Int)) = true := decide_eq_true (by omega)
            have hdd : ((d.toNat : Int) != (d.toNat : Int)) = false := by simp
            clear hbad hgd hchar
            go_wp2_with fail
            refine (HP.out _).mono ?_
            rintro e w3 ⟨rfl, rfl⟩
            clear HP
            have hb2 := HBX.out.cell (i := 2) (x := .int .i64 (k : Int)) rfl
            have hb0 := HBX.out.cell (i := 0) (x := .bool true) rfl
            go_wp2_with fail
            refine (HA.out _ HLA.out).mono ?_
            rintro e w3 ⟨rfl, h3, k3⟩
            have HL3 := Lib.hid h3
            have HBX3 := Lib.hid (HBX.out.keep k3 (fun e => HNB.out.2 e))
            have HB3 := Lib.hid (HBA.out.trans (k3.below (B := w.heap.size) HBA.out.size (fun i hi e => by have h2 : i = g := e; omega)))
            clear HA h3 k3 hb2 hb0 HLA HBA HBX hc0 hc1 hc2
            have hb2 := HBX3.out.cell (i := 2) (x := .int .i64 (k : Int)) rfl
            go_wp2_with fail
            refine (HT.out _).mono ?_
            rintro e w4 ⟨rfl, hb4⟩
            have HL4 := Lib.hid (HL3.out.below hb4)
            have HB4 := Lib.hid (HB3.out.trans (below_of hb4 HB3.out.size))
            have HTX := Lib.hid (text_any b g cap _ _ HL4.out)
            have HLN := Lib.hid (len_any b g cap _ _ HL4.out)
            rw [HZ2.out] at HLN
            obtain ⟨q2, hq2⟩ : ∃ z, str (touchL ord k) = z := ⟨_, rfl⟩
            rw [hq2] at HTX ⊢
            have HQ2 := Lib.hid hq2.symm
            have hqq2 : (q2.toList == q2.toList) = true := by simp
            have hqn2 : (q2.toList != q2.toList) = false := by simp
            clear HT HL3 HB3 hb4 hq2
            go_wp2_with fail
            refine HTX.out.mono ?_
            rintro e w5 ⟨rfl, rfl⟩
            go_wp2_with fail
            refine HLN.out.mono ?_
            rintro e w5 ⟨rfl, rfl⟩
            clear HTX HLN
            go_wp2
            go_roundw
            case rel => exact ⟨j + 1, _, _, by omega, by go_num, rfl, HQ2.out, HZ2.out, HL4.out, HB4.out⟩
            case measure => simp [intOf]; omega
        | false =>
          cases hp : plc ord xb with
          | none =>
            have HA := Lib.hid (fun w h => find_none b g cap ord xb w h hp)
            rw [plcI_none hp] at HP
            clear hp
            go_wp2_with fail
            refine (HP.out _).mono ?_
            rintro e w3 ⟨rfl, rfl⟩
            clear HP
            have hb1 := HBX.out.cell (i := 1) (x := .int .u8 (xb.toNat : Int)) rfl
            have hb0 := HBX.out.cell (i := 0) (x := .bool false) rfl
            go_wp2_with fail
            refine (HA.out _ HLA.out).mono ?_
            rintro e w3 ⟨rfl, rfl⟩
            clear HA
            have HTX := Lib.hid (text_any b g cap ord _ HLA.out)
            rw [← HQ.out] at HTX
            have HLN := Lib.hid (len_any b g cap ord _ HLA.out)
            rw [HZ.out] at HLN
            go_wp2_with fail
            refine HTX.out.mono ?_
            rintro e w4 ⟨rfl, rfl⟩
            go_wp2_with fail
            refine HLN.out.mono ?_
            rintro e w4 ⟨rfl, rfl⟩
            clear HTX HLN
            go_wp2
            go_roundw
            case rel => exact ⟨j + 1, _, _, by omega, by go_num, rfl, HQ.out, HZ.out, HLA.out, HBA.out⟩
            case measure => simp [intOf]; omega
          | some k =>
            have hk : k < ord.length := (plc_some hp).2
            have HA := Lib.hid (fun w h => find_some b g cap ord xb k w h hp (by rw [HZ.out]; omega))
            have HT := Lib.hid (fun w => reftouch_any q' ord k w HQ.out (by rw [HZ.out]; omega) hk)
            have HZ2 := Lib.hid (show (touchL ord k).length = y.size by rw [touchL_len hk, HZ.out])
            have hd1 : decide ((k : Int) < 0) = false := decide_eq_false (by omega)
            have hd4 : decide ((0 : Int) ≤ (k : Int)) = true := decide_eq_true (by omega)
            have hkk : ((k : Int) != (k : Int)) = false := by simp
            rw [plcI_some hp] at HP
            clear hp
            go_wp2_with fail
            refine (HP.out _).mono ?_
            rintro e w3 ⟨rfl, rfl⟩
            clear HP
            have hb1 := HBX.out.cell (i := 1) (x := .int .u8 (xb.toNat : Int)) rfl
            have hb0 := HBX.out.cell (i := 0) (x := .bool false) rfl
            go_wp2_with fail
            refine (HA.out _ HLA.out).mono ?_
            rintro e w3 ⟨rfl, h3, k3⟩
            have HL3 := Lib.hid h3
            have HB3 := Lib.hid (HBA.out.trans (k3.below (B := w.heap.size) HBA.out.size (fun i hi e => by have h2 : i = g := e; omega)))
            clear HA h3 k3 hb1 hb0 HLA HBA HBX hc0 hc1 hc2
            go_wp2_with fail
            refine (HT.out _).mono ?_
            rintro e w4 ⟨rfl, hb4⟩
            have HL4 := Lib.hid (HL3.out.below hb4)
            have HB4 := Lib.hid (HB3.out.trans (below_of hb4 HB3.out.size))
            have HTX := Lib.hid (text_any b g cap _ _ HL4.out)
            have HLN := Lib.hid (len_any b g cap _ _ HL4.out)
            rw [HZ2.out] at HLN
            obtain ⟨q2, hq2⟩ : ∃ z, str (touchL ord k) = z := ⟨_, rfl⟩
            rw [hq2] at HTX ⊢
            have HQ2 := Lib.hid hq2.symm
            have hqq2 : (q2.toList == q2.toList) = true := by simp
            have hqn2 : (q2.toList != q2.toList) = false := by simp
            clear HT HL3 HB3 hb4 hq2
            go_wp2_with fail
            refine HTX.out.mono ?_
            rintro e w5 ⟨rfl, rfl⟩
            go_wp2_with fail
            refine HLN.out.mono ?_
            rintro e w5 ⟨rfl, rfl⟩
            clear HTX HLN
            go_wp2
            go_roundw
            case rel => exact ⟨j + 1, _, _, by omega, by go_num, rfl, HQ2.out, HZ2.out, HL4.out, HB4.out⟩
            case measure => simp [intOf]; omega
      · obtain rfl : j = l.length := by omega
        have HT := Lib.hid (text_any b g cap ord wr HL.out)
        rw [← HQ.out] at HT
        go_wp2_with fail
        refine HT.out.mono ?_
        rintro e w3 ⟨rfl, rfl⟩
        go_wp2_with fail
        refine (HB.out _).mono ?_
        rintro e w3 ⟨rfl, hb⟩
        have HB3 := Lib.hid (below_two hbel hb)
        clear hb hbel
        go_wp2
        go_ret
        exact ⟨rfl, HB3.out⟩
end Go.Proofs.Ytoebnibhkdidhaa

/- Package bits: BitsBack. -/
import Derived.Test.YtbbiohcmfhdmnaaBitE
namespace Go.Proofs.Ytbbiohcmfhdmnaa
open Go.RowKit

/-- the bits of all puts that fit -/
def oneP (o : OpB) : List Bool := if fitsB o.v o.n then fieldL o.v o.n.toNat else []
def putAll (l : List OpB) : List Bool := l.flatMap oneP
theorem putAll_take {l : List OpB} {k : Nat} {x : OpB} (h : l[k]? = some x) : putAll (l.take (k + 1)) = putAll (l.take k) ++ oneP x := by
  unfold putAll
  rw [take_snoc h, List.flatMap_append]
  simp
theorem oneP_len (o : OpB) : (oneP o).length ≤ 32 := by
  unfold oneP
  split
  · rename_i h
    obtain ⟨m, hm, h1, _⟩ := fitsB_yes h
    rw [fieldL_len, hm]
    simpa using h1
  · simp
theorem putAll_len (l : List OpB) : (putAll l).length ≤ 32 * l.length := by
  induction l with
  | nil => simp [putAll]
  | cons a l ih =>
    have : putAll (a :: l) = oneP a ++ putAll l := by simp [putAll]
    rw [this, List.length_append, List.length_cons]
    have := oneP_len a
    omega
theorem putA_one (all : List Bool) (o : OpB) : putA all o.v o.n = all ++ oneP o := by
  unfold putA oneP
  split <;> simp
theorem oneP_yes {o : OpB} (h : fitsB o.v o.n = true) : oneP o = fieldL o.v o.n.toNat := by unfold oneP; rw [h]; rfl
theorem oneP_no {o : OpB} (h : fitsB o.v o.n = false) : oneP o = [] := by unfold oneP; rw [h]; rfl

theorem getBits_of {S : List UInt8} {a m b : List Bool} (h : bitsL S = a ++ (m ++ b)) : getBits S a.length m.length = m := by
  unfold getBits
  rw [h, List.drop_append_of_le_length (Nat.le_refl _), List.drop_length, List.nil_append, List.take_append_of_le_length (Nat.le_refl _), List.take_length]

theorem putAll_split {l : List OpB} {k : Nat} {x : OpB} (h : l[k]? = some x) : putAll l = putAll (l.take k) ++ (oneP x ++ putAll (l.drop (k + 1))) := by
  obtain ⟨hk, rfl⟩ := List.getElem?_eq_some_iff.1 h
  conv => lhs; rw [← List.take_append_drop k l]
  unfold putAll
  rw [List.flatMap_append, List.drop_eq_getElem_cons hk, List.flatMap_cons]
theorem putAll_get {l : List OpB} {k : Nat} {x : OpB} {S : List UInt8} {ALL : List Bool} {m : Nat} (h : l[k]? = some x) (hA : putAll l = ALL) (hS : bitsL S = padL ALL) (ho : oneP x = fieldL x.v m) (hv : x.v < 2 ^ m) :
    numL (getBits S (putAll (l.take k)).length m) = x.v ∧ (putAll (l.take k)).length + m ≤ 8 * S.length := by
  obtain ⟨z, hz, _⟩ := padL_pre ALL
  have hs := putAll_split h
  rw [ho] at hs
  have e : bitsL S = putAll (l.take k) ++ (fieldL x.v m ++ (putAll (l.drop (k + 1)) ++ z)) := by rw [hS, hz, ← hA, hs]; simp
  have g := getBits_of e
  rw [fieldL_len] at g
  refine ⟨by rw [g, numL_field_of hv], ?_⟩
  have := congrArg List.length e
  rw [bitsL_len, List.length_append, List.length_append, fieldL_len] at this
  omega

set_option maxRecDepth 100000 in
set_option maxHeartbeats 4000000 in
theorem lawBitsBack {v : Value} {L : List OpB} {w : World} (hv : RS w v L encO 4 goodO) :
    Calls Try.prog 3 #[v] w fun e w' => e = .returned (.bool true) ∧ Below w.heap.size w w' := by
  have HV := Lib.hid hv
  obtain ⟨a, cap, rfl, hc1, hc2⟩ := hv.shape
  clear hv
  go_enter Try.func3, Try.ntmps3
  go_wp2_with fail
  refine (large_any _ L _ HV.out).mono ?_
  rintro e w1 ⟨r, rfl, hsm, hb1⟩
  cases r with
  | true =>
    clear hsm
    go_wp2_with fail
    refine (five_any _).mono ?_
    rintro e w2 ⟨rfl, hb⟩
    have hb := below_two hb1 hb
    go_wp2
    go_ret
    exact ⟨rfl, hb⟩
  | false =>
    have hlen : L.length ≤ 60 := (hsm rfl).1
    clear hsm
    go_wp2_with fail
    refine (lwnew_any w1 (fun _ => False) w.heap.size hb1.size (nog w1)).mono ?_
    rintro e w2 ⟨b, rfl, -, hw2, hb2⟩
    have hbel2 := hb1.trans (below_of hb2 hb1.size)
    have HW2 := Lib.hid hw2
    clear hw2 hb2
    go_wp2
    go_loopw [4, 6, 18] (fun t p i wr => ∃ (k : Nat) (n : Nat), k ≤ L.length ∧ i = .int .i64 k ∧ t = .int .i64 (n : Int) ∧ n ≤ 32 * k ∧ Hid (n = (putAll (L.take k)).length) ∧ Hid (WLive (fun _ => False) w.heap.size b (putAll (L.take k)) 0 wr) ∧ Below w.heap.size w wr) (fun _ _ i _ => L.length - (intOf i).toNat)
    case atStart => exact ⟨0, 0, Nat.zero_le _, rfl, rfl, Nat.le_refl _, rfl, HW2.out, hbel2⟩
    case round =>
      obtain ⟨k, n, hk, rfl, rfl, hn, HN, HW, hbel⟩ := hrel
      have hsz := hbel.size
      by_cases hlt : k < L.length
      · obtain ⟨b2, off2, x, rfl, hbb2, hx, hgx, hcx⟩ := (HV.out.below hbel).at hlt
        have HX := Lib.hid (putAll_take hx)
        have HP := Lib.hid (putA_one (putAll (L.take k)) x)
        have HY := Lib.hid (fun h => oneP_yes (o := x) h)
        have HNO := Lib.hid (fun h => oneP_no (o := x) h)
        obtain ⟨xk, xn, xv, xs⟩ := x
        have hc0 : wr.cell? ⟨b2, off2 + k * 4, none⟩ = some (.int .i64 xk) := hcx 0 _ rfl
        have hc1 : wr.cell? ⟨b2, off2 + k * 4 + 1, none⟩ = some (.int .i64 xn) := hcx 1 _ rfl
        have hc2 : wr.cell? ⟨b2, off2 + k * 4 + 2, none⟩ = some (.int .u32 (xv : Int)) := hcx 2 _ rfl
        have hc3 : wr.cell? ⟨b2, off2 + k * 4 + 3, none⟩ = some (.string xs) := hcx 3 _ rfl
        obtain ⟨_, ⟨gn1, gn2⟩, gv, _⟩ := hgx
        clear hx hcx
        dsimp only at HP HY HNO gn1 gn2 gv
        have hal := below_alloc wr (Obj.cells #[.int .i64 xk, .int .i64 xn, .int .u32 (xv : Int), .string xs] 29)
        have hW := HW.out.more (G' := fun j => j = wr.heap.size) hal (fun j hj => .inr (by have h : j = wr.heap.size := hj; simp; omega))
        have hbelA := hbel.trans (below_of hal hsz)
        have HPL := Lib.hid (putAll_len (L.take k))
        go_wp2_with fail
        refine (reffits_any xv xn _ gv).mono ?_
        rintro e w3 ⟨rfl, rfl⟩
        cases hf : fitsB xv xn with
        | true =>
          obtain ⟨m, rfl, hm, _⟩ := fitsB_yes hf
          have HO := Lib.hid (HY.out hf)
          have HPE := Lib.hid (show putE xv m = 0 by unfold putE; rw [hf]; rfl)
          have hA : Blk (wr.alloc (Obj.cells #[.int .i64 xk, .int .i64 (m : Int), .int .u32 (xv : Int), .string xs] 29)) wr.heap.size [.int .i64 xk, .int .i64 (m : Int), .int .u32 (xv : Int), .string xs] 29 := Blk.new wr _ _
          have HA := Lib.hid hA
          go_wp2_with fail
          refine (lwput_any _ _ b _ 0 xv m _ hW (by have := HPL.out; rw [List.length_take] at this; omega) gv).mono ?_
          rintro e w4 ⟨rfl, hw4, hk4⟩
          rw [HPE.out]
          rw [HP.out, ← HX.out] at hw4
          have HW4 := Lib.hid (hw4.less (G' := fun _ => False) (fun j h => h.elim))
          have hbel4 := hbelA.trans (zone_below hk4 hbelA.size)
          have hA1 := (HA.out.keep hk4 (fun hz => hz.2 rfl)).cell (i := 1) (x := .int .i64 (m : Int)) rfl
          have HN2 := Lib.hid (show n + m = (putAll (L.take (k + 1))).length by rw [HX.out, List.length_append, ← HN.out, HO.out, fieldL_len, Int.toNat_natCast])
          clear hw4 hk4 hW hbelA hA hf HY HNO HO HP HX hbel hc0 hc1 hc2 hc3
          go_wp2
          go_roundw
          case rel => exact ⟨k + 1, n + m, by omega, by go_num, by go_num, by omega, HN2.out, HW4.out, hbel4⟩
          case measure => simp [intOf]; omega
        | false =>
          have HO := Lib.hid (HNO.out hf)
          have HW4 := Lib.hid (show WLive (fun _ => False) w.heap.size b (putAll (L.take (k + 1))) 0 (wr.alloc (Obj.cells #[.int .i64 xk, .int .i64 xn, .int .u32 (xv : Int), .string xs] 29)) by
            rw [HX.out, HO.out, List.append_nil]
            exact HW.out.below hal)
          have HN2 := Lib.hid (show n = (putAll (L.take (k + 1))).length by rw [HX.out, List.length_append, ← HN.out, HO.out]; rfl)
          clear hW hf HY HNO HO HP HX hbel hc0 hc1 hc2 hc3
          go_wp2
          go_roundw
          case rel => exact ⟨k + 1, n, by omega, by go_num, rfl, by omega, HN2.out, HW4.out, hbelA⟩
          case measure => simp [intOf]; omega
      · obtain rfl : k = L.length := by omega
        have HLL := Lib.hid (putAll_len L)
        have hw := HW.out
        have hnn := HN.out
        rw [List.take_length] at hw hnn
        obtain ⟨ALL, hALL⟩ : ∃ a, putAll L = a := ⟨_, rfl⟩
        have HPA := Lib.hid hALL
        rw [hALL] at hw hnn HLL
        have hal : ALL.length ≤ 1920 := by have := HLL.out; omega
        have HN3 := Lib.hid hnn
        have HWW := Lib.hid hw
        clear hw hnn hALL HW HN
        go_wp2_with fail
        refine (lwpad_any _ _ b _ 0 _ HWW.out (by omega)).mono ?_
        rintro e w3 ⟨rfl, hw3, hk3⟩
        have hbel3 := hbel.trans (zone_below hk3 hbel.size)
        have HW3 := Lib.hid hw3
        clear hw3 hk3
        go_wp2_with fail
        refine (lwtake_any _ _ b _ 0 _ HW3.out).mono ?_
        rintro e w4 ⟨rfl, hw4, hk4⟩
        have hbel4 := hbel3.trans (zone_below hk4 hbel3.size)
        clear hw4 hk4 HW3 HWW hbel3
        rw [List.drop_zero]
        have HPL := Lib.hid (padL_len ALL)
        have HSL := Lib.hid (show (bytesL (padL ALL)).length ≤ 1000 by rw [bytesL_len, padL_len]; omega)
        have HBB := Lib.hid (bitsL_pack ALL)
        obtain ⟨S, hS⟩ : ∃ s, bytesL (padL ALL) = s := ⟨_, rfl⟩
        rw [hS] at HSL HBB ⊢
        obtain ⟨ss, hss⟩ : ∃ s, str S = s := ⟨_, rfl⟩
        have HSS := Lib.hid (show ss.data.toList = S by rw [← hss]; rfl)
        have hsz : ss.size ≤ 1000000 := by rw [← hss, str_size]; have := HSL.out; omega
        rw [hss]
        clear hS hss
        go_wp2_with fail
        refine (rnew_any ss _ hsz).mono ?_
        rintro e w5 ⟨b2, rfl, hb2, hr5, hb5⟩
        have HB2 := Lib.hid (show w.heap.size ≤ b2 by have := hbel4.size; omega)
        rw [HSS.out] at hr5
        have HR5 := Lib.hid hr5
        have hbel5 := hbel4.trans (below_of hb5 hbel4.size)
        clear hb2 hr5 hb5 hbel4 hbel
        go_wp2
        go_loopw [9, 10, 11, 46] (fun p x y i wr => ∃ (k : Nat), k ≤ L.length ∧ i = .int .i64 k ∧ Hid (ReaderAt wr b2 S 0 (putAll (L.take k)).length) ∧ Below w.heap.size w wr) (fun _ _ _ i _ => L.length - (intOf i).toNat)
        case atStart => exact ⟨0, Nat.zero_le _, rfl, HR5.out, hbel5⟩
        case round =>
          obtain ⟨k, hk, rfl, HR, hbel⟩ := hrel
          have hsz := hbel.size
          by_cases hlt : k < L.length
          · obtain ⟨b3, off2, x, rfl, hbb2, hx, hgx, hcx⟩ := (HV.out.below hbel).at hlt
            have HX := Lib.hid (putAll_take hx)
            have HG := Lib.hid (fun (m : Nat) => putAll_get (m := m) hx HPA.out HBB.out)
            have HY := Lib.hid (fun h => oneP_yes (o := x) h)
            have HNO := Lib.hid (fun h => oneP_no (o := x) h)
            obtain ⟨xk, xn, xv, xs⟩ := x
            have hc0 : wr.cell? ⟨b3, off2 + k * 4, none⟩ = some (.int .i64 xk) := hcx 0 _ rfl
            have hc1 : wr.cell? ⟨b3, off2 + k * 4 + 1, none⟩ = some (.int .i64 xn) := hcx 1 _ rfl
            have hc2 : wr.cell? ⟨b3, off2 + k * 4 + 2, none⟩ = some (.int .u32 (xv : Int)) := hcx 2 _ rfl
            have hc3 : wr.cell? ⟨b3, off2 + k * 4 + 3, none⟩ = some (.string xs) := hcx 3 _ rfl
            obtain ⟨_, ⟨gn1, gn2⟩, gv, _⟩ := hgx
            clear hx hcx
            dsimp only at HY HNO gn1 gn2 gv HG
            have hal := below_alloc wr (Obj.cells #[.int .i64 xk, .int .i64 xn, .int .u32 (xv : Int), .string xs] 29)
            have hR := HR.out.below hal
            have hbelA := hbel.trans (below_of hal hsz)
            have hb2l := HR.out.box.lt
            go_wp2_with fail
            refine (reffits_any xv xn _ gv).mono ?_
            rintro e w6 ⟨rfl, rfl⟩
            cases hf : fitsB xv xn with
            | true =>
              obtain ⟨m, rfl, hm, hvm⟩ := fitsB_yes hf
              have HO := Lib.hid (HY.out hf)
              have hg := HG.out m HO.out hvm
              have hA : Blk (wr.alloc (Obj.cells #[.int .i64 xk, .int .i64 (m : Int), .int .u32 (xv : Int), .string xs] 29)) wr.heap.size [.int .i64 xk, .int .i64 (m : Int), .int .u32 (xv : Int), .string xs] 29 := Blk.new wr _ _
              have HA := Lib.hid hA
              have HGG := Lib.hid hg
              clear hg
              go_wp2_with fail
              refine (rget_ok b2 S 0 _ m _ hR hm HGG.out.2).mono ?_
              rintro e w7 ⟨rfl, hr7, hk7⟩
              rw [HGG.out.1]
              have HR7 := Lib.hid (show ReaderAt w7 b2 S 0 (putAll (L.take (k + 1))).length by rw [HX.out, List.length_append, HO.out, fieldL_len, Int.toNat_natCast]; exact hr7)
              have hbel7 := hbelA.trans (hk7.below hbelA.size (fun j hj he => by have h : j = b2 := he; have := HB2.out; omega))
              have hA2 := (HA.out.keep hk7 (fun h => by have h2 : wr.heap.size = b2 := h; omega)).cell (i := 2) (x := .int .u32 (xv : Int)) rfl
              have hvv : ((xv : Int) != (xv : Int)) = false := by simp
              clear hr7 hk7 hR hbelA hA HY HNO HG HO HX hbel hc0 hc1 hc2 hc3 hf
              go_wp2
              go_roundw
              case rel => exact ⟨k + 1, by omega, by go_num, HR7.out, hbel7⟩
              case measure => simp [intOf]; omega
            | false =>
              have HO := Lib.hid (HNO.out hf)
              have HR7 := Lib.hid (show ReaderAt (wr.alloc (Obj.cells #[.int .i64 xk, .int .i64 xn, .int .u32 (xv : Int), .string xs] 29)) b2 S 0 (putAll (L.take (k + 1))).length by
                rw [HX.out, HO.out, List.append_nil]
                exact hR)
              clear hR HY HNO HG HO HX hbel hc0 hc1 hc2 hc3 hf
              go_wp2
              go_roundw
              case rel => exact ⟨k + 1, by omega, by go_num, HR7.out, hbelA⟩
              case measure => simp [intOf]; omega
          · obtain rfl : k = L.length := by omega
            have hr := HR.out
            rw [List.take_length, HPA.out, ← HN3.out] at hr
            have HRR := Lib.hid hr
            have hle : decide (((8 * S.length - n : Nat) : Int) < 8) = true := by
              have h1 := HPL.out
              rw [← HBB.out, bitsL_len] at h1
              have := HN3.out
              exact decide_eq_true (by omega)
            obtain ⟨lf, hlf⟩ : ∃ l, 8 * S.length - n = l := ⟨_, rfl⟩
            have HLF := Lib.hid (rleft_any b2 S 0 n wr HRR.out)
            rw [hlf] at hle HLF
            clear hr HR hlf
            go_wp2_with fail
            refine (rat_any b2 S 0 n _ HRR.out).mono ?_
            rintro e w6 ⟨rfl, rfl⟩
            go_wp2_with fail
            refine HLF.out.mono ?_
            rintro e w6 ⟨rfl, hd⟩
            have hbel6 := hbel.trans (below_of (below_drawn hd) hsz)
            clear hd HLF
            go_wp2_with fail
            refine (five_any _).mono ?_
            rintro e w7 ⟨rfl, hb7⟩
            have hbel7 := hbel6.trans (below_of hb7 hbel6.size)
            clear hb7
            go_wp2
            go_ret
            exact ⟨rfl, hbel7⟩
end Go.Proofs.Ytbbiohcmfhdmnaa

/- Package jobs: the law JobsOnce walked. -/
import Derived.Test.YtmgjmpmcadjemaaJobI
namespace Go.Proofs.Ytmgjmpmcadjemaa
open Go.RowKit

def enc8 (x : LV) : List Value := [.int .i64 x.2]
def enc9 (x : LV) : List Value := encJ x.1
theorem enc8_len : ∀ x : LV, (enc8 x).length = 1 := fun _ => rfl
theorem enc9_len : ∀ x : LV, (enc9 x).length = 4 := fun _ => rfl
theorem enc8_one (x : LV) : ∀ u ∈ enc8 x, u.oneCell' = true := by
  intro u hu
  simp [enc8] at hu
  subst hu; rfl
theorem enc9_one (x : LV) : ∀ u ∈ enc9 x, u.oneCell' = true := by
  intro u hu
  simp [enc9, encJ] at hu
  rcases hu with rfl | rfl | rfl | rfl <;> rfl
theorem flat_snoc {α : Type} (enc : α → List Value) (L : List α) (x : α) : (L ++ [x]).flatMap enc = L.flatMap enc ++ enc x := by rw [List.flatMap_append]; simp
theorem entinfo : (Try.prog.info? 31).map (fun i => (i.zero, i.size, i.bytes)) = some (some (.agg #[.int .i64 0, .int .i64 0, .int .i64 0, .int .i64 0]), 4, 32) := by kernel_rfl

/-- no two jobs of one connection's number, handles in order -/
def Ord (L : List LV) : Prop := L.Pairwise (fun x y => isCI y.1.1 y.1.2.1 x = false) ∧ L.Pairwise (fun x y => x.2 < y.2)
theorem Ord.nil : Ord [] := ⟨List.Pairwise.nil, List.Pairwise.nil⟩
theorem Ord.out {L : List LV} (h : Ord L) (n : Int) : Ord (outL n L) := ⟨h.1.filter _, h.2.filter _⟩
theorem Ord.snoc {L : List LV} (h : Ord L) {c i t n k : Int} (hf : findE c i L = 6) (hk : ∀ x ∈ L, x.2 < k) : Ord (L ++ [((c, i, t, n), k)]) := by
  have hno : ∀ x ∈ L, isCI c i x = false := by
    unfold findE at hf
    cases hq : L.find? (isCI c i) with
    | some x => rw [hq] at hf; cases hf
    | none =>
      rw [List.find?_eq_none] at hq
      intro x hx
      simpa using hq x hx
  refine ⟨?_, ?_⟩
  · rw [List.pairwise_append]
    refine ⟨h.1, by simp, fun x hx y hy => ?_⟩
    rw [List.mem_singleton] at hy
    subst hy
    exact hno x hx
  · rw [List.pairwise_append]
    refine ⟨h.2, by simp, fun x hx y hy => ?_⟩
    rw [List.mem_singleton] at hy
    subst hy
    exact hk x hx
theorem find_at {p : LV → Bool} {L : List LV} {k : Nat} {x : LV} (hx : L[k]? = some x) (hp : p x = true) (hno : ∀ (i : Nat) (y : LV), i < k → L[i]? = some y → p y = false) : L.find? p = some x := (plK_some hx hp hno).2
theorem Ord.find {L : List LV} (h : Ord L) {k : Nat} {x : LV} (hx : L[k]? = some x) : findH x.1.1 x.1.2.1 L = x.2 ∧ findE x.1.1 x.1.2.1 L = 0 ∧ getJ x.2 L = x.1 ∧ getE x.2 L = 0 := by
  obtain ⟨hk, hxe⟩ := List.getElem?_eq_some_iff.1 hx
  have h1 : L.find? (isCI x.1.1 x.1.2.1) = some x := find_at hx (by unfold isCI; simp) (fun i y hi hy => by
    obtain ⟨hil, hye⟩ := List.getElem?_eq_some_iff.1 hy
    have := List.pairwise_iff_getElem.1 h.1 i k hil hk hi
    rw [hxe, hye] at this
    exact this)
  have h2 : L.find? (isH x.2) = some x := find_at hx (by unfold isH; simp) (fun i y hi hy => by
    obtain ⟨hil, hye⟩ := List.getElem?_eq_some_iff.1 hy
    have := List.pairwise_iff_getElem.1 h.2 i k hil hk hi
    rw [hxe, hye] at this
    unfold isH
    exact beq_eq_false_iff_ne.2 (by omega))
  unfold findH findE getJ Go.Proofs.Ytmgjmpmcadjemaa.getE
  rw [h1, h2]
  exact ⟨rfl, rfl, rfl, rfl⟩
theorem outL_take {h : Int} {L : List LV} {j : Nat} {x : LV} (hx : L[j]? = some x) : outL h (L.take (j + 1)) = outL h (L.take j) ++ (if x.2 == h then [] else [x]) := by
  unfold outL
  rw [filter_take hx]
  congr 1
  unfold isH
  cases hh : x.2 == h <;> simp
theorem outL_len (h : Int) (L : List LV) : (outL h L).length ≤ L.length := List.length_filter_le _ _
theorem getE_len {h : Int} {L : List LV} : (getE h L = 0 ∧ (outL h L).length < L.length) ∨ (getE h L = 6 ∧ outL h L = L) := by
  unfold getE outL
  cases hq : L.find? (isH h) with
  | some x =>
    left
    refine ⟨rfl, ?_⟩
    have hx := List.mem_of_find?_eq_some hq
    have hp := List.find?_some hq
    have h1 := List.length_filter_le (fun x => !isH h x) L
    have h2 : (L.filter fun x => !isH h x).length ≠ L.length := by
      intro e
      rw [List.length_filter_eq_length_iff] at e
      have := e x hx
      rw [hp] at this
      cases this
    omega
  | none =>
    right
    refine ⟨rfl, ?_⟩
    rw [List.filter_eq_self]
    intro x hx
    rw [List.find?_eq_none] at hq
    have := hq x hx
    simpa using this
theorem outL_lt {h : Int} {L : List LV} {m : Int} (hm : ∀ x ∈ L, x.2 ≤ m) : ∀ x ∈ outL h L, x.2 ≤ m := fun x hx => hm x (List.mem_filter.1 hx).1

theorem drop_both (B b : Nat) (lim : Int) (last : Nat) (vl : Value) (L : List LV) (n : Int) (w : World) (h : TZ B w b lim last vl L) (hB : B ≤ w.heap.size) (hl : L.length ≤ 1000) :
    Calls Try.prog 12 #[.pointer (some ⟨b, 0, none⟩), .int .i64 n] w fun e w' => e = .returned (.tuple #[.agg (encJ (getJ n L)).toArray, .int .i64 (getE n L)]) ∧ ∃ vl', TZ B w' b lim last vl' (outL n L) ∧ Below B w w' ∧ Keep (JF b vl) w w' ∧ (∀ g, vl'.ownBlock = some g → vl.ownBlock = some g ∨ w.heap.size ≤ g) := by
  rcases getE_len (h := n) (L := L) with ⟨hge, -⟩ | ⟨hge, hgl⟩
  · rw [hge]
    refine (drop_ok b lim last vl L n w h.1 hge hl).mono ?_
    rintro e w' ⟨rfl, hd⟩
    exact ⟨rfl, h.did hB hd⟩
  · rw [hge, hgl]
    refine (drop_no b lim last vl L n w h.1 hge).mono ?_
    rintro e w' ⟨rfl, hb⟩
    exact ⟨rfl, h.did hB (JDid.same h.1 hb)⟩

set_option maxRecDepth 100000 in
set_option maxHeartbeats 40000000 in
theorem lawJobsOnce {limit : Int} {va : Value} {l : List JAct} {w : World} (hq1 : -9223372036854775808 ≤ limit) (hq2 : limit ≤ 9223372036854775807) (hva : RS w va l encA37 6 goodA37) :
    Calls Try.prog 3 #[.int .i64 limit, va] w fun e w' => e = .returned (.bool true) ∧ Below w.heap.size w w' := by
  have HVA := Lib.hid hva
  obtain ⟨a2, cap2, rfl, hc3, hc4⟩ := hva.shape
  clear hva
  by_cases hl : l.length ≤ 60
  · have hll : (l.length : Int) ≤ 60 := by omega
    have hb60 : decide ((60 : Int) < (l.length : Int)) = false := decide_eq_false (by omega)
    by_cases hlim : 1 ≤ limit ∧ limit ≤ 64
    · have hd1 : decide (limit < 1) = false := decide_eq_false (by omega)
      have hd2 : decide (64 < limit) = false := decide_eq_false (by omega)
      have HLIM := Lib.hid hlim
      clear hlim
      go_enter Try.func3, Try.ntmps3
      go_wp2_with fail
      refine (jnew_ok limit w HLIM.out.1 HLIM.out.2).mono ?_
      rintro e w1 ⟨rfl, h1, hb1⟩
      obtain ⟨b, hbn⟩ : ∃ z, w.heap.size = z := ⟨_, rfl⟩
      have HZ1 := Lib.hid (show TZ w.heap.size w1 w.heap.size limit 0 (.slice none 0 0) [] from ⟨h1, fun j hj => by
        rcases hj with rfl | hj
        · exact Nat.le_refl _
        · simp [Value.ownBlock] at hj⟩)
      have HB1 := Lib.hid hb1
      rw [hbn] at HZ1
      have HBN := Lib.hid hbn
      clear h1 hb1
      rw [hbn]
      clear hbn
      go_wp2
      go_loopw [7, 8, 9, 45] (fun la v8 v9 i wr => ∃ (k T : Nat) (L : List LV) (vl : Value), k ≤ l.length ∧ i = .int .i64 k ∧ la = .int .i64 T ∧ T ≤ k ∧ L.length ≤ k ∧ Hid (∀ x ∈ L, x.2 ≤ (T : Int)) ∧ Hid (Ord L) ∧ Hid (TZ b wr b limit T vl L) ∧ Hid (Own wr 3 1 v8 L.length (L.flatMap enc8)) ∧ Hid (Own wr 31 4 v9 L.length (L.flatMap enc9)) ∧ Hid (FreshV b v8 ∧ FreshV b v9) ∧ Hid (∀ g, v8.ownBlock = some g → ¬ JF b vl g) ∧ Hid (∀ g, v9.ownBlock = some g → ¬ JF b vl g) ∧ Hid (∀ g, v8.ownBlock = some g → v9.ownBlock ≠ some g) ∧ b ≤ wr.heap.size ∧ Hid (Below w.heap.size w wr)) (fun _ _ _ i _ => l.length - (intOf i).toNat)
      case atStart => exact ⟨0, 0, [], _, Nat.zero_le _, rfl, rfl, Nat.le_refl _, Nat.le_refl _, fun x hx => (by cases hx), Ord.nil, HZ1.out, Own.nil _ _ _, Own.nil _ _ _, ⟨FreshV.nil _, FreshV.nil _⟩, fun g hg => by simp [Value.ownBlock] at hg, fun g hg => by simp [Value.ownBlock] at hg, fun g hg => by simp [Value.ownBlock] at hg, by have := HB1.out.size; have := HBN.out; omega, HB1.out⟩
      case round =>
        clear HZ1 HB1
        obtain ⟨k, T, L, vl, hk, rfl, rfl, hTk, hLk, HLE, HOR, HZ, H8, H9, HF, HP8, HP9, HP89, hbw, HBW⟩ := hrel
        have hL60 : L.length ≤ 60 := by omega
        by_cases hlt : k < l.length
        · obtain ⟨b2, off, x, rfl, hbb, hx, hgx, hcx⟩ := (HVA.out.below HBW.out).at hlt
          obtain ⟨ad, ah, ac, ai, at_, an⟩ := x
          have c0 : wr.cell? ⟨b2, off + k * 6, none⟩ = some (.bool ad) := hcx 0 _ rfl
          have c1 : wr.cell? ⟨b2, off + k * 6 + 1, none⟩ = some (.int .i64 ah) := hcx 1 _ rfl
          have c2 : wr.cell? ⟨b2, off + k * 6 + 2, none⟩ = some (.int .i64 ac) := hcx 2 _ rfl
          have c3 : wr.cell? ⟨b2, off + k * 6 + 3, none⟩ = some (.int .i64 ai) := hcx 3 _ rfl
          have c4 : wr.cell? ⟨b2, off + k * 6 + 4, none⟩ = some (.int .i64 at_) := hcx 4 _ rfl
          have c5 : wr.cell? ⟨b2, off + k * 6 + 5, none⟩ = some (.int .i64 an) := hcx 5 _ rfl
          have HGX := Lib.hid hgx
          have HAL := Lib.hid (below_alloc wr (.cells #[.bool ad, .int .i64 ah, .int .i64 ac, .int .i64 ai, .int .i64 at_, .int .i64 an] 33 (0, 0)))
          have HA := Lib.hid (Blk.new wr [.bool ad, .int .i64 ah, .int .i64 ac, .int .i64 ai, .int .i64 at_, .int .i64 an] 33)
          obtain ⟨a8, co8, hvo, -, -, -⟩ := Own.reads H8.out
          subst hvo
          obtain ⟨a9, co9, hvo, -, -, -⟩ := Own.reads H9.out
          subst hvo
          have HO8 := Lib.hid (show ∀ g, (Value.slice a8 L.length co8).ownBlock = some g → g < wr.heap.size from Own.lt H8.out)
          have HO9 := Lib.hid (show ∀ g, (Value.slice a9 L.length co9).ownBlock = some g → g < wr.heap.size from Own.lt H9.out)
          clear hx hgx hcx
          have ht1 := (HZ.out.below HAL.out).1
          have HGD := Lib.hid (show ∀ x ∈ L, goodV x from HZ.out.1.good)
          cases ad with
          | true =>
            have HDR := Lib.hid (drop_both b b limit T vl L ah _ (HZ.out.below HAL.out) (by have := HAL.out.size; omega) (by omega))
            have HGE := Lib.hid (getE_len (h := ah) (L := L))
            obtain ⟨fe, hfe⟩ : ∃ z, getE ah L = z := ⟨_, rfl⟩
            obtain ⟨J, hJ⟩ : ∃ z, getJ ah L = z := ⟨_, rfl⟩
            rw [hfe, hJ] at HDR
            rw [hfe] at HGE
            clear hfe hJ
            obtain ⟨xc, xi, xt, xn⟩ := J
            go_wp2_with fail
            refine HDR.out.mono ?_
            rintro e w2 ⟨rfl, vl2, hz2, hbb2, hk2, hg2⟩
            have hred : (encJ (xc, xi, xt, xn)).toArray = #[.int .i64 xc, .int .i64 xi, .int .i64 xt, .int .i64 xn] := rfl
            rw [hred]
            clear hred
            have hal2 := below_alloc w2 (.cells #[.int .i64 xc, .int .i64 xi, .int .i64 xt, .int .i64 xn] 31 (0, 0))
            have hnj : ¬ JF b vl wr.heap.size := fun hjf => by have := HZ.out.lt _ hjf; omega
            have HA2 := Lib.hid ((HA.out.keep hk2 hnj).below hal2)
            have HZ2 := Lib.hid (hz2.below hal2)
            have hbb3 : Below b wr w2 := (HAL.out.mono hbw).trans hbb2
            have hbb4 := hbb3.trans (below_of hal2 (Nat.le_trans hbw hbb3.size))
            have HBW2 := Lib.hid (HBW.out.trans (show Below w.heap.size wr _ by rw [HBN.out]; exact hbb4))
            have HB2 := Lib.hid (Nat.le_trans hbw hbb4.size)
            have H82 := Lib.hid (((H8.out.below HAL.out).keep hk2 HP8.out).below hal2)
            have H92 := Lib.hid (((H9.out.below HAL.out).keep hk2 HP9.out).below hal2)
            have HJ2 := Lib.hid (fun j => show JF b vl2 j → j < _ from fun hj => HZ2.out.lt j hj)
            have HS8 := Lib.hid (rs_of_own (good := fun _ => True) enc8_len H82.out (fun _ _ => trivial))
            have HS9 := Lib.hid (rs_of_own (good := fun _ => True) enc9_len H92.out (fun _ _ => trivial))
            clear hz2 hbb2 hk2 hg2 hal2 hnj hbb3 hbb4 HDR c0 c1 c2 c3 c4 c5 ht1
            go_wp2
            go_loopw [14, 15, 16, 17, 60] (fun v14 v15 _ _ i wj => ∃ (j : Nat), j ≤ L.length ∧ i = .int .i64 j ∧ Hid (Own wj 3 1 v14 (outL ah (L.take j)).length ((outL ah (L.take j)).flatMap enc8)) ∧ Hid (Own wj 31 4 v15 (outL ah (L.take j)).length ((outL ah (L.take j)).flatMap enc9)) ∧ Hid (FreshV (w2.alloc (.cells #[.int .i64 xc, .int .i64 xi, .int .i64 xt, .int .i64 xn] 31 (0, 0))).heap.size v14) ∧ Hid (FreshV (w2.alloc (.cells #[.int .i64 xc, .int .i64 xi, .int .i64 xt, .int .i64 xn] 31 (0, 0))).heap.size v15) ∧ Hid (∀ g, v14.ownBlock = some g → v15.ownBlock ≠ some g) ∧ Hid (Below (w2.alloc (.cells #[.int .i64 xc, .int .i64 xi, .int .i64 xt, .int .i64 xn] 31 (0, 0))).heap.size (w2.alloc (.cells #[.int .i64 xc, .int .i64 xi, .int .i64 xt, .int .i64 xn] 31 (0, 0))) wj)) (fun _ _ _ _ i _ => L.length - (intOf i).toNat)
            case atStart => exact ⟨0, Nat.zero_le _, rfl, Own.nil _ _ _, Own.nil _ _ _, FreshV.nil _, FreshV.nil _, fun g hg => by simp [Value.ownBlock] at hg, Below.refl _ _⟩
            case round =>
              obtain ⟨j, hj, rfl, H14, H15, HF14, HF15, HAP, HBJ⟩ := hrel
              have ca2 := (HA2.out.below HBJ.out).cell (i := 1) (x := .int .i64 ah) rfl
              by_cases hjl : j < L.length
              · obtain ⟨b8, f8, x, rfl, -, hx, -, hc8⟩ := (HS8.out.below HBJ.out).at hjl
                have HT := Lib.hid (outL_take (h := ah) hx)
                have HX := Lib.hid hx
                obtain ⟨⟨yc, yi, yt, yn⟩, yh⟩ := x
                have d8 := hc8 0 (.int .i64 yh) rfl
                rw [Nat.mul_one, Nat.add_zero] at d8
                have hjL : (j : Int) < (L.length : Int) := by omega
                obtain ⟨D, hD⟩ : ∃ z, outL ah (L.take j) = z := ⟨_, rfl⟩
                have HLN := Lib.hid (show D.length < 1000000000 by rw [← hD]; have := outL_len ah (L.take j); rw [List.length_take] at this; omega)
                rw [hD] at HT H14 H15
                obtain ⟨a14, c14, hv14, -, -, -⟩ := Own.reads H14.out
                subst hv14
                obtain ⟨a15, c15, hv15, -, -, -⟩ := Own.reads H15.out
                subst hv15
                have HL15 := Lib.hid (Own.lt H15.out)
                have HSJ := Lib.hid HBJ.out.size
                clear hx hc8 hD
                cases hh : (yh == ah) with
                | true =>
                  have hne : (yh != ah) = false := by simp [bne, hh]
                  have HT2 := Lib.hid (show outL ah (L.take (j + 1)) = D by rw [HT.out, if_pos hh, List.append_nil])
                  have H14b := Lib.hid (show Own _ 3 1 _ (outL ah (L.take (j + 1))).length ((outL ah (L.take (j + 1))).flatMap enc8) by rw [HT2.out]; exact H14.out)
                  have H15b := Lib.hid (show Own _ 31 4 _ (outL ah (L.take (j + 1))).length ((outL ah (L.take (j + 1))).flatMap enc9) by rw [HT2.out]; exact H15.out)
                  clear HT hh
                  go_wp2
                  go_roundw
                  case rel => exact ⟨j + 1, by omega, by go_num, H14b.out, H15b.out, HF14.out, HF15.out, HAP.out, HBJ.out⟩
                  case measure => simp [intOf]; omega
                | false =>
                  have hne : (yh != ah) = true := by simp [bne, hh]
                  have HT2 := Lib.hid (show outL ah (L.take (j + 1)) = D ++ [((yc, yi, yt, yn), yh)] by rw [HT.out, if_neg (by rw [hh]; exact Bool.false_ne_true)])
                  have hown := H14.out
                  have hdl := HLN.out
                  clear HT hh
                  go_wp2_with (at_builtin; refine wpList_append_elem3 _ _ rfl _ _ 28 rfl 3 (.int .i64 0) 1 8 Try.underlying28 intinfo rfl (by decide) _ D.length _ [.int .i64 yh] _ rfl rfl (enc8_one ((yc, yi, yt, yn), yh)) _ (by simp) rfl rfl hown hdl (by decide) ?_)
                  intro v3 w3 hown3 hkeep hfresh
                  have HO3 := Lib.hid (show Own w3 3 1 v3 (outL ah (L.take (j + 1))).length ((outL ah (L.take (j + 1))).flatMap enc8) by rw [HT2.out, flat_snoc, List.length_append]; exact hown3)
                  have HF3 := Lib.hid (show FreshV (w2.alloc (.cells #[.int .i64 xc, .int .i64 xi, .int .i64 xt, .int .i64 xn] 31 (0, 0))).heap.size v3 from fun g hg => (hfresh g hg).elim (HF14.out g) (fun h => by have := HSJ.out; omega))
                  have HB3 := Lib.hid (HBJ.out.trans (hkeep.below HBJ.out.size (fun i hi e => by have := HF14.out _ e; omega)))
                  have HO15 := Lib.hid (H15.out.keep hkeep (fun g hg e => HAP.out g e hg))
                  have HAP3 := Lib.hid (show ∀ g, v3.ownBlock = some g → (Value.slice a15 D.length c15).ownBlock ≠ some g from fun g hg e => (hfresh g hg).elim (fun h => HAP.out g h e) (fun h => by have := HL15.out g e; omega))
                  have HS3 := Lib.hid HB3.out.size
                  have HLV3 := Lib.hid (Own.lt HO3.out)
                  obtain ⟨b9, f9, y, rfl, -, hy, -, hc9⟩ := (HS9.out.below HB3.out).at hjl
                  obtain rfl : y = ((yc, yi, yt, yn), yh) := by have := HX.out; rw [this] at hy; simpa using hy.symm
                  have d0 := hc9 0 (.int .i64 yc) rfl
                  have d1 := hc9 1 (.int .i64 yi) rfl
                  have d2 := hc9 2 (.int .i64 yt) rfl
                  have d3 := hc9 3 (.int .i64 yn) rfl
                  rw [Nat.add_zero] at d0
                  have hown2 := HO15.out
                  obtain ⟨a3, c3', hv3, -, -, -⟩ := Own.reads HO3.out
                  subst hv3
                  clear hown hown3 hkeep hfresh d8 hy hc9 H14 H15 HBJ
                  go_wp2_with (at_builtin; refine wpList_append_elem3 _ _ rfl _ _ 29 rfl 31 (.agg #[.int .i64 0, .int .i64 0, .int .i64 0, .int .i64 0]) 4 32 Try.underlying29 entinfo rfl (by decide) _ D.length _ [.int .i64 yc, .int .i64 yi, .int .i64 yt, .int .i64 yn] _ rfl rfl (enc9_one ((yc, yi, yt, yn), yh)) _ (by simp) rfl rfl hown2 hdl (by decide) ?_)
                  intro v4 w4 hown4 hkeep hfresh
                  have HO4 := Lib.hid (show Own w4 31 4 v4 (outL ah (L.take (j + 1))).length ((outL ah (L.take (j + 1))).flatMap enc9) by rw [HT2.out, flat_snoc, List.length_append]; exact hown4)
                  have HF4 := Lib.hid (show FreshV (w2.alloc (.cells #[.int .i64 xc, .int .i64 xi, .int .i64 xt, .int .i64 xn] 31 (0, 0))).heap.size v4 from fun g hg => (hfresh g hg).elim (HF15.out g) (fun h => by have := HS3.out; omega))
                  have HB4 := Lib.hid (HB3.out.trans (hkeep.below HB3.out.size (fun i hi e => by have := HF15.out _ e; omega)))
                  have HO34 := Lib.hid (HO3.out.keep hkeep (fun g hg e => HAP3.out g hg e))
                  have HAP4 := Lib.hid (show ∀ g, (Value.slice a3 (outL ah (L.take (j + 1))).length c3').ownBlock = some g → v4.ownBlock ≠ some g from fun g hg e => (hfresh g e).elim (fun h => HAP3.out g hg h) (fun h => by have := HLV3.out g hg; omega))
                  clear hown2 hown4 hkeep hfresh d0 d1 d2 d3 hdl
                  go_wp2
                  go_roundw
                  case rel => exact ⟨j + 1, by omega, by go_num, HO34.out, HO4.out, HF3.out, HF4.out, HAP4.out, HB4.out⟩
                  case measure => simp [intOf]; omega
              · obtain rfl : j = L.length := by omega
                have H14b := Lib.hid (show Own _ 3 1 _ (outL ah L).length ((outL ah L).flatMap enc8) by have := H14.out; rwa [List.take_length] at this)
                have H15b := Lib.hid (show Own _ 31 4 _ (outL ah L).length ((outL ah L).flatMap enc9) by have := H15.out; rwa [List.take_length] at this)
                have HLE2 := Lib.hid (outL_lt (h := ah) HLE.out)
                have HOR2 := Lib.hid (HOR.out.out ah)
                have HBW3 := Lib.hid (HBW2.out.trans (below_of HBJ.out HBW2.out.size))
                have HZ3 := Lib.hid (HZ2.out.below HBJ.out)
                have HLL := Lib.hid (outL_len ah L)
                have HB3 := Lib.hid (Nat.le_trans HB2.out HBJ.out.size)
                obtain ⟨L2, hL2⟩ : ∃ z, outL ah L = z := ⟨_, rfl⟩
                rw [hL2] at H14b H15b HLE2 HOR2 HZ3 HLL HGE
                obtain ⟨a14, c14, hv14, -, -, -⟩ := Own.reads H14b.out
                subst hv14
                obtain ⟨a15, c15, hv15, -, -, -⟩ := Own.reads H15b.out
                subst hv15
                have HPA := Lib.hid (show ∀ g, (Value.slice a14 L2.length c14).ownBlock = some g → ¬ JF b vl2 g from fun g hg hj => by have := HF14.out g hg; have := HJ2.out g hj; omega)
                have HPB := Lib.hid (show ∀ g, (Value.slice a15 L2.length c15).ownBlock = some g → ¬ JF b vl2 g from fun g hg hj => by have := HF15.out g hg; have := HJ2.out g hj; omega)
                have HFV := Lib.hid (show FreshV b (.slice a14 L2.length c14) ∧ FreshV b (.slice a15 L2.length c15) from ⟨fun g hg => by have := HF14.out g hg; have := HB2.out; omega, fun g hg => by have := HF15.out g hg; have := HB2.out; omega⟩)
                clear hL2 H14 H15 HF14 HF15 ca2
                rcases HGE.out with ⟨rfl, h⟩ | ⟨rfl, h⟩
                · have hlt2 : (L2.length : Int) < (L.length : Int) := by omega
                  have hlt3 : decide ((L2.length : Int) < (L.length : Int)) = true := decide_eq_true hlt2
                  have hlt4 : decide (L2.length < L.length) = true := decide_eq_true h
                  clear h
                  go_wp2
                  go_roundw
                  case rel => exact ⟨k + 1, T, L2, vl2, by omega, by go_num, rfl, by omega, by have := HLL.out; omega, HLE2.out, HOR2.out, HZ3.out, H14b.out, H15b.out, HFV.out, HPA.out, HPB.out, HAP.out, HB3.out, HBW3.out⟩
                  case measure => simp [intOf]; omega
                · have hlt2 : ¬ (L2.length : Int) < (L.length : Int) := by rw [h]; omega
                  have hlt3 : decide ((L2.length : Int) < (L.length : Int)) = false := decide_eq_false hlt2
                  have hlt4 : decide (L2.length < L.length) = false := decide_eq_false (by rw [h]; omega)
                  clear h
                  go_wp2
                  go_roundw
                  case rel => exact ⟨k + 1, T, L2, vl2, by omega, by go_num, rfl, by omega, by have := HLL.out; omega, HLE2.out, HOR2.out, HZ3.out, H14b.out, H15b.out, HFV.out, HPA.out, HPB.out, HAP.out, HB3.out, HBW3.out⟩
                  case measure => simp [intOf]; omega
          | false =>
            have a2 := HA.out.cell (i := 2) (x := .int .i64 ac) rfl
            have a3 := HA.out.cell (i := 3) (x := .int .i64 ai) rfl
            have a4 := HA.out.cell (i := 4) (x := .int .i64 at_) rfl
            have a5 := HA.out.cell (i := 5) (x := .int .i64 an) rfl
            rcases find_pair (c := ac) (i := ai) HGD.out with ⟨hfe, hfh⟩ | ⟨hfe, hfh⟩
            · have HC := Lib.hid (add_dup b limit T vl L ac ai at_ an _ ht1 hfe)
              clear hfe hfh ht1
              go_wp2_with fail
              refine HC.out.mono ?_
              rintro e w1 ⟨rfl, hq⟩
              clear a2 a3 a4 a5
              have hq2 := below_two HAL.out hq
              have HZc := Lib.hid (HZ.out.below hq2)
              have H8c := Lib.hid (H8.out.below hq2)
              have H9c := Lib.hid (H9.out.below hq2)
              have HBc := Lib.hid (Nat.le_trans hbw hq2.size)
              have HBWc := Lib.hid (HBW.out.trans (below_of hq2 HBW.out.size))
              have HORc := HOR
              have HLEc := HLE
              have HFc := HF
              have HP8c := HP8
              have HP9c := HP9
              have HP89c := HP89
              have HTc := Lib.hid (show T ≤ k + 1 ∧ L.length ≤ k + 1 from ⟨by omega, by omega⟩)
              clear hq hq2 HC c0 c1 c2 c3 c4 c5
              have HS8 := Lib.hid (rs_of_own (good := fun _ => True) enc8_len H8c.out (fun _ _ => trivial))
              have HS9 := Lib.hid (rs_of_own (good := fun _ => True) enc9_len H9c.out (fun _ _ => trivial))
              go_wp2
              go_loopw [20, 21, 22, 23, 24, 25, 115] (fun _ _ _ _ _ _ i wj => ∃ j : Nat, j ≤ L.length ∧ i = .int .i64 j ∧ Hid (Below w1.heap.size w1 wj)) (fun _ _ _ _ _ _ i _ => L.length - (intOf i).toNat)
              case atStart => exact ⟨0, Nat.zero_le _, rfl, Below.refl _ _⟩
              case round =>
                obtain ⟨j, hj, rfl, HBJ⟩ := hrel
                by_cases hjl : j < L.length
                · obtain ⟨b8, f8, x, rfl, -, hx, -, hc8⟩ := (HS8.out.below HBJ.out).at hjl
                  obtain ⟨b9, f9, y, rfl, -, hy, -, hc9⟩ := (HS9.out.below HBJ.out).at hjl
                  obtain rfl : x = y := by rw [hx] at hy; simpa using hy
                  have HFI := Lib.hid (HORc.out.find hx)
                  obtain ⟨⟨yc, yi, yt, yn⟩, yh⟩ := x
                  have HALY := Lib.hid (below_alloc wr (.cells #[.int .i64 yc, .int .i64 yi, .int .i64 yt, .int .i64 yn] 31 (0, 0)))
                  have HFD := Lib.hid (find_any b limit T vl L yc yi _ ((HZc.out.below HBJ.out).below HALY.out).1)
                  have HGT := Lib.hid (fun w h => get_any b limit T vl L yh w h)
                  have p1 := HFI.out.1
                  have p2 := HFI.out.2.1
                  have p3 := HFI.out.2.2.1
                  have p4 := HFI.out.2.2.2
                  dsimp only at p1 p2 p3 p4
                  rw [p1, p2] at HFD
                  rw [p3, p4] at HGT
                  clear p1 p2 p3 p4
                  have HXB := Lib.hid (Blk.new wr [.int .i64 yc, .int .i64 yi, .int .i64 yt, .int .i64 yn] 31)
                  have d8 := hc8 0 (.int .i64 yh) rfl
                  rw [Nat.mul_one, Nat.add_zero] at d8
                  have d0 := hc9 0 (.int .i64 yc) rfl
                  have d1 := hc9 1 (.int .i64 yi) rfl
                  have d2 := hc9 2 (.int .i64 yt) rfl
                  have d3 := hc9 3 (.int .i64 yn) rfl
                  rw [Nat.add_zero] at d0
                  have hjL : (j : Int) < (L.length : Int) := by omega
                  clear hx hy hc8 hc9
                  go_wp2_with fail
                  refine HFD.out.mono ?_
                  rintro e u1 ⟨rfl, hq⟩
                  have HU1 := Lib.hid (below_two HALY.out hq)
                  have e8 := cellB d8 HU1.out
                  have HXB1 := Lib.hid (HXB.out.below hq)
                  clear hq d0 d1 d2 d3 d8 HFD HXB
                  go_wp2_with fail
                  refine (HGT.out _ ((HZc.out.below HBJ.out).below HU1.out).1).mono ?_
                  rintro e u2 ⟨rfl, hq⟩
                  have hred : (encJ (yc, yi, yt, yn)).toArray = #[.int .i64 yc, .int .i64 yi, .int .i64 yt, .int .i64 yn] := rfl
                  rw [hred]
                  clear hred
                  have hal2 := below_alloc u2 (.cells #[.int .i64 yc, .int .i64 yi, .int .i64 yt, .int .i64 yn] 31 (0, 0))
                  have hx2 := (HXB1.out.below hq).below hal2
                  have x0 := hx2.cell (i := 0) (x := .int .i64 yc) rfl
                  have x1 := hx2.cell (i := 1) (x := .int .i64 yi) rfl
                  have x2 := hx2.cell (i := 2) (x := .int .i64 yt) rfl
                  have x3 := hx2.cell (i := 3) (x := .int .i64 yn) rfl
                  have g8 := cellB (cellB e8 hq) hal2
                  have HU2 := Lib.hid (HBJ.out.trans (below_of (below_two (below_two HU1.out hq) hal2) HBJ.out.size))
                  clear e8 hq hal2 hx2 HXB1 HGT
                  go_wp2
                  go_roundw
                  case rel => exact ⟨j + 1, by omega, by go_num, HU2.out⟩
                  case measure => simp [intOf]; omega
                · obtain rfl : j = L.length := by omega
                  have HBWd := Lib.hid (HBWc.out.trans (below_of HBJ.out HBWc.out.size))
                  have HZd := Lib.hid (HZc.out.below HBJ.out)
                  have H8d := Lib.hid (H8c.out.below HBJ.out)
                  have H9d := Lib.hid (H9c.out.below HBJ.out)
                  have HBd := Lib.hid (Nat.le_trans HBc.out HBJ.out.size)
                  go_wp2
                  go_roundw
                  case rel => exact ⟨k + 1, T, L, vl, by omega, by go_num, rfl, by have := HTc.out; omega, by have := HTc.out; omega, HLEc.out, HORc.out, HZd.out, H8d.out, H9d.out, HFc.out, HP8c.out, HP9c.out, HP89c.out, HBd.out, HBWd.out⟩
                  case measure => simp [intOf]; omega
            · by_cases hful : (L.length : Int) = limit
              · have HC := Lib.hid (add_full b limit T vl L ac ai at_ an _ ht1 hfe hful)
                clear hfe hfh ht1 hful
                go_wp2_with fail
                refine HC.out.mono ?_
                rintro e w1 ⟨rfl, hq⟩
                clear a2 a3 a4 a5
                have hq2 := below_two HAL.out hq
                have HZc := Lib.hid (HZ.out.below hq2)
                have H8c := Lib.hid (H8.out.below hq2)
                have H9c := Lib.hid (H9.out.below hq2)
                have HBc := Lib.hid (Nat.le_trans hbw hq2.size)
                have HBWc := Lib.hid (HBW.out.trans (below_of hq2 HBW.out.size))
                have HORc := HOR
                have HLEc := HLE
                have HFc := HF
                have HP8c := HP8
                have HP9c := HP9
                have HP89c := HP89
                have HTc := Lib.hid (show T ≤ k + 1 ∧ L.length ≤ k + 1 from ⟨by omega, by omega⟩)
                clear hq hq2 HC c0 c1 c2 c3 c4 c5
                have HS8 := Lib.hid (rs_of_own (good := fun _ => True) enc8_len H8c.out (fun _ _ => trivial))
                have HS9 := Lib.hid (rs_of_own (good := fun _ => True) enc9_len H9c.out (fun _ _ => trivial))
                go_wp2
                go_loopw [20, 21, 22, 23, 24, 25, 115] (fun _ _ _ _ _ _ i wj => ∃ j : Nat, j ≤ L.length ∧ i = .int .i64 j ∧ Hid (Below w1.heap.size w1 wj)) (fun _ _ _ _ _ _ i _ => L.length - (intOf i).toNat)
                case atStart => exact ⟨0, Nat.zero_le _, rfl, Below.refl _ _⟩
                case round =>
                  obtain ⟨j, hj, rfl, HBJ⟩ := hrel
                  by_cases hjl : j < L.length
                  · obtain ⟨b8, f8, x, rfl, -, hx, -, hc8⟩ := (HS8.out.below HBJ.out).at hjl
                    obtain ⟨b9, f9, y, rfl, -, hy, -, hc9⟩ := (HS9.out.below HBJ.out).at hjl
                    obtain rfl : x = y := by rw [hx] at hy; simpa using hy
                    have HFI := Lib.hid (HORc.out.find hx)
                    obtain ⟨⟨yc, yi, yt, yn⟩, yh⟩ := x
                    have HALY := Lib.hid (below_alloc wr (.cells #[.int .i64 yc, .int .i64 yi, .int .i64 yt, .int .i64 yn] 31 (0, 0)))
                    have HFD := Lib.hid (find_any b limit T vl L yc yi _ ((HZc.out.below HBJ.out).below HALY.out).1)
                    have HGT := Lib.hid (fun w h => get_any b limit T vl L yh w h)
                    have p1 := HFI.out.1
                    have p2 := HFI.out.2.1
                    have p3 := HFI.out.2.2.1
                    have p4 := HFI.out.2.2.2
                    dsimp only at p1 p2 p3 p4
                    rw [p1, p2] at HFD
                    rw [p3, p4] at HGT
                    clear p1 p2 p3 p4
                    have HXB := Lib.hid (Blk.new wr [.int .i64 yc, .int .i64 yi, .int .i64 yt, .int .i64 yn] 31)
                    have d8 := hc8 0 (.int .i64 yh) rfl
                    rw [Nat.mul_one, Nat.add_zero] at d8
                    have d0 := hc9 0 (.int .i64 yc) rfl
                    have d1 := hc9 1 (.int .i64 yi) rfl
                    have d2 := hc9 2 (.int .i64 yt) rfl
                    have d3 := hc9 3 (.int .i64 yn) rfl
                    rw [Nat.add_zero] at d0
                    have hjL : (j : Int) < (L.length : Int) := by omega
                    clear hx hy hc8 hc9
                    go_wp2_with fail
                    refine HFD.out.mono ?_
                    rintro e u1 ⟨rfl, hq⟩
                    have HU1 := Lib.hid (below_two HALY.out hq)
                    have e8 := cellB d8 HU1.out
                    have HXB1 := Lib.hid (HXB.out.below hq)
                    clear hq d0 d1 d2 d3 d8 HFD HXB
                    go_wp2_with fail
                    refine (HGT.out _ ((HZc.out.below HBJ.out).below HU1.out).1).mono ?_
                    rintro e u2 ⟨rfl, hq⟩
                    have hred : (encJ (yc, yi, yt, yn)).toArray = #[.int .i64 yc, .int .i64 yi, .int .i64 yt, .int .i64 yn] := rfl
                    rw [hred]
                    clear hred
                    have hal2 := below_alloc u2 (.cells #[.int .i64 yc, .int .i64 yi, .int .i64 yt, .int .i64 yn] 31 (0, 0))
                    have hx2 := (HXB1.out.below hq).below hal2
                    have x0 := hx2.cell (i := 0) (x := .int .i64 yc) rfl
                    have x1 := hx2.cell (i := 1) (x := .int .i64 yi) rfl
                    have x2 := hx2.cell (i := 2) (x := .int .i64 yt) rfl
                    have x3 := hx2.cell (i := 3) (x := .int .i64 yn) rfl
                    have g8 := cellB (cellB e8 hq) hal2
                    have HU2 := Lib.hid (HBJ.out.trans (below_of (below_two (below_two HU1.out hq) hal2) HBJ.out.size))
                    clear e8 hq hal2 hx2 HXB1 HGT
                    go_wp2
                    go_roundw
                    case rel => exact ⟨j + 1, by omega, by go_num, HU2.out⟩
                    case measure => simp [intOf]; omega
                  · obtain rfl : j = L.length := by omega
                    have HBWd := Lib.hid (HBWc.out.trans (below_of HBJ.out HBWc.out.size))
                    have HZd := Lib.hid (HZc.out.below HBJ.out)
                    have H8d := Lib.hid (H8c.out.below HBJ.out)
                    have H9d := Lib.hid (H9c.out.below HBJ.out)
                    have HBd := Lib.hid (Nat.le_trans HBc.out HBJ.out.size)
                    go_wp2
                    go_roundw
                    case rel => exact ⟨k + 1, T, L, vl, by omega, by go_num, rfl, by have := HTc.out; omega, by have := HTc.out; omega, HLEc.out, HORc.out, HZd.out, H8d.out, H9d.out, HFc.out, HP8c.out, HP9c.out, HP89c.out, HBd.out, HBWd.out⟩
                    case measure => simp [intOf]; omega
              · have HC := Lib.hid (add_ok b limit T vl L ac ai at_ an _ ht1 HGX.out.2 hfe hful (by omega) (by omega))
                have HORn := Lib.hid (HOR.out.snoc (t := at_) (n := an) (k := (T : Int) + 1) hfe (fun x hx => by have := HLE.out x hx; omega))
                have HLEn := Lib.hid (show ∀ x ∈ L ++ [((ac, ai, at_, an), (T : Int) + 1)], x.2 ≤ ((T + 1 : Nat) : Int) from fun x hx => by
                  rcases List.mem_append.1 hx with h | h
                  · have := HLE.out x h; omega
                  · rw [List.mem_singleton.1 h]; show (T : Int) + 1 ≤ _; omega)
                clear hfe hfh ht1 hful
                go_wp2_with fail
                refine HC.out.mono ?_
                rintro e w1 ⟨rfl, hd⟩
                clear a2 a3 a4 a5
                obtain ⟨vl1, hz1, hbb1, hk1, hg1⟩ := (HZ.out.below HAL.out).did (by have := HAL.out.size; omega) hd
                have hnj : ¬ JF b vl wr.heap.size := fun hjf => by have := HZ.out.lt _ hjf; omega
                have HA1 := Lib.hid (HA.out.keep hk1 hnj)
                have HZ1 := Lib.hid hz1
                have hbb2 : Below b wr w1 := (HAL.out.mono hbw).trans hbb1
                have HBW1 := Lib.hid (HBW.out.trans (show Below w.heap.size wr _ by rw [HBN.out]; exact hbb2))
                have H81 := Lib.hid ((H8.out.below HAL.out).keep hk1 HP8.out)
                have H91 := Lib.hid ((H9.out.below HAL.out).keep hk1 HP9.out)
                have HP81 := Lib.hid (apart_did HO8.out HAL.out.size HP8.out hg1)
                have HP91 := Lib.hid (apart_did HO9.out HAL.out.size HP9.out hg1)
                have HN1 := Lib.hid (show wr.heap.size < w1.heap.size ∧ b ≤ w1.heap.size by have := hk1.size; simp at this; omega)
                have hown := H81.out
                have hdb : L.length < 1000000000 := by omega
                have hlt1 : (T : Int) ≤ (T : Int) := Int.le_refl _
                have hlt2 : decide ((T : Int) + 1 ≤ (T : Int)) = false := decide_eq_false (by omega)
                clear hd hz1 hbb1 hk1 hg1 hnj hbb2 HC c0 c1 c2 c3 c4 c5 hlt1
                go_wp2_with (at_builtin; refine wpList_append_elem3 _ _ rfl _ _ 28 rfl 3 (.int .i64 0) 1 8 Try.underlying28 intinfo rfl (by decide) _ L.length _ [.int .i64 ((T : Int) + 1)] _ rfl rfl (enc8_one ((ac, ai, at_, an), (T : Int) + 1)) _ (by simp) rfl rfl hown hdb (by decide) ?_)
                intro v3 w3 hown3 hkeep hfresh
                have hn3 : w1.heap.size ≤ w3.heap.size := hkeep.size
                have H83 := Lib.hid (show Own w3 3 1 v3 (L.length + 1) ((L ++ [((ac, ai, at_, an), (T : Int) + 1)]).flatMap enc8) by rw [flat_snoc]; exact hown3)
                have H93 := Lib.hid (H91.out.keep hkeep (fun g hg e => HP89.out g e hg))
                have HZ3 := Lib.hid (HZ1.out.keep hkeep (fun j hj e => HP81.out j e hj))
                have HA3 := Lib.hid (HA1.out.keep hkeep (fun e => by have := HO8.out _ e; omega))
                have HF3 := Lib.hid (show FreshV b v3 from fun g hg => (hfresh g hg).elim (HF.out.1 g) (fun h => by have := HN1.out.2; omega))
                have HP83 := Lib.hid (show ∀ g, v3.ownBlock = some g → ¬ JF b vl1 g from fun g hg => (hfresh g hg).elim (HP81.out g) (fun h hj => by have := HZ1.out.lt g hj; omega))
                have HP893 := Lib.hid (show ∀ g, v3.ownBlock = some g → (Value.slice a9 L.length co9).ownBlock ≠ some g from fun g hg e => (hfresh g hg).elim (fun h => HP89.out g h e) (fun h => by have := HO9.out g e; have := HN1.out.1; omega))
                have HBW3 := Lib.hid (HBW1.out.trans (hkeep.below (B := w.heap.size) HBW1.out.size (fun j hj e => by have := HF.out.1 _ e; have := HBN.out; omega)))
                have HL3 := Lib.hid (Own.lt H83.out)
                obtain ⟨a3', co3, hv3, -, -, -⟩ := Own.reads hown3
                subst hv3
                have a2 := HA3.out.cell (i := 2) (x := .int .i64 ac) rfl
                have a3 := HA3.out.cell (i := 3) (x := .int .i64 ai) rfl
                have a4 := HA3.out.cell (i := 4) (x := .int .i64 at_) rfl
                have a5 := HA3.out.cell (i := 5) (x := .int .i64 an) rfl
                have hown := H93.out
                clear hown3 hkeep hfresh HA1 HBW1 H81 H91 HZ1
                go_wp2_with (at_builtin; refine wpList_append_elem3 _ _ rfl _ _ 29 rfl 31 (.agg #[.int .i64 0, .int .i64 0, .int .i64 0, .int .i64 0]) 4 32 Try.underlying29 entinfo rfl (by decide) _ L.length _ [.int .i64 ac, .int .i64 ai, .int .i64 at_, .int .i64 an] _ rfl rfl (enc9_one ((ac, ai, at_, an), (T : Int) + 1)) _ (by simp) rfl rfl hown hdb (by decide) ?_)
                intro v4 w4 hown4 hkeep hfresh
                have hn4 : w3.heap.size ≤ w4.heap.size := hkeep.size
                have H9q := Lib.hid (show Own w4 31 4 v4 (L.length + 1) ((L ++ [((ac, ai, at_, an), (T : Int) + 1)]).flatMap enc9) by rw [flat_snoc]; exact hown4)
                have H8q := Lib.hid (H83.out.keep hkeep (fun g hg e => HP893.out g hg e))
                have HZc := Lib.hid (HZ3.out.keep hkeep (fun j hj e => HP91.out j e hj))
                have HFc := Lib.hid (show FreshV b (.slice a3' (L.length + 1) co3) ∧ FreshV b v4 from ⟨HF3.out, fun g hg => (hfresh g hg).elim (HF.out.2 g) (fun h => by have := HN1.out.2; omega)⟩)
                have HP8c := HP83
                have HP9c := Lib.hid (show ∀ g, v4.ownBlock = some g → ¬ JF b vl1 g from fun g hg => (hfresh g hg).elim (HP91.out g) (fun h hj => by have := HZ3.out.lt g hj; omega))
                have HP89c := Lib.hid (show ∀ g, (Value.slice a3' (L.length + 1) co3).ownBlock = some g → v4.ownBlock ≠ some g from fun g hg e => (hfresh g e).elim (fun h => HP893.out g hg h) (fun h => by have := HL3.out g hg; omega))
                have HBWc := Lib.hid (HBW3.out.trans (hkeep.below (B := w.heap.size) HBW3.out.size (fun j hj e => by have := HF.out.2 _ e; have := HBN.out; omega)))
                have HBc := Lib.hid (show b ≤ w4.heap.size by have := HN1.out.2; omega)
                have HTc := Lib.hid (show T + 1 ≤ k + 1 ∧ L.length + 1 ≤ k + 1 from ⟨by omega, by omega⟩)
                obtain ⟨a4', co4, hv4, -, -, -⟩ := Own.reads hown4
                subst hv4
                obtain ⟨M, hM⟩ : ∃ z, L ++ [((ac, ai, at_, an), (T : Int) + 1)] = z := ⟨_, rfl⟩
                have hML : L.length + 1 = M.length := by rw [← hM]; simp
                have hM61 : M.length ≤ 61 := by omega
                rw [hM] at H8q H9q HZc HORn HLEn
                have H8c := Lib.hid (show Own w4 3 1 (.slice a3' (L.length + 1) co3) M.length (M.flatMap enc8) by rw [← hML]; exact H8q.out)
                have H9c := Lib.hid (show Own w4 31 4 (.slice a4' (L.length + 1) co4) M.length (M.flatMap enc9) by rw [← hML]; exact H9q.out)
                have HORc := HORn
                have HLEc := HLEn
                rw [hML] at HTc H8c H9c HFc HP8c HP89c HP9c
                rw [hML]
                clear hown hdb hown4 hkeep hfresh hM hML a2 a3 a4 a5 HBW3 HZ3 H83 H93 HA3 hn3 hn4 H8q H9q
                have HS8 := Lib.hid (rs_of_own (good := fun _ => True) enc8_len H8c.out (fun _ _ => trivial))
                have HS9 := Lib.hid (rs_of_own (good := fun _ => True) enc9_len H9c.out (fun _ _ => trivial))
                go_wp2
                go_loopw [20, 21, 22, 23, 24, 25, 115] (fun _ _ _ _ _ _ i wj => ∃ j : Nat, j ≤ M.length ∧ i = .int .i64 j ∧ Hid (Below w4.heap.size w4 wj)) (fun _ _ _ _ _ _ i _ => M.length - (intOf i).toNat)
                case atStart => exact ⟨0, Nat.zero_le _, rfl, Below.refl _ _⟩
                case round =>
                  obtain ⟨j, hj, rfl, HBJ⟩ := hrel
                  by_cases hjl : j < M.length
                  · obtain ⟨b8, f8, x, rfl, -, hx, -, hc8⟩ := (HS8.out.below HBJ.out).at hjl
                    obtain ⟨b9, f9, y, rfl, -, hy, -, hc9⟩ := (HS9.out.below HBJ.out).at hjl
                    obtain rfl : x = y := by rw [hx] at hy; simpa using hy
                    have HFI := Lib.hid (HORc.out.find hx)
                    obtain ⟨⟨yc, yi, yt, yn⟩, yh⟩ := x
                    have HALY := Lib.hid (below_alloc wr (.cells #[.int .i64 yc, .int .i64 yi, .int .i64 yt, .int .i64 yn] 31 (0, 0)))
                    have HFD := Lib.hid (find_any b limit (T + 1) vl1 M yc yi _ ((HZc.out.below HBJ.out).below HALY.out).1)
                    have HGT := Lib.hid (fun w h => get_any b limit (T + 1) vl1 M yh w h)
                    have p1 := HFI.out.1
                    have p2 := HFI.out.2.1
                    have p3 := HFI.out.2.2.1
                    have p4 := HFI.out.2.2.2
                    dsimp only at p1 p2 p3 p4
                    rw [p1, p2] at HFD
                    rw [p3, p4] at HGT
                    clear p1 p2 p3 p4
                    have HXB := Lib.hid (Blk.new wr [.int .i64 yc, .int .i64 yi, .int .i64 yt, .int .i64 yn] 31)
                    have d8 := hc8 0 (.int .i64 yh) rfl
                    rw [Nat.mul_one, Nat.add_zero] at d8
                    have d0 := hc9 0 (.int .i64 yc) rfl
                    have d1 := hc9 1 (.int .i64 yi) rfl
                    have d2 := hc9 2 (.int .i64 yt) rfl
                    have d3 := hc9 3 (.int .i64 yn) rfl
                    rw [Nat.add_zero] at d0
                    have hjL : (j : Int) < (M.length : Int) := by omega
                    clear hx hy hc8 hc9
                    go_wp2_with fail
                    refine HFD.out.mono ?_
                    rintro e u1 ⟨rfl, hq⟩
                    have HU1 := Lib.hid (below_two HALY.out hq)
                    have e8 := cellB d8 HU1.out
                    have HXB1 := Lib.hid (HXB.out.below hq)
                    clear hq d0 d1 d2 d3 d8 HFD HXB
                    go_wp2_with fail
                    refine (HGT.out _ ((HZc.out.below HBJ.out).below HU1.out).1).mono ?_
                    rintro e u2 ⟨rfl, hq⟩
                    have hred : (encJ (yc, yi, yt, yn)).toArray = #[.int .i64 yc, .int .i64 yi, .int .i64 yt, .int .i64 yn] := rfl
                    rw [hred]
                    clear hred
                    have hal2 := below_alloc u2 (.cells #[.int .i64 yc, .int .i64 yi, .int .i64 yt, .int .i64 yn] 31 (0, 0))
                    have hx2 := (HXB1.out.below hq).below hal2
                    have x0 := hx2.cell (i := 0) (x := .int .i64 yc) rfl
                    have x1 := hx2.cell (i := 1) (x := .int .i64 yi) rfl
                    have x2 := hx2.cell (i := 2) (x := .int .i64 yt) rfl
                    have x3 := hx2.cell (i := 3) (x := .int .i64 yn) rfl
                    have g8 := cellB (cellB e8 hq) hal2
                    have HU2 := Lib.hid (HBJ.out.trans (below_of (below_two (below_two HU1.out hq) hal2) HBJ.out.size))
                    clear e8 hq hal2 hx2 HXB1 HGT
                    go_wp2
                    go_roundw
                    case rel => exact ⟨j + 1, by omega, by go_num, HU2.out⟩
                    case measure => simp [intOf]; omega
                  · obtain rfl : j = M.length := by omega
                    have HBWd := Lib.hid (HBWc.out.trans (below_of HBJ.out HBWc.out.size))
                    have HZd := Lib.hid (HZc.out.below HBJ.out)
                    have H8d := Lib.hid (H8c.out.below HBJ.out)
                    have H9d := Lib.hid (H9c.out.below HBJ.out)
                    have HBd := Lib.hid (Nat.le_trans HBc.out HBJ.out.size)
                    go_wp2
                    go_roundw
                    case rel => exact ⟨k + 1, T + 1, M, vl1, by omega, by go_num, by go_num, by have := HTc.out; omega, by have := HTc.out; omega, HLEc.out, HORc.out, HZd.out, H8d.out, H9d.out, HFc.out, HP8c.out, HP9c.out, HP89c.out, HBd.out, HBWd.out⟩
                    case measure => simp [intOf]; omega
        · obtain rfl : k = l.length := by omega
          have HJL := Lib.hid (jlen_any b limit T vl L wr HZ.out.1)
          obtain ⟨a8, co8, hvo, -, -, -⟩ := Own.reads H8.out
          subst hvo
          go_wp2_with fail
          refine HJL.out.mono ?_
          rintro e w5 ⟨rfl, rfl⟩
          clear HJL
          go_wp2_with fail
          refine (again_any _).mono ?_
          rintro e w7 ⟨rfl, hq⟩
          have HB7 := Lib.hid (HBW.out.trans (below_of hq HBW.out.size))
          clear hq
          go_wp2
          go_ret
          exact ⟨rfl, HB7.out⟩
    · by_cases d : limit < 1
      · have d1 : decide (limit < 1) = true := decide_eq_true d
        clear hlim d
        go_enter Try.func3, Try.ntmps3
        go_wp2_with fail
        refine (again_any _).mono ?_
        rintro e w7 ⟨rfl, hb7⟩
        go_wp2
        go_ret
        exact ⟨rfl, hb7⟩
      · have d1 : decide (limit < 1) = false := decide_eq_false d
        have d2 : decide (64 < limit) = true := decide_eq_true (by omega)
        clear hlim d
        go_enter Try.func3, Try.ntmps3
        go_wp2_with fail
        refine (again_any _).mono ?_
        rintro e w7 ⟨rfl, hb7⟩
        go_wp2
        go_ret
        exact ⟨rfl, hb7⟩
  · have hb60 : decide ((60 : Int) < (l.length : Int)) = true := decide_eq_true (by omega)
    have hb61 : decide (60 < l.length) = true := decide_eq_true (by omega)
    go_enter Try.func3, Try.ntmps3
    go_wp2_with fail
    refine (again_any _).mono ?_
    rintro e w7 ⟨rfl, hb7⟩
    go_wp2
    go_ret
    exact ⟨rfl, hb7⟩
end Go.Proofs.Ytmgjmpmcadjemaa

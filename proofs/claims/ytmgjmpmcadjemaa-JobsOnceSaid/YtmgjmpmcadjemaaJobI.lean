/- Package jobs: the law JobsActs walked. -/
import Derived.Test.YtmgjmpmcadjemaaJobH
namespace Go.Proofs.Ytmgjmpmcadjemaa
open Go.RowKit

theorem getE_yes {R : List RE} {h : Int} (hl : livesR R h = true) : ∃ (k : Nat) (e : JE), h = (k : Int) + 1 ∧ k < R.length ∧ R[k]? = some (e, false) ∧ getJ h (liveR R) = e ∧ getE h (liveR R) = 0 := by
  obtain ⟨e, h1, h2, h3, h4⟩ := livesR_yes hl
  refine ⟨(h - 1).toNat, e, by omega, by omega, h1, ?_, ?_⟩
  · unfold getJ; rw [h2]
  · unfold getE; rw [h2]
theorem getE_no {R : List RE} {h : Int} (hl : livesR R h = false) : getJ h (liveR R) = (0, 0, 0, 0) ∧ getE h (liveR R) = 6 := by
  have := livesR_no hl
  unfold getJ getE
  rw [this]
  exact ⟨rfl, rfl⟩
theorem TZ.keep {B : Nat} {S : Nat → Prop} {w w' : World} {b : Nat} {lim : Int} {last : Nat} {vl : Value} {L : List LV} (h : TZ B w b lim last vl L) (kp : Keep S w w') (hs : ∀ j, JF b vl j → ¬ S j) : TZ B w' b lim last vl L := ⟨h.1.keep kp hs, h.2⟩
theorem TZ.lt {B : Nat} {w : World} {b : Nat} {lim : Int} {last : Nat} {vl : Value} {L : List LV} (h : TZ B w b lim last vl L) : ∀ j, JF b vl j → j < w.heap.size := h.1.lt
/-- a row apart from the table stays apart -/
theorem apart_did {b : Nat} {vl vl' sv : Value} {w w1 : World} (hlt : ∀ g, sv.ownBlock = some g → g < w.heap.size) (hsz : w.heap.size ≤ w1.heap.size) (hap : ∀ g, sv.ownBlock = some g → ¬ JF b vl g)
    (hg : ∀ g, vl'.ownBlock = some g → vl.ownBlock = some g ∨ w1.heap.size ≤ g) : ∀ g, sv.ownBlock = some g → ¬ JF b vl' g := by
  intro g h1 h2
  rcases h2 with rfl | h2
  · exact hap _ h1 (.inl rfl)
  · rcases hg g h2 with h3 | h3
    · exact hap g h1 (.inr h3)
    · have := hlt g h1; omega

theorem drop_good {R : List RE} {h : Int} (hg : ∀ r ∈ R, goodR r) : ∀ r ∈ dropR R h, goodR r := by
  intro r hr
  obtain ⟨i, hi⟩ := List.getElem?_of_mem hr
  unfold dropR at hi
  rw [List.getElem?_mapIdx] at hi
  cases hx : R[i]? with
  | none => rw [hx] at hi; simp at hi
  | some x =>
    rw [hx] at hi
    have hgx := hg x (List.mem_of_getElem? hx)
    simp only [Option.map_some, Option.some.injEq] at hi
    subst hi
    split
    · exact hgx
    · exact hgx

set_option maxRecDepth 100000 in
set_option maxHeartbeats 40000000 in
theorem lawJobsActs {limit : Int} {va : Value} {l : List JAct} {w : World} (hq1 : -9223372036854775808 ≤ limit) (hq2 : limit ≤ 9223372036854775807) (hva : RS w va l encA37 6 goodA37) :
    Calls Try.prog 4 #[.int .i64 limit, va] w fun e w' => e = .returned (.bool true) ∧ Below w.heap.size w w' := by
  have HVA := Lib.hid hva
  obtain ⟨a2, cap2, rfl, hc3, hc4⟩ := hva.shape
  clear hva
  by_cases hl : l.length ≤ 60
  · have hll : (l.length : Int) ≤ 60 := by omega
    by_cases hlim : 1 ≤ limit ∧ limit ≤ 64
    · have hd1 : decide (limit < 1) = false := decide_eq_false (by omega)
      have hd2 : decide (64 < limit) = false := decide_eq_false (by omega)
      have HLIM := Lib.hid hlim
      clear hlim
      go_enter Try.func4, Try.ntmps4
      go_wp2_with fail
      refine (jnew_ok limit w HLIM.out.1 HLIM.out.2).mono ?_
      rintro e w1 ⟨rfl, h1, hb1⟩
      obtain ⟨b, hbn⟩ : ∃ z, w.heap.size = z := ⟨_, rfl⟩
      have HZ1 := Lib.hid (show TZ w.heap.size w1 w.heap.size limit 0 (.slice none 0 0) (liveR []) from ⟨h1, fun j hj => by
        rcases hj with rfl | hj
        · exact Nat.le_refl _
        · simp [Value.ownBlock] at hj⟩)
      have HB1 := Lib.hid hb1
      rw [hbn] at HZ1
      have HBN := Lib.hid hbn
      clear h1 hb1
      rw [hbn]
      clear hbn
      go_wp2
      go_loopw [7, 43] (fun sv i wr => ∃ (k : Nat) (R : List RE) (vl : Value), k ≤ l.length ∧ i = .int .i64 k ∧ Hid (TZ b wr b limit R.length vl (liveR R)) ∧ Hid (Own wr 45 5 sv R.length (R.flatMap encR)) ∧ Hid (∀ r ∈ R, goodR r) ∧ Hid (FreshV b sv) ∧ Hid (∀ g, sv.ownBlock = some g → ¬ JF b vl g) ∧ R.length ≤ k ∧ b ≤ wr.heap.size ∧ Hid (Below w.heap.size w wr)) (fun _ i _ => l.length - (intOf i).toNat)
      case atStart => exact ⟨0, [], _, Nat.zero_le _, rfl, HZ1.out, Own.nil _ _ _, fun r hr => (by cases hr), FreshV.nil _, fun g hg => by simp [Value.ownBlock] at hg, Nat.le_refl _, by have := HB1.out.size; have := HBN.out; omega, HB1.out⟩
      case round =>
        clear HZ1 HB1
        obtain ⟨k, R, vl, hk, rfl, HZ, HO, HG, HF, HAP, hRk, hbw, HBW⟩ := hrel
        have hRl : R.length ≤ 60 := by omega
        have HRL := Lib.hid (show (liveR R).length ≤ 60 by have := liveR_len R; omega)
        by_cases hlt : k < l.length
        · obtain ⟨b2, off, x, rfl, hbb, hx, hgx, hcx⟩ := (HVA.out.below HBW.out).at hlt
          obtain ⟨ad, ah, ac, ai, at_, an⟩ := x
          have c0 : wr.cell? ⟨b2, off + k * 6, none⟩ = some (.bool ad) := hcx 0 _ rfl
          have c1 : wr.cell? ⟨b2, off + k * 6 + 1, none⟩ = some (.int .i64 ah) := hcx 1 _ rfl
          have c2 : wr.cell? ⟨b2, off + k * 6 + 2, none⟩ = some (.int .i64 ac) := hcx 2 _ rfl
          have c3 : wr.cell? ⟨b2, off + k * 6 + 3, none⟩ = some (.int .i64 ai) := hcx 3 _ rfl
          have c4 : wr.cell? ⟨b2, off + k * 6 + 4, none⟩ = some (.int .i64 at_) := hcx 4 _ rfl
          have c5 : wr.cell? ⟨b2, off + k * 6 + 5, none⟩ = some (.int .i64 an) := hcx 5 _ rfl
          have HGX := Lib.hid hgx
          have HAL := Lib.hid (below_alloc wr (.cells #[.bool ad, .int .i64 ah, .int .i64 ac, .int .i64 ai, .int .i64 at_, .int .i64 an] 33 (0, 0)))
          have HA := Lib.hid (Blk.new wr [.bool ad, .int .i64 ah, .int .i64 ac, .int .i64 ai, .int .i64 at_, .int .i64 an] 33)
          have HR := Lib.hid (rs_of_own encR_len HO.out HG.out)
          obtain ⟨ao, co, hvo, -, -, -⟩ := Own.reads HO.out
          subst hvo
          have HOL := Lib.hid (show ∀ g, (Value.slice ao R.length co).ownBlock = some g → g < wr.heap.size from Own.lt HO.out)
          have HRD := Lib.hid (fun w h => reflives_any (.slice ao R.length co) R ah w h (by omega) HGX.out.1.1 HGX.out.1.2)
          clear hx hgx hcx
          cases ad with
          | true =>
            have HG1 := Lib.hid (get_any b limit R.length vl (liveR R) ah _ (HZ.out.below HAL.out).1)
            cases hlv : livesR R ah with
            | false =>
              obtain ⟨gj, ge⟩ := getE_no hlv
              have HDR := Lib.hid (fun w h => drop_no b limit R.length vl (liveR R) ah w h ge)
              have HLV := Lib.hid (fun w h => reflives_any (.slice ao R.length co) R ah w h (by omega) HGX.out.1.1 HGX.out.1.2)
              rw [gj] at HDR
              rw [gj, ge] at HG1
              rw [hlv] at HLV
              clear hlv gj ge
              go_wp2_with fail
              refine HG1.out.mono ?_
              rintro e w1 ⟨rfl, hq⟩
              have hal1 := below_alloc w1 (.cells #[.int .i64 0, .int .i64 0, .int .i64 0, .int .i64 0] 31 (0, 0))
              have HA1 := Lib.hid ((HA.out.below hq).below hal1)
              have HX1 := Lib.hid (Blk.new w1 [.int .i64 0, .int .i64 0, .int .i64 0, .int .i64 0] 31)
              have HB1 := Lib.hid (below_two (below_two HAL.out hq) hal1)
              have HW1 := Lib.hid (show wr.heap.size < w1.heap.size by have := hq.size; simp at this; omega)
              have ca1 := HA1.out.cell (i := 1) (x := .int .i64 ah) rfl
              clear hq hal1 HG1 c0 c1 c2 c3 c4 c5
              have hred : (encJ (0, 0, 0, 0)).toArray = #[.int .i64 0, .int .i64 0, .int .i64 0, .int .i64 0] := rfl
              rw [hred]
              clear hred
              go_wp2_with fail
              refine (HDR.out _ ((HZ.out.below HB1.out).1)).mono ?_
              rintro e w2 ⟨rfl, hq⟩
              have hred : (encJ (0, 0, 0, 0)).toArray = #[.int .i64 0, .int .i64 0, .int .i64 0, .int .i64 0] := rfl
              rw [hred]
              clear hred
              have hal2 := below_alloc w2 (.cells #[.int .i64 0, .int .i64 0, .int .i64 0, .int .i64 0] 31 (0, 0))
              have HA2 := Lib.hid ((HA1.out.below hq).below hal2)
              have HX2 := Lib.hid ((HX1.out.below hq).below hal2)
              have HY2 := Lib.hid (Blk.new w2 [.int .i64 0, .int .i64 0, .int .i64 0, .int .i64 0] 31)
              have HB2 := Lib.hid (below_two (below_two HB1.out hq) hal2)
              have x0 := HX2.out.cell (i := 0) (x := .int .i64 0) rfl
              have x1 := HX2.out.cell (i := 1) (x := .int .i64 0) rfl
              have x2 := HX2.out.cell (i := 2) (x := .int .i64 0) rfl
              have x3 := HX2.out.cell (i := 3) (x := .int .i64 0) rfl
              have ca2 := HA2.out.cell (i := 1) (x := .int .i64 ah) rfl
              have hlw : w1.heap.size ≠ w2.heap.size := by have := hq.size; simp at this; omega
              clear hq hal2 ca1 HDR
              go_wp2_with fail
              refine (HLV.out _ (HR.out.below HB2.out)).mono ?_
              rintro e w3 ⟨rfl, hq⟩
              clear x0 x1 x2 x3 ca2 hlw
              have HX3 := Lib.hid (HX2.out.below hq)
              have HAZ := Lib.hid (HA2.out.below hq)
              have HB3 := Lib.hid (below_two HB2.out hq)
              have HBZ := Lib.hid (HBW.out.trans (below_of HB3.out HBW.out.size))
              have HZZ := Lib.hid (HZ.out.below HB3.out)
              have HOZ := Lib.hid (HO.out.below HB3.out)
              have HRZ := Lib.hid (HR.out.below HB3.out)
              have HLZ := Lib.hid (show R.length ≤ k ∧ R.length ≤ 60 from ⟨hRk, hRl⟩)
              have HGZ := HG
              have HFZ := HF
              have HPZ := HAP
              have x0 := HX3.out.cell (i := 0) (x := .int .i64 0) rfl
              have x1 := HX3.out.cell (i := 1) (x := .int .i64 0) rfl
              have x2 := HX3.out.cell (i := 2) (x := .int .i64 0) rfl
              have x3 := HX3.out.cell (i := 3) (x := .int .i64 0) rfl
              clear hq HX2 HA2 HLV HY2 HX3
              have a2 := HAZ.out.cell (i := 2) (x := .int .i64 ac) rfl
              have a3 := HAZ.out.cell (i := 3) (x := .int .i64 ai) rfl
              have a4 := HAZ.out.cell (i := 4) (x := .int .i64 at_) rfl
              have a5 := HAZ.out.cell (i := 5) (x := .int .i64 an) rfl
              have HFT := Lib.hid (fits_any b limit _ _ _ _ ac ai at_ an _ HZZ.out.1 HRZ.out (by have := HLZ.out; omega))
              go_wp2_with fail
              refine HFT.out.mono ?_
              rintro e w9 ⟨rfl, hq⟩
              clear a2 a3 a4 a5 HFT
              have HZ9 := Lib.hid (HZZ.out.below hq)
              have HO9 := Lib.hid (HOZ.out.below hq)
              have HB9 := Lib.hid (HBZ.out.trans (below_of hq HBZ.out.size))
              have HN9 := Lib.hid (Nat.le_trans HBZ.out.size hq.size)
              clear hq
              go_wp2
              go_roundw
              case rel => exact ⟨k + 1, _, _, by omega, by go_num, HZ9.out, HO9.out, HGZ.out, HFZ.out, HPZ.out, by have := HLZ.out; omega, by have := HN9.out; have := HBN.out; omega, HB9.out⟩
              case measure => simp [intOf]; omega
            | true =>
              obtain ⟨m, ⟨xc, xi, xt, xn⟩, rfl, hm, hmx, gj, ge⟩ := getE_yes hlv
              have HDR := Lib.hid (fun w h => drop_ok b limit R.length vl (liveR R) ((m : Int) + 1) w h ge (by have := HRL.out; omega))
              have HLV := Lib.hid (fun w h => reflives_any (.slice ao R.length co) R ((m : Int) + 1) w h (by omega) HGX.out.1.1 HGX.out.1.2)
              have HDP := Lib.hid (fun w h => refdrop_any (.slice ao R.length co) R ((m : Int) + 1) w h (by omega))
              rw [gj, ← liveR_drop] at HDR
              rw [gj, ge] at HG1
              rw [hlv] at HLV
              have HMX := Lib.hid hmx
              clear hlv gj ge hmx
              go_wp2_with fail
              refine HG1.out.mono ?_
              rintro e w1 ⟨rfl, hq⟩
              have hal1 := below_alloc w1 (.cells #[.int .i64 xc, .int .i64 xi, .int .i64 xt, .int .i64 xn] 31 (0, 0))
              have HA1 := Lib.hid ((HA.out.below hq).below hal1)
              have HX1 := Lib.hid (Blk.new w1 [.int .i64 xc, .int .i64 xi, .int .i64 xt, .int .i64 xn] 31)
              have HB1 := Lib.hid (below_two (below_two HAL.out hq) hal1)
              have HW1 := Lib.hid (show wr.heap.size < w1.heap.size by have := hq.size; simp at this; omega)
              have ca1 := HA1.out.cell (i := 1) (x := .int .i64 ((m : Int) + 1)) rfl
              clear hq hal1 HG1 c0 c1 c2 c3 c4 c5
              have hred : (encJ (xc, xi, xt, xn)).toArray = #[.int .i64 xc, .int .i64 xi, .int .i64 xt, .int .i64 xn] := rfl
              rw [hred]
              clear hred
              go_wp2_with fail
              refine (HDR.out _ ((HZ.out.below HB1.out).1)).mono ?_
              rintro e w2 ⟨rfl, hd⟩
              have hred : (encJ (xc, xi, xt, xn)).toArray = #[.int .i64 xc, .int .i64 xi, .int .i64 xt, .int .i64 xn] := rfl
              rw [hred]
              clear hred
              obtain ⟨vl2, hz2, hbb2, hk2, hg2⟩ := (HZ.out.below HB1.out).did (by have := HB1.out.size; omega) hd
              have hnj : ∀ j, wr.heap.size ≤ j → ¬ JF b vl j := fun j hj hjf => by have := HZ.out.lt j hjf; omega
              have hal2 := below_alloc w2 (.cells #[.int .i64 xc, .int .i64 xi, .int .i64 xt, .int .i64 xn] 31 (0, 0))
              have HA2 := Lib.hid ((HA1.out.keep hk2 (hnj _ (Nat.le_refl _))).below hal2)
              have HX2 := Lib.hid ((HX1.out.keep hk2 (hnj _ (by have := HW1.out; omega))).below hal2)
              have HY2 := Lib.hid (Blk.new w2 [.int .i64 xc, .int .i64 xi, .int .i64 xt, .int .i64 xn] 31)
              have hbb3 : Below b wr w2 := (HB1.out.mono hbw).trans hbb2
              have HB2 := Lib.hid (hbb3.trans (below_of hal2 (Nat.le_trans hbw hbb3.size)))
              have HBW2 := Lib.hid (HBW.out.trans (show Below w.heap.size wr _ by rw [HBN.out]; exact HB2.out))
              have HO2 := Lib.hid (((HO.out.below HB1.out).keep hk2 HAP.out).below hal2)
              have HR2 := Lib.hid (rs_of_own encR_len HO2.out HG.out)
              have HZ2 := Lib.hid (hz2.below hal2)
              have HAP2 := Lib.hid (apart_did HOL.out HB1.out.size HAP.out hg2)
              have hlw : w1.heap.size ≠ w2.heap.size := by have := hk2.size; simp at this; omega
              have x0 := HX2.out.cell (i := 0) (x := .int .i64 xc) rfl
              have x1 := HX2.out.cell (i := 1) (x := .int .i64 xi) rfl
              have x2 := HX2.out.cell (i := 2) (x := .int .i64 xt) rfl
              have x3 := HX2.out.cell (i := 3) (x := .int .i64 xn) rfl
              have ca2 := HA2.out.cell (i := 1) (x := .int .i64 ((m : Int) + 1)) rfl
              clear hd hz2 hbb2 hk2 hg2 hnj hal2 hbb3 ca1 HDR HA1 HX1 HB1
              go_wp2_with fail
              refine (HLV.out _ HR2.out).mono ?_
              rintro e w3 ⟨rfl, hq⟩
              clear x0 x1 x2 x3 ca2 hlw
              have hd3 := below_two hq (below_drew1 _)
              have HA3 := Lib.hid (HA2.out.below hd3)
              have HX3 := Lib.hid (HX2.out.below hd3)
              have HBW3 := Lib.hid (HBW2.out.trans (below_of hd3 HBW2.out.size))
              have HZ3 := Lib.hid (HZ2.out.below hd3)
              have HO3 := Lib.hid (HO2.out.below hd3)
              have HR3 := Lib.hid (HR2.out.below hd3)
              have xa0 := HX3.out.cell (i := 0) (x := .int .i64 xc) rfl
              have xa1 := HX3.out.cell (i := 1) (x := .int .i64 xi) rfl
              have xa2 := HX3.out.cell (i := 2) (x := .int .i64 xt) rfl
              have xa3 := HX3.out.cell (i := 3) (x := .int .i64 xn) rfl
              have ca3 := HA3.out.cell (i := 1) (x := .int .i64 ((m : Int) + 1)) rfl
              obtain ⟨b4, off4, y, rfl, -, hy, -, hcy⟩ := HR3.out.at hm
              obtain rfl : y = ((xc, xi, xt, xn), false) := by have := HMX.out; rw [this] at hy; simpa using hy.symm
              have r0 := hcy 0 (.int .i64 xc) rfl
              have r1 := hcy 1 (.int .i64 xi) rfl
              have r2 := hcy 2 (.int .i64 xt) rfl
              have r3 := hcy 3 (.int .i64 xn) rfl
              have r4 := hcy 4 (.bool false) rfl
              rw [Nat.add_zero] at r0
              have e1 : IntKind.i64.wrap ((m : Int) + 1 - 1) = (m : Int) := by rw [IntWalk.i64_in _ (by omega)]; omega
              have e2 : (m : Int) + 1 - 1 = (m : Int) := by omega
              have e3 : IntKind.i64.wrap (m : Int) = (m : Int) := IntWalk.i64_in _ (by omega)
              have hm1 : (0 : Int) ≤ (m : Int) := by omega
              have hm2 : (m : Int) < (R.length : Int) := by omega
              have yf0 := (HX2.out.below hq).cell (i := 0) (x := .int .i64 xc) rfl
              have yf1 := (HX2.out.below hq).cell (i := 1) (x := .int .i64 xi) rfl
              have yf2 := (HX2.out.below hq).cell (i := 2) (x := .int .i64 xt) rfl
              have yf3 := (HX2.out.below hq).cell (i := 3) (x := .int .i64 xn) rfl
              clear hq hd3 hy hcy HX2 HA2 HBW2 HZ2 HO2 HR2 HLV HY2 HMX
              go_wp2
              go_region_held3 (fun w' => w'.cell? ⟨w1.heap.size, 0, none⟩ = some (.int .i64 xc) ∧ w'.cell? ⟨w1.heap.size, 1, none⟩ = some (.int .i64 xi) ∧ w'.cell? ⟨w1.heap.size, 2, none⟩ = some (.int .i64 xt) ∧ w'.cell? ⟨w1.heap.size, 3, none⟩ = some (.int .i64 xn) ∧ w'.cell? ⟨wr.heap.size, 1, none⟩ = some (.int .i64 ((m : Int) + 1)) ∧ w'.cell? ⟨b4, off4 + m * 5, none⟩ = some (.int .i64 xc) ∧ w'.cell? ⟨b4, off4 + m * 5 + 1, none⟩ = some (.int .i64 xi) ∧ w'.cell? ⟨b4, off4 + m * 5 + 2, none⟩ = some (.int .i64 xt) ∧ w'.cell? ⟨b4, off4 + m * 5 + 3, none⟩ = some (.int .i64 xn) ∧ w'.cell? ⟨b4, off4 + m * 5 + 4, none⟩ = some (.bool false))
                (first | (with_reducible exact ⟨xa0, xa1, xa2, xa3, ca3, r0, r1, r2, r3, r4⟩) | (with_reducible exact ⟨cellB xa0 hA1, cellB xa1 hA1, cellB xa2 hA1, cellB xa3 hA1, cellB ca3 hA1, cellB r0 hA1, cellB r1 hA1, cellB r2 hA1, cellB r3 hA1, cellB r4 hA1⟩) | assumption)
                (first | (go_at_call 18; refine (entry_any xc xi xt xn false _).mono ?_; rintro e y1 ⟨rfl, hA1⟩))
              all_goals
                have HA4 := Lib.hid (HA3.out.below hA1)
                have HBW4 := Lib.hid (HBW3.out.trans (below_of hA1 HBW3.out.size))
                have HZ4 := Lib.hid (HZ3.out.below hA1)
                have HR4 := Lib.hid (HR3.out.below hA1)
                have ca4 := HA4.out.cell (i := 1) (x := .int .i64 ((m : Int) + 1)) rfl
                clear xa0 xa1 xa2 xa3 ca3 r0 r1 r2 r3 r4 hA1 yf0 yf1 yf2 yf3
                go_wp2_with fail
                refine (HDP.out _ HR4.out).mono ?_
                rintro e w5 ⟨v5, rfl, hown5, hf5, hq⟩
                have HAZ := Lib.hid (HA4.out.below hq)
                have HBZ := Lib.hid (HBW4.out.trans (below_of hq HBW4.out.size))
                have HOZ := Lib.hid hown5
                have HLZ := Lib.hid (show (dropR R ((m : Int) + 1)).length ≤ k ∧ (dropR R ((m : Int) + 1)).length ≤ 60 by rw [dropR_len]; exact ⟨hRk, hRl⟩)
                have HZZ := Lib.hid (show TZ b w5 b limit (dropR R ((m : Int) + 1)).length vl2 (liveR (dropR R ((m : Int) + 1))) by rw [dropR_len]; exact HZ4.out.below hq)
                have HGZ := Lib.hid (drop_good (h := (m : Int) + 1) HG.out)
                have HRZ := Lib.hid (rs_of_own encR_len HOZ.out HGZ.out)
                have HFZ := Lib.hid (show FreshV b v5 from fun g hg => by have := hf5 g hg; have := HBW4.out.size; have := HBN.out; omega)
                have HPZ := Lib.hid (show ∀ g, v5.ownBlock = some g → ¬ JF b vl2 g from fun g hg hj => by have := hf5 g hg; have := HZ4.out.lt g hj; omega)
                obtain ⟨a5', co5, hv5, -, -, -⟩ := Own.reads HOZ.out
                subst hv5
                obtain ⟨R5, hR5⟩ : ∃ z, dropR R ((m : Int) + 1) = z := ⟨_, rfl⟩
                rw [hR5] at HZZ HOZ HLZ HGZ HRZ HPZ HFZ
                rw [hR5]
                clear hown5 hf5 hq ca4 hR5 HA4 HBW4 HZ4 HR4
                have a2 := HAZ.out.cell (i := 2) (x := .int .i64 ac) rfl
                have a3 := HAZ.out.cell (i := 3) (x := .int .i64 ai) rfl
                have a4 := HAZ.out.cell (i := 4) (x := .int .i64 at_) rfl
                have a5 := HAZ.out.cell (i := 5) (x := .int .i64 an) rfl
                have HFT := Lib.hid (fits_any b limit _ _ _ _ ac ai at_ an _ HZZ.out.1 HRZ.out (by have := HLZ.out; omega))
                go_wp2_with fail
                refine HFT.out.mono ?_
                rintro e w9 ⟨rfl, hq⟩
                clear a2 a3 a4 a5 HFT
                have HZ9 := Lib.hid (HZZ.out.below hq)
                have HO9 := Lib.hid (HOZ.out.below hq)
                have HB9 := Lib.hid (HBZ.out.trans (below_of hq HBZ.out.size))
                have HN9 := Lib.hid (Nat.le_trans HBZ.out.size hq.size)
                clear hq
                go_wp2
                go_roundw
                case rel => exact ⟨k + 1, _, _, by omega, by go_num, HZ9.out, HO9.out, HGZ.out, HFZ.out, HPZ.out, by have := HLZ.out; omega, by have := HN9.out; have := HBN.out; omega, HB9.out⟩
                case measure => simp [intOf]; omega
          | false =>
            have HAD := Lib.hid (fun w h => refadd_any (.slice ao R.length co) R limit ac ai at_ an w h (by omega))
            have a2 := HA.out.cell (i := 2) (x := .int .i64 ac) rfl
            have a3 := HA.out.cell (i := 3) (x := .int .i64 ai) rfl
            have a4 := HA.out.cell (i := 4) (x := .int .i64 at_) rfl
            have a5 := HA.out.cell (i := 5) (x := .int .i64 an) rfl
            have ht1 := (HZ.out.below HAL.out).1
            rcases find_pair (c := ac) (i := ai) HZ.out.1.good with ⟨hfe, hfh⟩ | ⟨hfe, hfh⟩
            · have HC := Lib.hid (add_dup b limit R.length vl (liveR R) ac ai at_ an _ ht1 hfe)
              have hae : addE ac ai limit (liveR R) = 8 := by unfold addE; rw [if_pos hfh]
              rw [hae] at HAD
              clear hae hfe hfh ht1
              go_wp2_with fail
              refine HC.out.mono ?_
              rintro e w1 ⟨rfl, hq⟩
              clear a2 a3 a4 a5
              have HA1 := Lib.hid (HA.out.below hq)
              have HB1 := Lib.hid (below_two HAL.out hq)
              have HR1 := Lib.hid (HR.out.below HB1.out)
              have a2 := HA1.out.cell (i := 2) (x := .int .i64 ac) rfl
              have a3 := HA1.out.cell (i := 3) (x := .int .i64 ai) rfl
              have a4 := HA1.out.cell (i := 4) (x := .int .i64 at_) rfl
              have a5 := HA1.out.cell (i := 5) (x := .int .i64 an) rfl
              clear hq HC c0 c1 c2 c3 c4 c5
              go_wp2_with fail
              refine (HAD.out _ HR1.out).mono ?_
              rintro e w2 ⟨rfl, hq⟩
              clear a2 a3 a4 a5
              have HAZ := Lib.hid (HA1.out.below hq)
              have HB3 := Lib.hid (below_two HB1.out hq)
              have HBZ := Lib.hid (HBW.out.trans (below_of HB3.out HBW.out.size))
              have HZZ := Lib.hid (HZ.out.below HB3.out)
              have HOZ := Lib.hid (HO.out.below HB3.out)
              have HRZ := Lib.hid (HR.out.below HB3.out)
              have HLZ := Lib.hid (show R.length ≤ k ∧ R.length ≤ 60 from ⟨hRk, hRl⟩)
              have HGZ := HG
              have HFZ := HF
              have HPZ := HAP
              clear hq HA1 HB1 HR1
              have a2 := HAZ.out.cell (i := 2) (x := .int .i64 ac) rfl
              have a3 := HAZ.out.cell (i := 3) (x := .int .i64 ai) rfl
              have a4 := HAZ.out.cell (i := 4) (x := .int .i64 at_) rfl
              have a5 := HAZ.out.cell (i := 5) (x := .int .i64 an) rfl
              have HFT := Lib.hid (fits_any b limit _ _ _ _ ac ai at_ an _ HZZ.out.1 HRZ.out (by have := HLZ.out; omega))
              go_wp2_with fail
              refine HFT.out.mono ?_
              rintro e w9 ⟨rfl, hq⟩
              clear a2 a3 a4 a5 HFT
              have HZ9 := Lib.hid (HZZ.out.below hq)
              have HO9 := Lib.hid (HOZ.out.below hq)
              have HB9 := Lib.hid (HBZ.out.trans (below_of hq HBZ.out.size))
              have HN9 := Lib.hid (Nat.le_trans HBZ.out.size hq.size)
              clear hq
              go_wp2
              go_roundw
              case rel => exact ⟨k + 1, _, _, by omega, by go_num, HZ9.out, HO9.out, HGZ.out, HFZ.out, HPZ.out, by have := HLZ.out; omega, by have := HN9.out; have := HBN.out; omega, HB9.out⟩
              case measure => simp [intOf]; omega
            · by_cases hful : ((liveR R).length : Int) = limit
              · have HC := Lib.hid (add_full b limit R.length vl (liveR R) ac ai at_ an _ ht1 hfe hful)
                have hae : addE ac ai limit (liveR R) = 5 := by unfold addE; rw [if_neg (by omega), if_pos hful]
                rw [hae] at HAD
                clear hae hfe hfh ht1 hful
                go_wp2_with fail
                refine HC.out.mono ?_
                rintro e w1 ⟨rfl, hq⟩
                clear a2 a3 a4 a5
                have HA1 := Lib.hid (HA.out.below hq)
                have HB1 := Lib.hid (below_two HAL.out hq)
                have HR1 := Lib.hid (HR.out.below HB1.out)
                have a2 := HA1.out.cell (i := 2) (x := .int .i64 ac) rfl
                have a3 := HA1.out.cell (i := 3) (x := .int .i64 ai) rfl
                have a4 := HA1.out.cell (i := 4) (x := .int .i64 at_) rfl
                have a5 := HA1.out.cell (i := 5) (x := .int .i64 an) rfl
                clear hq HC c0 c1 c2 c3 c4 c5
                go_wp2_with fail
                refine (HAD.out _ HR1.out).mono ?_
                rintro e w2 ⟨rfl, hq⟩
                clear a2 a3 a4 a5
                have HAZ := Lib.hid (HA1.out.below hq)
                have HB3 := Lib.hid (below_two HB1.out hq)
                have HBZ := Lib.hid (HBW.out.trans (below_of HB3.out HBW.out.size))
                have HZZ := Lib.hid (HZ.out.below HB3.out)
                have HOZ := Lib.hid (HO.out.below HB3.out)
                have HRZ := Lib.hid (HR.out.below HB3.out)
                have HLZ := Lib.hid (show R.length ≤ k ∧ R.length ≤ 60 from ⟨hRk, hRl⟩)
                have HGZ := HG
                have HFZ := HF
                have HPZ := HAP
                clear hq HA1 HB1 HR1
                have a2 := HAZ.out.cell (i := 2) (x := .int .i64 ac) rfl
                have a3 := HAZ.out.cell (i := 3) (x := .int .i64 ai) rfl
                have a4 := HAZ.out.cell (i := 4) (x := .int .i64 at_) rfl
                have a5 := HAZ.out.cell (i := 5) (x := .int .i64 an) rfl
                have HFT := Lib.hid (fits_any b limit _ _ _ _ ac ai at_ an _ HZZ.out.1 HRZ.out (by have := HLZ.out; omega))
                go_wp2_with fail
                refine HFT.out.mono ?_
                rintro e w9 ⟨rfl, hq⟩
                clear a2 a3 a4 a5 HFT
                have HZ9 := Lib.hid (HZZ.out.below hq)
                have HO9 := Lib.hid (HOZ.out.below hq)
                have HB9 := Lib.hid (HBZ.out.trans (below_of hq HBZ.out.size))
                have HN9 := Lib.hid (Nat.le_trans HBZ.out.size hq.size)
                clear hq
                go_wp2
                go_roundw
                case rel => exact ⟨k + 1, _, _, by omega, by go_num, HZ9.out, HO9.out, HGZ.out, HFZ.out, HPZ.out, by have := HLZ.out; omega, by have := HN9.out; have := HBN.out; omega, HB9.out⟩
                case measure => simp [intOf]; omega
              · have HC := Lib.hid (add_ok b limit R.length vl (liveR R) ac ai at_ an _ ht1 HGX.out.2 hfe hful (by omega) (by have := HRL.out; omega))
                have hae : addE ac ai limit (liveR R) = 0 := by unfold addE; rw [if_neg (by omega), if_neg hful]
                rw [hae] at HAD
                have hls : liveR R ++ [((ac, ai, at_, an), (R.length : Int) + 1)] = liveR (R ++ [((ac, ai, at_, an), false)]) := by rw [liveR_snoc]; rfl
                rw [hls] at HC
                have HGE := Lib.hid (show ∀ r ∈ R ++ [((ac, ai, at_, an), false)], goodR r from fun r hr => by
                  rcases List.mem_append.1 hr with h | h
                  · exact HG.out r h
                  · rw [List.mem_singleton.1 h]; exact HGX.out.2)
                clear hae hfe hfh ht1 hful hls
                go_wp2_with fail
                refine HC.out.mono ?_
                rintro e w1 ⟨rfl, hd⟩
                clear a2 a3 a4 a5
                obtain ⟨vl1, hz1, hbb1, hk1, hg1⟩ := (HZ.out.below HAL.out).did (by have := HAL.out.size; omega) hd
                have hnj : ¬ JF b vl wr.heap.size := fun hjf => by have := HZ.out.lt _ hjf; omega
                have HA1 := Lib.hid (HA.out.keep hk1 hnj)
                have HZ1 := Lib.hid hz1
                have hbb2 : Below b wr w1 := (HAL.out.mono hbw).trans hbb1
                have HBW1 := Lib.hid (HBW.out.trans (show Below w.heap.size wr _ by rw [HBN.out]; exact hbb2))
                have HO1 := Lib.hid ((HO.out.below HAL.out).keep hk1 HAP.out)
                have HR1 := Lib.hid (rs_of_own encR_len HO1.out HG.out)
                have HAP1 := Lib.hid (apart_did HOL.out HAL.out.size HAP.out hg1)
                have HN1 := Lib.hid (show wr.heap.size < w1.heap.size by have := hk1.size; simp at this; omega)
                have a2 := HA1.out.cell (i := 2) (x := .int .i64 ac) rfl
                have a3 := HA1.out.cell (i := 3) (x := .int .i64 ai) rfl
                have a4 := HA1.out.cell (i := 4) (x := .int .i64 at_) rfl
                have a5 := HA1.out.cell (i := 5) (x := .int .i64 an) rfl
                clear hd hz1 hbb1 hk1 hg1 hnj hbb2 HC c0 c1 c2 c3 c4 c5
                go_wp2_with fail
                refine (HAD.out _ HR1.out).mono ?_
                rintro e w2 ⟨rfl, hq⟩
                clear a2 a3 a4 a5
                have HA2 := Lib.hid (HA1.out.below hq)
                have HBW2 := Lib.hid (HBW1.out.trans (below_of hq HBW1.out.size))
                have HZ2 := Lib.hid (HZ1.out.below hq)
                have HO2 := Lib.hid (HO1.out.below hq)
                have HN2 := Lib.hid (show wr.heap.size < w2.heap.size by have := hq.size; have := HN1.out; omega)
                have a2 := HA2.out.cell (i := 2) (x := .int .i64 ac) rfl
                have a3 := HA2.out.cell (i := 3) (x := .int .i64 ai) rfl
                have a4 := HA2.out.cell (i := 4) (x := .int .i64 at_) rfl
                have a5 := HA2.out.cell (i := 5) (x := .int .i64 an) rfl
                have hown := HO2.out
                have hdb : R.length < 1000000000 := by omega
                clear hq HA1 HBW1 HZ1 HO1 HR1 HN1
                go_wp2_with (at_builtin; refine wpList_append_elem3 _ _ rfl _ _ 41 rfl 45 (.agg #[.int .i64 0, .int .i64 0, .int .i64 0, .int .i64 0, .bool false]) 5 40 Try.underlying41 reinfo rfl (by decide) _ R.length _ [.int .i64 ac, .int .i64 ai, .int .i64 at_, .int .i64 an, .bool false] _ rfl rfl (encR_one ((ac, ai, at_, an), false)) _ (by simp) rfl rfl hown hdb (by decide) ?_)
                intro v3 w3 hown3 hkeep hfresh
                have hflat : (R ++ [((ac, ai, at_, an), false)]).flatMap encR = R.flatMap encR ++ [.int .i64 ac, .int .i64 ai, .int .i64 at_, .int .i64 an, .bool false] := flatR_snoc R ((ac, ai, at_, an), false)
                rw [← hflat] at hown3
                obtain ⟨a3', co3, hv3, -, -, -⟩ := Own.reads hown3
                subst hv3
                have hnl : (R ++ [((ac, ai, at_, an), false)]).length = R.length + 1 := by simp
                have HLZ := Lib.hid (show R.length + 1 ≤ k + 1 ∧ R.length + 1 ≤ 61 from ⟨by omega, by omega⟩)
                have HAZ := Lib.hid (HA2.out.keep hkeep (fun e => by have := HOL.out _ e; omega))
                have HZZ := Lib.hid (show TZ b w3 b limit (R.length + 1) vl1 (liveR (R ++ [((ac, ai, at_, an), false)])) from HZ2.out.keep hkeep (fun j hj e => HAP1.out j e hj))
                have HGZ := HGE
                have HFZ := Lib.hid (show FreshV b (.slice a3' (R.length + 1) co3) from fun g hg => (hfresh g hg).elim (HF.out g) (fun h => by have := HN2.out; omega))
                have HPZ := Lib.hid (show ∀ g, (Value.slice a3' (R.length + 1) co3).ownBlock = some g → ¬ JF b vl1 g from fun g hg => (hfresh g hg).elim (HAP1.out g) (fun h hj => by have := HZ2.out.lt g hj; omega))
                have HBZ := Lib.hid (HBW2.out.trans (hkeep.below (B := w.heap.size) HBW2.out.size (fun j hj e => by have := HF.out _ e; have := HBN.out; omega)))
                obtain ⟨R3, hR3⟩ : ∃ z, R ++ [((ac, ai, at_, an), false)] = z := ⟨_, rfl⟩
                rw [hR3] at HZZ HGZ hnl hown3
                have HOZ := Lib.hid (show Own w3 45 5 (.slice a3' (R.length + 1) co3) R3.length (R3.flatMap encR) by rw [hnl]; exact hown3)
                rw [← hnl] at HZZ HLZ
                have HRZ := Lib.hid (rs_of_own encR_len HOZ.out HGZ.out)
                have hnz : ((R.length : Int) + 1 != ((R.length + 1 : Nat) : Int)) = false := by simp
                have hnz2 : ((R.length : Int) + 1 != (R.length : Int) + 1) = false := by simp
                clear hown hdb hown3 hkeep hfresh hflat hR3 hnl a2 a3 a4 a5 HA2 HBW2 HZ2 HO2 HN2 HGE
                have a2 := HAZ.out.cell (i := 2) (x := .int .i64 ac) rfl
                have a3 := HAZ.out.cell (i := 3) (x := .int .i64 ai) rfl
                have a4 := HAZ.out.cell (i := 4) (x := .int .i64 at_) rfl
                have a5 := HAZ.out.cell (i := 5) (x := .int .i64 an) rfl
                have HFT := Lib.hid (fits_any b limit _ _ _ _ ac ai at_ an _ HZZ.out.1 HRZ.out (by have := HLZ.out; omega))
                go_wp2_with fail
                refine HFT.out.mono ?_
                rintro e w9 ⟨rfl, hq⟩
                clear a2 a3 a4 a5 HFT
                have HZ9 := Lib.hid (HZZ.out.below hq)
                have HO9 := Lib.hid (HOZ.out.below hq)
                have HB9 := Lib.hid (HBZ.out.trans (below_of hq HBZ.out.size))
                have HN9 := Lib.hid (Nat.le_trans HBZ.out.size hq.size)
                clear hq
                go_wp2
                go_roundw
                case rel => exact ⟨k + 1, _, _, by omega, by go_num, HZ9.out, HO9.out, HGZ.out, HFZ.out, HPZ.out, by have := HLZ.out; omega, by have := HN9.out; have := HBN.out; omega, HB9.out⟩
                case measure => simp [intOf]; omega
        · obtain rfl : k = l.length := by omega
          have HJL := Lib.hid (jlen_any b limit R.length vl (liveR R) wr HZ.out.1)
          have HRN := Lib.hid (reflen_any _ R wr (rs_of_own encR_len HO.out HG.out) (by omega))
          obtain ⟨n2, hn2⟩ : ∃ z, (liveR R).length = z := ⟨_, rfl⟩
          rw [hn2] at HJL HRN
          clear hn2
          go_wp2_with fail
          refine HJL.out.mono ?_
          rintro e w5 ⟨rfl, rfl⟩
          clear HJL
          go_wp2_with fail
          refine HRN.out.mono ?_
          rintro e w6 ⟨rfl, hq⟩
          have HB6 := Lib.hid (HBW.out.trans (below_of hq HBW.out.size))
          clear hq HRN
          go_wp2_with fail
          refine (again_any _).mono ?_
          rintro e w7 ⟨rfl, hq⟩
          have HB7 := Lib.hid (HB6.out.trans (below_of hq HB6.out.size))
          clear hq
          go_wp2
          go_ret
          exact ⟨rfl, HB7.out⟩
    · have HNO := Lib.hid (jnew_no limit w (by omega))
      by_cases d : limit < 1
      · have d1 : decide (limit < 1) = true := decide_eq_true d
        clear hlim d
        go_enter Try.func4, Try.ntmps4
        go_wp2_with fail
        refine HNO.out.mono ?_
        rintro e w1 ⟨rfl, rfl⟩
        go_wp2_with fail
        refine (again_any _).mono ?_
        rintro e w7 ⟨rfl, hb7⟩
        go_wp2
        go_ret
        exact ⟨rfl, hb7⟩
      · have d1 : decide (limit < 1) = false := decide_eq_false d
        have d2 : decide (64 < limit) = true := decide_eq_true (by omega)
        clear hlim d
        go_enter Try.func4, Try.ntmps4
        go_wp2_with fail
        refine HNO.out.mono ?_
        rintro e w1 ⟨rfl, rfl⟩
        go_wp2_with fail
        refine (again_any _).mono ?_
        rintro e w7 ⟨rfl, hb7⟩
        go_wp2
        go_ret
        exact ⟨rfl, hb7⟩
  · have hb60 : decide ((60 : Int) < (l.length : Int)) = true := decide_eq_true (by omega)
    have hb61 : decide (60 < l.length) = true := decide_eq_true (by omega)
    go_enter Try.func4, Try.ntmps4
    go_wp2_with fail
    refine (again_any _).mono ?_
    rintro e w7 ⟨rfl, hb7⟩
    go_wp2
    go_ret
    exact ⟨rfl, hb7⟩
end Go.Proofs.Ytmgjmpmcadjemaa

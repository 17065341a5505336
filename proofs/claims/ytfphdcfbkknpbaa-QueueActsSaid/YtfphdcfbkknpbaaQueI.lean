/- Package queue: QueueActs. -/
import Derived.Test.YtfphdcfbkknpbaaQueH
namespace Go.Proofs.Ytfphdcfbkknpbaa
open Go.RowKit

/-- an act: its kind and a number -/
def encQ (x : Int × Int) : List Value := [.int .i64 x.1, .int .i64 x.2]
def goodQ (x : Int × Int) : Prop := (-9223372036854775808 ≤ x.1 ∧ x.1 ≤ 9223372036854775807) ∧ (-9223372036854775808 ≤ x.2 ∧ x.2 ≤ 9223372036854775807)

/-- the block of a list that is read -/
def GV (v : Value) (L : List Int) (j : Nat) : Prop := L ≠ [] ∧ v.ownBlock = some j
theorem RInts.keepG {S : Nat → Prop} {w w' : World} {v : Value} {L : List Int} (h : RInts w v L) (k : Keep S w w') (hs : ∀ j, GV v L j → ¬ S j) : RInts w' v L := by
  cases L with
  | nil => exact h.empty
  | cons x L => exact h.keep k (fun b hb => hs b ⟨by simp, hb⟩)
theorem RInts.gv_lt {w : World} {v : Value} {L : List Int} (h : RInts w v L) : ∀ j, GV v L j → j < w.heap.size := by
  intro j ⟨hne, hj⟩
  obtain ⟨a, cap, rfl, _, _⟩ := h.shape
  obtain ⟨b, off, y, rfl, hbb, _⟩ := h.at (k := 0) (by cases L <;> simp_all)
  simp [Value.ownBlock] at hj
  omega

set_option maxRecDepth 100000 in
set_option maxHeartbeats 8000000 in
theorem lawQueueActs {limit : Int} {va : Value} {L : List (Int × Int)} {w : World} (hl1 : -9223372036854775808 ≤ limit) (hl2 : limit ≤ 9223372036854775807) (hv : RS w va L encQ 2 goodQ) :
    Calls Try.prog 13 #[.int .i64 limit, va] w fun e w' => e = .returned (.bool true) ∧ Below w.heap.size w w' := by
  have HV := Lib.hid hv
  obtain ⟨a, cap, rfl, hc1, hc2⟩ := hv.shape
  clear hv
  by_cases hbig : L.length ≤ 60
  · have hb60 : decide ((60 : Int) < (L.length : Int)) = false := decide_eq_false (by omega)
    by_cases hlim : 1 ≤ limit ∧ limit ≤ 1099511627776
    · obtain ⟨p1, p2⟩ := hlim
      have d1 : decide (limit < 1) = false := decide_eq_false (by omega)
      have d2 : decide (1099511627776 < limit) = false := decide_eq_false (by omega)
      go_enter Try.func13, Try.ntmps13
      go_wp2_with fail
      refine (znew_q limit (fun _ => False) w.heap.size w p1 p2 (Nat.le_refl _) (fun _ h => h.elim)).mono ?_
      rintro e w1 ⟨b, rfl, q0, hb0, -⟩
      have HQ := Lib.hid (q0.less (G' := GV (.slice none 0 0) []) (fun j h => absurd rfl h.1))
      clear q0 d1 d2
      go_wp2
      go_loopw [7, 9, 10, 11, 12, 39] (fun vl x y z u i wr => ∃ (k : Nat) (l : List Int), k ≤ L.length ∧ i = .int .i64 k ∧ Hid (RInts wr vl l) ∧ Hid (NilOk vl) ∧ Hid (QZ (GV vl l) w.heap.size b limit l wr) ∧ Hid (l.Nodup ∧ l.length ≤ k) ∧ Below w.heap.size w wr) (fun _ _ _ _ _ i _ => L.length - (intOf i).toNat)
      case atStart => exact ⟨0, [], Nat.zero_le _, rfl, RInts.nil _, NilOk.none, HQ.out, ⟨by simp, Nat.le_refl _⟩, hb0⟩
      case round =>
        obtain ⟨k, l, hk, rfl, HR, HZ, HQ, HN, hbel⟩ := hrel
        have hsz := hbel.size
        by_cases hlt : k < L.length
        · obtain ⟨b2, off2, x, rfl, hbb2, hx, hgx, hcx⟩ := (HV.out.below hbel).at hlt
          obtain ⟨xk, xn⟩ := x
          have hc0 : wr.cell? ⟨b2, off2 + k * 2, none⟩ = some (.int .i64 xk) := hcx 0 _ rfl
          have hc1 : wr.cell? ⟨b2, off2 + k * 2 + 1, none⟩ = some (.int .i64 xn) := hcx 1 _ rfl
          obtain ⟨_, gn1, gn2⟩ := hgx
          dsimp only at gn1 gn2
          have hal := below_alloc wr (.cells #[.int .i64 xk, .int .i64 xn] 72 (0, 0))
          have HC := Lib.hid (act_any _ l limit xk xn _ (HR.out.below hal) HZ.out (by have := HN.out.2; omega) HN.out.1 gn1 gn2)
          have HA := Lib.hid (Blk.new wr [.int .i64 xk, .int .i64 xn] 72)
          have HAL := Lib.hid hal
          have hbelA := hbel.trans (below_of hal hsz)
          have HNL := Lib.hid (show (stL limit l xk xn).Nodup ∧ (stL limit l xk xn).length ≤ k + 1 from ⟨stL_nodup HN.out.1, by have := stL_len limit l xk xn; have := HN.out.2; omega⟩)
          have HDO := Lib.hid (fun (G : Nat → Prop) (w : World) (h : QZ G w.heap.size b limit l w) => trivial)
          clear hx hcx hal HDO
          go_wp2_with fail
          refine HC.out.mono ?_
          rintro e w2 ⟨v2, rfl, hr2, hz2, hb2, hf2⟩
          obtain ⟨L2, hL2⟩ : ∃ z, stL limit l xk xn = z := ⟨_, rfl⟩
          obtain ⟨N, hN⟩ : ∃ z, stN l xk = z := ⟨_, rfl⟩
          obtain ⟨E, hE⟩ : ∃ z, stE limit l xk xn = z := ⟨_, rfl⟩
          have HD0 := Lib.hid (fun (G : Nat → Prop) (w' : World) (h : QZ G w.heap.size b limit l w') => done_any G w.heap.size b limit l xk xn w' h (by have := HN.out.2; omega) gn1 gn2)
          unfold Done at HD0
          rw [hL2] at hr2 HNL hf2 HD0
          rw [hN, hE] at HD0 ⊢
          clear hL2 hN hE HC
          obtain ⟨a2, cap2, hv2, _, _⟩ := hr2.shape
          subst hv2
          have hal2 := below_alloc w2 (.cells #[.slice a2 L2.length cap2, .int .i64 N, .int .i64 E] 74 (0, 0))
          have hbr := below_two HAL.out (below_two hb2 hal2)
          have hq3 := HQ.out.more (G' := fun j => GV (.slice a2 L2.length cap2) L2 j ∨ (j = wr.heap.size ∨ j = w2.heap.size)) hbr (fun j hj => by
            have h1 := hb2.size
            simp only [World.size_alloc] at h1 ⊢
            rcases hj with h | h | h
            · rcases hf2 h.1 j h.2 with h3 | h3
              · exact .inl h3
              · have := hr2.gv_lt j h
                simp only [World.size_alloc] at h3
                exact .inr ⟨by omega, by omega⟩
            · exact .inr ⟨by omega, by omega⟩
            · exact .inr ⟨by omega, by omega⟩)
          have HD := Lib.hid (HD0.out _ _ hq3)
          have HR3 := Lib.hid (hr2.below hal2)
          have HT := Lib.hid (Blk.new w2 [.slice a2 L2.length cap2, .int .i64 N, .int .i64 E] 74)
          have HA3 := Lib.hid ((HA.out.below hb2).below hal2)
          have hg0 := HA3.out.cell (i := 0) (x := .int .i64 xk) rfl
          have hg1 := HA3.out.cell (i := 1) (x := .int .i64 xn) rfl
          have HZ2 := Lib.hid hz2
          have hbel3 := hbel.trans (below_of hbr hsz)
          clear HD0 hr2 hz2 hb2 hf2 hal2 hbr hq3 hbelA hc0 hc1 HAL HA
          go_wp2_with fail
          refine HD.out.mono ?_
          rintro e w4 ⟨rfl, hq4, hk4⟩
          have HR4 := Lib.hid (HR3.out.keepG hk4 (fun j hj hz => hz.2 (.inl hj)))
          have HT4 := Lib.hid (HT.out.keep hk4 (fun hz => hz.2 (.inr (.inr rfl))))
          have HA4 := Lib.hid (HA3.out.keep hk4 (fun hz => hz.2 (.inr (.inl rfl))))
          have HQ4 := Lib.hid hq4
          have hbel4 := hbel3.trans (zone_below hk4 hbel3.size)
          have c40 := HT4.out.cell (i := 0) (x := .slice a2 L2.length cap2) rfl
          have c41 := HT4.out.cell (i := 1) (x := .int .i64 N) rfl
          have c42 := HT4.out.cell (i := 2) (x := .int .i64 E) rfl
          have ca1 := HA4.out.cell (i := 1) (x := .int .i64 xn) rfl
          clear HD hq4 hk4 HR3 HT HA3 HQ hg0 hg1
          have t1 : (E != E) = false := by simp
          have t2 : (N != N) = false := by simp
          have t3 : ((L2.length : Int) != (L2.length : Int)) = false := by simp
          obtain ⟨hb5, hhb⟩ : ∃ z, hasI L2 xn = z := ⟨_, rfl⟩
          obtain ⟨pl, hpl⟩ : ∃ z, placeI L2 xn = z := ⟨_, rfl⟩
          have t4 : (hb5 != decide (0 ≤ pl)) = false := by
            have := placeI_has L2 xn
            rw [hhb, hpl] at this
            cases hb5 with
            | true => rw [decide_eq_true (this.2 rfl)]; rfl
            | false => rw [decide_eq_false (fun h => by have := this.1 h; cases this)]; rfl
          have t5 : (!(hb5 == decide (0 ≤ pl))) = false := t4
          have HHA := Lib.hid (fun (G : Nat → Prop) (w' : World) (h : QZ G w.heap.size b limit L2 w') => zhas_any G w.heap.size b limit L2 xn w' h)
          have HPL := Lib.hid (fun (v : Value) (w' : World) (h : RInts w' v L2) => place_any v L2 xn w' h)
          rw [hhb] at HHA
          rw [hpl] at HPL
          clear hhb hpl
          go_wp2
          have hln : (L2.length : Int) ≤ 1000 := by have := HNL.out.2; omega
          go_region_with (first | (go_at_call 35; refine (zall_any _ w.heap.size b limit L2 _ (HQ4.out.below (Below.drew (Below.refl _ _))) (by omega)).mono ?_; rintro e w6 ⟨v3, rfl, hr3, hf3, hb3⟩; have HB6 := Lib.hid (below_two (Below.drew (Below.refl _ w4)) hb3); have HR6 := Lib.hid hr3; have HR64 := Lib.hid (HR4.out.below HB6.out); clear hr3 hf3 hb3) | (go_at_call 38; refine (ints_same v3 _ L2 w6 HR6.out HR64.out).mono ?_; rintro e w7 ⟨rfl, hd7⟩; have HB7 := Lib.hid (below_two HB6.out (below_drawn hd7)); have c7a := (HA4.out.below HB7.out).cell (i := 1) (x := .int .i64 xn) rfl; have HQ7 := Lib.hid (HQ4.out.below HB7.out); have HR7 := Lib.hid (HR4.out.below HB7.out); clear hd7) | (go_at_call 53; refine (zlen_any _ w.heap.size b limit L2 _ HQ7.out).mono ?_; rintro e w8 ⟨rfl, rfl⟩) | (go_at_call 54; refine (HHA.out _ _ HQ7.out).mono ?_; rintro e w8 ⟨rfl, rfl⟩) | (go_at_call 33; refine (HPL.out _ _ HR7.out).mono ?_; rintro e w8 ⟨rfl, rfl⟩))
          all_goals
            have HN2 := Lib.hid (show Hid (QZ (GV (.slice a2 L2.length cap2) L2) w.heap.size b limit L2 w7) ∧ Below w.heap.size w w7 from ⟨HQ7.out.less (fun j h => .inl h), hbel4.trans (below_of HB7.out hbel4.size)⟩)
            clear c40 c41 c42 ca1 c7a HHA HPL
            go_wp2
            go_roundw
            case rel => exact ⟨k + 1, L2, by omega, by go_num, HR7.out, HZ2.out, HN2.out.1, HNL.out, HN2.out.2⟩
            case measure => simp [intOf]; omega
        · obtain rfl : k = L.length := by omega
          obtain ⟨n2, hn2⟩ : ∃ z, l.length = z := ⟨_, rfl⟩
          have HLE := Lib.hid (zlen_any _ w.heap.size b limit l wr HQ.out)
          rw [hn2] at HLE
          obtain ⟨a3, cap3, hv3, _, _⟩ := HR.out.shape
          rw [hn2] at hv3
          subst hv3
          clear hn2
          have t3 : ((n2 : Int) == (n2 : Int)) = true := by simp
          go_wp2_with fail
          refine HLE.out.mono ?_
          rintro e w5 ⟨rfl, rfl⟩
          clear HLE
          go_wp2_with fail
          refine (qthree_any _).mono ?_
          rintro e w7 ⟨rfl, hb7⟩
          have hbel7 := hbel.trans (below_of hb7 hsz)
          clear hb7
          go_wp2
          go_ret
          exact ⟨rfl, hbel7⟩
    · have HBAD := Lib.hid (qnew_bad limit w hlim)
      by_cases d : limit < 1
      · have d1 : decide (limit < 1) = true := decide_eq_true d
        clear hlim d
        go_enter Try.func13, Try.ntmps13
        go_wp2_with fail
        refine HBAD.out.mono ?_
        rintro e w1 ⟨rfl, rfl⟩
        go_wp2_with fail
        refine (qthree_any _).mono ?_
        rintro e w7 ⟨rfl, hb7⟩
        go_wp2
        go_ret
        exact ⟨rfl, hb7⟩
      · have d1 : decide (limit < 1) = false := decide_eq_false d
        have d2 : decide (1099511627776 < limit) = true := decide_eq_true (by omega)
        clear hlim d
        go_enter Try.func13, Try.ntmps13
        go_wp2_with fail
        refine HBAD.out.mono ?_
        rintro e w1 ⟨rfl, rfl⟩
        go_wp2_with fail
        refine (qthree_any _).mono ?_
        rintro e w7 ⟨rfl, hb7⟩
        go_wp2
        go_ret
        exact ⟨rfl, hb7⟩
  · have hb60 : decide ((60 : Int) < (L.length : Int)) = true := decide_eq_true (by omega)
    go_enter Try.func13, Try.ntmps13
    go_wp2_with fail
    refine (qthree_any _).mono ?_
    rintro e w7 ⟨rfl, hb7⟩
    go_wp2
    go_ret
    exact ⟨rfl, hb7⟩

theorem act29_hel {H : Type} {en : TypeId × Value → H} {w : World} (n : Nat) (cs : List Value) (y : DataW H × List MemPlace)
    (h : DataW.trod en Try.prog w 0 (fun _ => true) true n 72 cs = some y) : ∃ x, cs = encQ x ∧ goodQ x := by
  have c1 : Try.prog.cellsOf 3 = 1 := by kernel_rfl
  have c2 : Try.prog.cellsOf 72 = 2 := by kernel_rfl
  obtain ⟨xs, m, _, _, hlen, hxl, hf⟩ := DataW.trod_struct Try.underlying72 h
  rw [c2] at hlen
  have hx3 : xs.length = 2 := hxl
  obtain ⟨_, f0⟩ := fld hf 0 _ rfl 3 0 rfl rfl c1 (by omega)
  obtain ⟨_, f1⟩ := fld hf 1 _ rfl 3 1 rfl rfl c1 (by omega)
  obtain ⟨t, ht, _, wt⟩ := DataW.trod_int Try.underlying3 f0
  obtain ⟨k, hk, _, wk⟩ := DataW.trod_int Try.underlying3 f1
  exact ⟨(t, k), list2 hlen (cells_one ht) (cells_one hk), wf64 wt, wf64 wk⟩
end Go.Proofs.Ytfphdcfbkknpbaa

/- Package queue: QueueRound. -/
import Derived.Test.YtfphdcfbkknpbaaQueE
namespace Go.Proofs.Ytfphdcfbkknpbaa
open Go.RowKit

theorem stays_rints {w0 : World} (v : Value) (m : List Int) (h0 : RInts w0 v m) : ∃ ov : Option Nat, Stays (fun w => RInts w v m) ov ∧ ∀ g, ov = some g → v.ownBlock = some g ∧ g < w0.heap.size := by
  cases m with
  | nil =>
    refine ⟨none, fun S w w' h k _ => ?_, fun g hg => by cases hg⟩
    obtain ⟨⟨a, c, he, h1, h2, h3⟩, h4⟩ := h
    exact ⟨⟨a, c, he, h1, h2, fun hp => absurd hp (by decide)⟩, h4⟩
  | cons x m =>
    refine ⟨v.ownBlock, fun S w w' h k hs => RInts.keep h k hs, fun g hg => ⟨hg, ?_⟩⟩
    obtain ⟨a, cap, rfl, _, _⟩ := h0.shape
    obtain ⟨b, off, y, rfl, hbb, _⟩ := h0.at (k := 0) (by simp)
    simp [Value.ownBlock] at hg
    omega

theorem rot_step {m : List Int} {j : Nat} {x : Int} (hx : m[j]? = some x) : (m.drop j ++ m.take j).headD 0 = x ∧ rotL (m.drop j ++ m.take j) = m.drop (j + 1) ++ m.take (j + 1) ∧ popE (m.drop j ++ m.take j) = 0 := by
  obtain ⟨hj, rfl⟩ := List.getElem?_eq_some_iff.1 hx
  rw [List.drop_eq_getElem_cons hj, take_snoc hx]
  exact ⟨rfl, List.append_assoc _ _ _, rfl⟩

set_option maxRecDepth 100000 in
set_option maxHeartbeats 4000000 in
theorem lawQueueRound {v : Value} {L : List Int} {w : World} (hv : RInts w v L) :
    Calls Try.prog 8 #[v] w fun e w' => e = .returned (.bool true) ∧ Below w.heap.size w w' := by
  have HV := Lib.hid hv
  obtain ⟨a, cap, rfl, hc1, hc2⟩ := hv.shape
  clear hv
  by_cases hbig : 100 < L.length
  · go_enter Try.func8, Try.ntmps8
    go_wp2_with fail
    refine (qthree_any _).mono ?_
    rintro e w1 ⟨rfl, hb⟩
    go_wp2
    go_ret
    exact ⟨rfl, hb⟩
  · have HL := Lib.hid (show L.length ≤ 100 by omega)
    have hbig2 : ¬ ((100 : Int) < (L.length : Int)) := by omega
    clear hbig
    go_enter Try.func8, Try.ntmps8
    go_wp2_with fail
    refine (lnew_q 1000 _ (by decide) (by decide)).mono ?_
    rintro e w1 ⟨b, rfl, q0, hb0⟩
    have HQ := Lib.hid q0
    clear q0
    go_wp2
    go_loopw [6, 21] (fun x i wr => ∃ k : Nat, k ≤ L.length ∧ i = .int .i64 k ∧ Hid (QLive w.heap.size b 1000 (pushAll (L.take k)) wr) ∧ Below w.heap.size w wr) (fun _ i _ => L.length - (intOf i).toNat)
    case atStart => exact ⟨0, Nat.zero_le _, rfl, HQ.out, hb0⟩
    case round =>
      obtain ⟨k, hk, rfl, HQ, hbel⟩ := hrel
      have hsz := hbel.size
      by_cases hlt : k < L.length
      · obtain ⟨b2, off, x, rfl, hbb, hx, hcx, hx1, hx2⟩ := (HV.out.below hbel).at hlt
        have HS := Lib.hid (pushAll_take hx)
        have HLEN := Lib.hid (pushAll_len L k HL.out)
        clear hx
        go_wp2_with fail
        refine (lpush_any _ b 1000 _ x _ HQ.out hsz (by have := HLEN.out; omega) hx1 hx2).mono ?_
        rintro e w2 ⟨rfl, hq2, hb2⟩
        have hbel2 := hbel.trans hb2
        have HQ2 := Lib.hid hq2
        clear hq2 hb2 hbel
        obtain ⟨pe, hpe⟩ : ∃ r, pushE 1000 (pushAll (L.take k)) x = r := ⟨_, rfl⟩
        rw [hpe]
        go_wp2
        go_roundw
        case rel => exact ⟨k + 1, by omega, by go_num, by rw [HS.out]; exact HQ2.out, hbel2⟩
        case measure => simp [intOf]; omega
      · obtain rfl : k = L.length := by omega
        have HLEN := Lib.hid (pushAll_len L L.length HL.out)
        obtain ⟨m, hm⟩ : ∃ W, pushAll (L.take L.length) = W := ⟨_, rfl⟩
        rw [hm] at HLEN HQ
        clear hm
        go_wp2_with fail
        refine (lall_any _ b 1000 m _ HQ.out (by have := HLEN.out; omega)).mono ?_
        rintro e w2 ⟨vw, rfl, hr, hf, hb2⟩
        have hbel2 := hbel.trans (below_of hb2 hbel.size)
        obtain ⟨ov, st, hov⟩ := stays_rints vw m hr
        have hq0 := HQ.out
        have hqs : QSep (fun w => RInts w vw m) w.heap.size b 1000 m ov w2 := by
          obtain ⟨⟨vq, q, fq⟩, hBb⟩ := hq0
          refine ⟨⟨vq, q.below hb2, fq, fun g hg e => ?_⟩, fun e => ?_, fun g hg => (hov g hg).2, hBb, hr, hbel2.size⟩
          · have := hf g (hov g hg).1
            have := Own.lt q.row g e
            omega
          · have := hf b (hov b e).1
            have := q.box.lt
            omega
        have HQS := Lib.hid (show QSep (fun w => RInts w vw m) w.heap.size b 1000 (m.drop 0 ++ m.take 0) ov w2 by simpa using hqs)
        have HST := Lib.hid st
        obtain ⟨a2, cap2, hve, hca, hcb⟩ := hr.shape
        subst hve
        clear hqs hq0 hb2 hf hr hov st hbel
        go_wp2
        go_loopw [8, 9, 10, 33] (fun x y f i wr => ∃ j : Nat, j ≤ m.length ∧ i = .int .i64 j ∧ Hid (QSep (fun w => RInts w (.slice a2 m.length cap2) m) w.heap.size b 1000 (m.drop j ++ m.take j) ov wr) ∧ Below w.heap.size w wr) (fun _ _ _ i _ => m.length - (intOf i).toNat)
        case atStart => exact ⟨0, Nat.zero_le _, rfl, HQS.out, hbel2⟩
        case round =>
          obtain ⟨j, hj, rfl, HQ2, hbel3⟩ := hrel
          have hsz2 := hbel3.size
          by_cases hlt2 : j < m.length
          · obtain ⟨b2, off, x, rfl, hbb, hx, hcx, hx1, hx2⟩ := HQ2.out.p.at hlt2
            obtain ⟨e1, e2, e3⟩ := rot_step hx
            have E2 := Lib.hid e2
            have HLL := Lib.hid (show (m.drop j ++ m.take j).length ≤ 1000 by have := HLEN.out; simp; omega)
            clear hx e2
            go_wp2_with fail
            refine (lfront_any _ b 1000 _ _ HQ2.out.live HLL.out).mono ?_
            rintro e w3 ⟨rfl, rfl⟩
            rw [e1, e3]
            clear e1 e3
            go_wp2_with fail
            refine (srot_any _ _ b 1000 _ _ _ HST.out HQ2.out HLL.out).mono ?_
            rintro e w3 ⟨rfl, hq3, hb3⟩
            rw [E2.out] at hq3
            have hbel4 := hbel3.trans hb3
            have HQ3 := Lib.hid hq3
            clear hq3 hb3 hbel3
            go_wp2
            go_roundw
            case rel => exact ⟨j + 1, by omega, by go_num, HQ3.out, hbel4⟩
            case measure => simp [intOf]; omega
          · obtain rfl : j = m.length := by omega
            have hq3 := HQ2.out
            rw [List.drop_length, List.take_length, List.nil_append] at hq3
            have HQ3 := Lib.hid hq3
            clear hq3
            go_wp2_with fail
            refine (lall_any _ b 1000 m _ HQ3.out.live (by have := HLEN.out; omega)).mono ?_
            rintro e w3 ⟨v3, rfl, hr3, hf3, hb3⟩
            have hrw := (QSep.below HST.out HQ3.out hb3).1.p
            have hbel4 := hbel3.trans (below_of hb3 hbel3.size)
            clear hb3 hf3 hbel3
            go_wp2_with fail
            refine (ints_same v3 _ m _ hr3 hrw).mono ?_
            rintro e w4 ⟨rfl, hd4⟩
            have hbel5 := hbel4.trans (below_of (below_drawn hd4) hbel4.size)
            clear hd4 hbel4 hr3 hrw
            go_wp2_with fail
            refine (qthree_any _).mono ?_
            rintro e w5 ⟨rfl, hb5⟩
            have hbel6 := hbel5.trans (below_of hb5 hbel5.size)
            clear hb5 hbel5
            go_wp2
            go_ret
            exact ⟨rfl, hbel6⟩

end Go.Proofs.Ytfphdcfbkknpbaa

/- Package canon: Put and Get at a Code. -/
import Derived.Test.YtjpjdecbkekcfaaCanO
import Derived.Test.YtjpjdecbkekcfaaCanQ
import Derived.Test.YtjpjdecbkekcfaaBitB
import Derived.Test.YtjpjdecbkekcfaaBitC
namespace Go.Proofs.Ytjpjdecbkekcfaa
open Go.RowKit

theorem put_small {all : List Bool} {x n : Nat} (hx : x < 2 ^ n) (hn : n ≤ 32) : putE x (n : Int) = 0 ∧ putA all x (n : Int) = all ++ fieldL x n := by
  have hf : fitsB x (n : Int) = true := by
    unfold fitsB
    simp only [Bool.and_eq_true, decide_eq_true_eq]
    refine ⟨by omega, by omega, ?_⟩
    rw [Int.toNat_natCast]
    exact hx
  unfold putE putA
  rw [hf, if_pos rfl, if_pos rfl, Int.toNat_natCast]
  exact ⟨rfl, rfl⟩

set_option maxHeartbeats 1000000 in
theorem cput_any (G : Nat → Prop) (B b : Nat) (all : List Bool) (k p : Nat) (l : List Int) (s : Nat) (w : World) (hw : wholeC l = true) (hc : CodeAt w p l) (hs : s < l.length) (h : WLive G B b all k w) (hl : all.length ≤ 900000000) :
    Calls Try.prog 28 #[.pointer (some ⟨p, 0, none⟩), .pointer (some ⟨b, 0, none⟩), .int .i64 (s : Int)] w fun e w' => e = .returned (.int .i64 0) ∧ WActs G B b (all ++ cwC l s) k w w' := by
  have hx : l[s]? = some l[s] := List.getElem?_eq_getElem hs
  obtain ⟨n, h1, h2⟩ := whole_at hw hx
  rw [h1] at hx
  have hlt := nowC_lt hw h2 hx
  have hle : (2 : Nat) ^ (n + 1) ≤ 1048576 := Nat.le_trans (Nat.pow_le_pow_right (by decide) h2) (by decide)
  rw [cwC_of hx]
  have HO := cof_any p l s _ w hc hx
  rw [codeC_of hx] at HO
  obtain ⟨m, hm⟩ : ∃ z, n + 1 = z := ⟨_, rfl⟩
  rw [hm] at HO hlt h2 hle ⊢
  obtain ⟨q, hq⟩ : ∃ z, nowC l m s = z := ⟨_, rfl⟩
  rw [hq] at HO hlt ⊢
  have e := put_small (all := all) hlt (by omega)
  have HP := Lib.hid (fun w h => lwput_any G B b all k q (m : Int) w h hl (by omega))
  rw [e.1, e.2] at HP
  have H := Lib.hid h
  have HO := Lib.hid HO
  clear e hq hm hle hlt hx h1 h2 h hc hl
  go_enter Try.func28, Try.ntmps28
  go_wp2_with fail
  refine HO.out.mono ?_
  rintro e w1 ⟨rfl, hb⟩
  have HB := Lib.hid hb
  have H1 := Lib.hid (H.out.below hb)
  clear hb HO
  go_wp2_with fail
  refine (HP.out w1 H1.out).mono ?_
  rintro e w2 ⟨rfl, ha⟩
  have HA := Lib.hid ha
  clear ha HP
  go_wp2
  go_ret
  exact ⟨rfl, HA.out.1, (Keep.of_below HB.out _).trans HA.out.2⟩
theorem cput_out (p b : Nat) (l : List Int) (n : Int) (w : World) (h : CodeAt w p l) (hn : n < 0 ∨ (l.length : Int) ≤ n) : Calls Try.prog 28 #[.pointer (some ⟨p, 0, none⟩), .pointer (some ⟨b, 0, none⟩), .int .i64 n] w fun e w' => e = .returned (.int .i64 1) ∧ w = w' := by
  have HO := Lib.hid (cof_out p l n w h hn)
  clear h hn
  go_enter Try.func28, Try.ntmps28
  go_wp2_with fail
  refine HO.out.mono ?_
  rintro e w1 ⟨rfl, rfl⟩
  go_wp2
  go_ret
  exact ⟨rfl, rfl⟩

theorem drop_one {l : List Bool} {a : Nat} {x : Bool} {r : List Bool} (h : l.drop a = x :: r) : l.drop (a + 1) = r ∧ a < l.length := by
  constructor
  · rw [← List.drop_drop, h]; rfl
  · have := congrArg List.length h
    rw [List.length_drop, List.length_cons] at this
    omega
theorem rget_bit (r : Nat) (S : List UInt8) (d a : Nat) (x : Bool) (t : List Bool) (w : World) (h : ReaderAt w r S d a) (hx : (bitsL S).drop a = x :: t) :
    Calls Try.prog 73 #[.pointer (some ⟨r, 0, none⟩), .int .i64 1] w fun e w' => e = .returned (.tuple #[.int .u32 (x.toNat : Nat), .int .i64 0]) ∧ RDid r S d (a + 1) w w' := by
  have hl := (drop_one hx).2
  rw [bitsL_len] at hl
  have := rget_ok r S d a 1 w h (by decide) (by omega)
  have e : getBits S a 1 = [x] := by unfold getBits; rw [hx]; rfl
  have e2 : numL [x] = x.toNat := by simp [numL]
  rw [e, e2] at this
  exact this
theorem rget_end (r : Nat) (S : List UInt8) (d a : Nat) (w : World) (h : ReaderAt w r S d a) (hx : (bitsL S).drop a = []) :
    Calls Try.prog 73 #[.pointer (some ⟨r, 0, none⟩), .int .i64 1] w fun e w' => e = .returned (.tuple #[.int .u32 0, .int .i64 3]) ∧ Below w.heap.size w w' := by
  have hl := congrArg List.length hx
  rw [List.length_drop, bitsL_len, List.length_nil] at hl
  refine (rget_short r S d a 1 w h (by decide) (by omega)).mono ?_
  rintro e w' ⟨rfl, hd⟩
  exact ⟨rfl, below_drawn hd⟩

/-- what Get tells: a symbol with whose code the bits begin, or that there is none -/
def Got (l : List Int) (r : Nat) (S : List UInt8) (d a : Nat) (w : World) (e : Ending) (w' : World) : Prop :=
  (∃ s, s < l.length ∧ begB ((bitsL S).drop a) (cwC l s) = true ∧ e = .returned (.tuple #[.int .i64 (s : Int), .int .i64 0]) ∧ RDid r S d (a + (cwC l s).length) w w') ∨
  ((∀ s, s < l.length → begB ((bitsL S).drop a) (cwC l s) = false) ∧ e = .returned (.tuple #[.int .i64 0, .int .i64 3]) ∧ ∃ a2, RDid r S d a2 w w')
theorem RDid.bel {B r : Nat} {S : List UInt8} {d a : Nat} {w0 w w' : World} (hb : Below B w0 w) (h : RDid r S d a w w') (hr : B ≤ r) (hB : B ≤ w.heap.size) : Below B w0 w' :=
  hb.trans (h.2.below hB (fun j hj e => by have e' : j = r := e; omega))

set_option maxHeartbeats 4000000 in
theorem cgetin_any (w0 : World) (p r : Nat) (l : List Int) (S : List UInt8) (d a : Nat) (w : World) (hw : wholeC l = true) (hsz : l.length ≤ 258) (hc : CodeAt w0 p l) (hb : Below w0.heap.size w0 w) (hr : w0.heap.size ≤ r) (h : ReaderAt w r S d a) :
    Calls Try.prog 58 #[.pointer (some ⟨p, 0, none⟩), .pointer (some ⟨r, 0, none⟩)] w (Got l r S d a w) := by
  have HC := Lib.hid hc
  have HB0 := Lib.hid hb
  have H := Lib.hid h
  have HR := Lib.hid hr
  clear hc hb h hr
  go_enter Try.func58, Try.ntmps58
  go_wp2
  go_loopw [6, 7] (fun cv nv w1 => ∃ (m : Nat), m ≤ 20 ∧ nv = .int .i64 ((m : Int) + 1) ∧ cv = .int .i64 (numL (((bitsL S).drop a).take m) : Int) ∧ Hid (m ≤ ((bitsL S).drop a).length ∧ endC l m ≤ numL (((bitsL S).drop a).take m)) ∧ Hid (RDid r S d (a + m) w w1)) (fun _ nv _ => (21 - intOf nv).toNat)
  case atStart =>
    exact ⟨0, by omega, rfl, rfl, ⟨Nat.zero_le _, Nat.zero_le _⟩, RDid.same H.out (Below.refl _ _)⟩
  case round =>
    obtain ⟨m, hm, rfl, rfl, HI, HD⟩ := hrel
    have hm19 : m < 20 := by
      rcases Nat.lt_or_ge m 20 with h | h
      · exact h
      · exfalso
        obtain rfl : m = 20 := by omega
        have h1 := HI.out.2
        rw [endC_20 hw] at h1
        have h2 := numL_lt (((bitsL S).drop a).take 20)
        rw [List.length_take, Nat.min_eq_left HI.out.1] at h2
        have h3 : (2 : Nat) ^ 20 = 1048576 := rfl
        omega
    obtain ⟨n, hn⟩ : ∃ n, m + 1 = n := ⟨_, rfl⟩
    have HN := Lib.hid hn
    have hni : (m : Int) + 1 = (n : Int) := by omega
    have hn1 : 1 ≤ n := by omega
    have hn20 : n ≤ 20 := by omega
    have hn20i : (n : Int) ≤ 20 := by omega
    have hnl : n < 21 := by omega
    have hnl2 : n < 22 := by omega
    have hnli : (n : Int) < 21 := by omega
    have hnli2 : (n : Int) < 22 := by omega
    have hn0 : (0 : Int) ≤ (n : Int) := by omega
    rw [hni]
    have hnw : IntKind.i64.wrap ((n : Int) + 1) = (n : Int) + 1 := IntWalk.i64_in _ (by omega)
    obtain ⟨k, hk⟩ : ∃ k, n + 1 = k := ⟨_, rfl⟩
    have hki : (n : Int) + 1 = (k : Int) := by omega
    have hkw : IntKind.i64.wrap (k : Int) = (k : Int) := IntWalk.i64_in _ (by omega)
    have hkl2 : k < 22 := by omega
    have hkli2 : (k : Int) < 22 := by omega
    have hk0 : (0 : Int) ≤ (k : Int) := by omega
    have HK := Lib.hid hk
    obtain ⟨c0, hc0⟩ : ∃ z, numL (((bitsL S).drop a).take m) = z := ⟨_, rfl⟩
    have HC0 := Lib.hid hc0
    have hc0b : c0 < 1048576 := by
      have h2 := numL_lt (((bitsL S).drop a).take m)
      rw [List.length_take, Nat.min_eq_left HI.out.1] at h2
      have h3 : (2 : Nat) ^ m ≤ 2 ^ 20 := Nat.pow_le_pow_right (by decide) (by omega)
      have h4 : (2 : Nat) ^ 20 = 1048576 := rfl
      omega
    rw [hc0]
    clear hc0 hn hk hm hm19
    cases hdr : (bitsL S).drop (a + m) with
    | nil =>
      have HG := Lib.hid (rget_end r S d (a + m) wr HD.out.1 hdr)
      have HFIN := Lib.hid (show ∀ s, s < l.length → begB ((bitsL S).drop a) (cwC l s) = false from fun s hs => by
        have hlen : ((bitsL S).drop a).length = m := by
          have h1 : (((bitsL S).drop a).drop m).length = 0 := by rw [List.drop_drop, hdr]; rfl
          rw [List.length_drop] at h1
          have := HI.out.1
          omega
        by_cases hle : (l.getD s 0).toNat ≤ m
        · exact no_hit hw HI.out.1 hs HI.out.2 hle
        · unfold begB
          rw [decide_eq_false (by rw [cwC_len, hlen]; omega), Bool.false_and])
      clear hdr
      go_wp2_with fail
      refine HG.out.mono ?_
      rintro e w1 ⟨rfl, hb⟩
      have HB := Lib.hid hb
      clear hb HG
      go_wp2
      go_ret2
      exact .inr ⟨HFIN.out, rfl, _, HD.out.trans (RDid.same HD.out.1 HB.out)⟩
    | cons x t =>
      have HG := Lib.hid (rget_bit r S d (a + m) x t wr HD.out.1 hdr)
      have hdr2 : ((bitsL S).drop a).drop m = x :: t := by rw [List.drop_drop, hdr]
      have hlen : m + 1 ≤ ((bitsL S).drop a).length := by
        have h1 := congrArg List.length hdr2
        rw [List.length_drop, List.length_cons] at h1
        omega
      have hc := miss_next hdr2
      obtain ⟨e, he⟩ : ∃ z, 2 * endC l m = z := ⟨_, rfl⟩
      obtain ⟨f, hf⟩ : ∃ z, (ordC l m).length = z := ⟨_, rfl⟩
      obtain ⟨g, hg⟩ : ∃ z, (ordC l n).length = z := ⟨_, rfl⟩
      obtain ⟨c, hcc⟩ : ∃ z, numL (((bitsL S).drop a).take (m + 1)) = z := ⟨_, rfl⟩
      obtain ⟨xb, hxb⟩ : ∃ z, x.toNat = z := ⟨_, rfl⟩
      have hxb1 : xb ≤ 1 := by rw [← hxb]; cases x <;> decide
      have hinv := HI.out.2
      rw [HC0.out] at hinv
      rw [hcc, HC0.out, hxb] at hc
      rw [hxb] at HG
      have hec : e ≤ c := by omega
      have hfb : f ≤ 10000 := by
        rw [← hf]
        exact Nat.le_trans (ordC_len l m) (Nat.le_trans (Nat.mul_le_mul (show m ≤ 20 by omega) hsz) (by decide))
      have hgb : g ≤ 10000 := by
        rw [← hg]
        exact Nat.le_trans (ordC_len l n) (Nat.le_trans (Nat.mul_le_mul hn20 hsz) (by decide))
      obtain ⟨q, hq⟩ : ∃ q, f + (c - e) = q := ⟨_, rfl⟩
      have w1 : IntKind.i64.wrap (xb : Int) = (xb : Int) := IntWalk.i64_in _ (by omega)
      have w2 : IntKind.i64.wrap (2 * (c0 : Int)) = 2 * (c0 : Int) := IntWalk.i64_in _ (by omega)
      have w3 : IntKind.i64.wrap (2 * (c0 : Int) + (xb : Int)) = 2 * (c0 : Int) + (xb : Int) := IntWalk.i64_in _ (by omega)
      have w4 : 2 * (c0 : Int) + (xb : Int) = (c : Int) := by omega
      have w5 : IntKind.i64.wrap (c : Int) = (c : Int) := IntWalk.i64_in _ (by omega)
      have w6 : IntKind.i64.wrap ((f : Int) + (c : Int)) = (f : Int) + (c : Int) := IntWalk.i64_in _ (by omega)
      have w7 : IntKind.i64.wrap ((f : Int) + (c : Int) - (e : Int)) = (f : Int) + (c : Int) - (e : Int) := IntWalk.i64_in _ (by omega)
      have w8 : (f : Int) + (c : Int) - (e : Int) = (q : Int) := by omega
      have w9 : IntKind.i64.wrap (q : Int) = (q : Int) := IntWalk.i64_in _ (by omega)
      have HX := Lib.hid (And.intro hlen (And.intro hcc (And.intro he (And.intro hf (And.intro hg (And.intro hc hq))))))
      have hq0 : (0 : Int) ≤ (q : Int) := by omega
      clear hdr hdr2 hlen hcc he hf hg hc hinv hq hxb
      go_wp2_with fail
      refine HG.out.mono ?_
      rintro e' wn ⟨rfl, hd⟩
      have HD2 := Lib.hid (HD.out.trans hd)
      have hcat := HC.out.below (RDid.bel HB0.out HD2.out HR.out HB0.out.size)
      obtain ⟨vl, vo, gc, b1, -, b3, -⟩ := hcat.ex
      have c1 := b1.cell (cc_from (i := n) (by omega))
      have c2 := b1.cell (cc_first (i := n) (by omega))
      have c3 := b1.cell (cc_from (i := k) (by omega))
      have c4 := b1.cell (i := 2) (x := vo) rfl
      rw [if_pos ⟨hn1, by omega⟩, show n - 1 = m from by have := HN.out; omega, HX.out.2.2.2.1] at c1
      rw [if_pos ⟨hn1, by omega⟩, show n - 1 = m from by have := HN.out; omega, HX.out.2.2.1] at c2
      rw [if_pos ⟨by omega, by omega⟩, show k - 1 = n from by have := HK.out; omega, HX.out.2.2.2.2.1] at c3
      have HB3 := Lib.hid b3
      obtain ⟨ao, co, rfl, hco1, hco2⟩ := b3.shape
      clear hd hcat b1 b3 HG
      by_cases hqg : q < g
      · have hqgi : (q : Int) < (g : Int) := by omega
        have HS := Lib.hid (show ∃ s, l[s]? = some ((m + 1 : Nat) : Int) ∧ nowC l (m + 1) s = c ∧ (ordC l 20)[q]? = some s by
          obtain ⟨x1, x2, x3, x4, x5, x6, x7⟩ := HX.out
          have y1 := ordC_length l m
          have y2 := endC_succ l m
          rw [show n = m + 1 from HN.out.symm] at x5
          have := hit_of (l := l) (n := m) (c := c) (by have := HN.out; omega) (by omega) (by omega)
          rwa [x4, x3, x7] at this)
        obtain ⟨s, q1, q2, q3⟩ := HS.out
        have hqN : q < ((ordC l 20).map nI).length := by rw [List.length_map]; exact (List.getElem?_eq_some_iff.1 q3).1
        obtain ⟨bo, offo, y, rfl, -, hy, hcy, -, -⟩ := HB3.out.at hqN
        rw [List.getElem?_map, q3, Option.map_some] at hy
        obtain rfl : nI s = y := Option.some.inj hy
        have hqNi : (q : Int) < (((ordC l 20).map nI).length : Int) := by omega
        have hs : s < l.length := (List.getElem?_eq_some_iff.1 q1).1
        have HFIN := Lib.hid (show begB ((bitsL S).drop a) (cwC l s) = true ∧ a + (cwC l s).length = a + m + 1 by
          refine ⟨begB_iff.2 ⟨_, hit_begins HX.out.1 q1 (q2.trans HX.out.2.1.symm)⟩, ?_⟩
          rw [cwC_len, getD_of q1, Int.toNat_natCast]
          omega)
        obtain ⟨N, hN⟩ : ∃ z, ((ordC l 20).map nI).length = z := ⟨_, rfl⟩
        rw [hN] at c4 hco1 hqN hqNi
        unfold nI at hcy
        clear HS q1 q2 q3 hy HB3 hqg hN
        go_wp2
        go_quiet (fail)
        go_wp2
        go_ret2
        exact .inl ⟨s, hs, HFIN.out.1, rfl, by rw [HFIN.out.2]; exact HD2.out.trans (RDid.same HD2.out.1 (below_drawn ⟨_, rfl⟩))⟩
      · have hqgi : ¬ (q : Int) < (g : Int) := by omega
        have HIN := Lib.hid (show m + 1 ≤ ((bitsL S).drop a).length ∧ endC l (m + 1) ≤ numL (((bitsL S).drop a).take (m + 1)) by
          obtain ⟨x1, x2, x3, x4, x5, x6, x7⟩ := HX.out
          have y1 := ordC_length l m
          have y2 := endC_succ l m
          rw [show n = m + 1 from HN.out.symm] at x5
          exact ⟨x1, by omega⟩)
        clear HB3
        go_wp2
        go_quiet (fail)
        go_wp2
        go_roundw
        case rel => exact ⟨m + 1, by have := HN.out; omega, by have := HN.out; have := HK.out; go_num, by rw [HX.out.2.1], HIN.out, HD2.out.trans (RDid.same HD2.out.1 (below_drawn ⟨_, rfl⟩))⟩
        case measure => have := HN.out; have := HK.out; simp [intOf]; omega

set_option maxHeartbeats 1000000 in
theorem cget_any (w0 : World) (p r : Nat) (l : List Int) (S : List UInt8) (d a : Nat) (w : World) (hw : wholeC l = true) (hsz : l.length ≤ 258) (hc : CodeAt w0 p l) (hb : Below w0.heap.size w0 w) (hr : w0.heap.size ≤ r) (h : ReaderAt w r S d a) :
    Calls Try.prog 25 #[.pointer (some ⟨p, 0, none⟩), .pointer (some ⟨r, 0, none⟩)] w fun e w' =>
      (∃ s, s < l.length ∧ begB ((bitsL S).drop a) (cwC l s) = true ∧ e = .returned (.tuple #[.int .i64 (s : Int), .int .i64 0]) ∧ RDid r S d (a + (cwC l s).length) w w') ∨
      ((∀ s, s < l.length → begB ((bitsL S).drop a) (cwC l s) = false) ∧ e = .returned (.tuple #[.int .i64 0, .int .i64 3]) ∧ RDid r S d a w w') := by
  have HA := Lib.hid (rat_any r S d a w h)
  have HG := Lib.hid (cgetin_any w0 p r l S d a w hw hsz hc hb hr h)
  have HLO := Lib.hid h.lo
  have HHI := Lib.hid h.hi
  clear hw hsz hc hb hr h
  go_enter Try.func25, Try.ntmps25
  go_wp2_with fail
  refine HA.out.mono ?_
  rintro e w1 ⟨rfl, rfl⟩
  go_wp2_with fail
  refine HG.out.mono ?_
  rintro e w2 (⟨s, hs, hbg, rfl, hd⟩ | ⟨hno, rfl, a2, hd⟩)
  · have H2 := Lib.hid hbg
    have H3 := Lib.hid hd
    clear hbg hd HA HG
    go_wp2
    go_ret2
    exact .inl ⟨s, hs, H2.out, rfl, H3.out⟩
  · have H2 := Lib.hid hno
    have H3 := Lib.hid hd
    have HS := Lib.hid (rseek_ok r S d a2 a w2 hd.1 HLO.out HHI.out)
    clear hno hd HA HG
    go_wp2_with fail
    refine HS.out.mono ?_
    rintro e w3 ⟨rfl, hd3⟩
    have H4 := Lib.hid (H3.out.trans hd3)
    clear hd3 HS
    go_wp2
    go_ret2
    exact .inr ⟨H2.out, rfl, H4.out⟩
end Go.Proofs.Ytjpjdecbkekcfaa

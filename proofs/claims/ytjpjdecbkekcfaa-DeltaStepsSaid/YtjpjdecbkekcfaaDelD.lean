/- Package delta: step, Step. -/
import Derived.Test.YtjpjdecbkekcfaaDelC
namespace Go.Proofs.Ytjpjdecbkekcfaa
open Go.RowKit

theorem RDid.turn {B : Nat} {G : Nat → Prop} {r : Nat} {S : List UInt8} {d a : Nat} {w w' : World} (h : RDid r S d a w w') : Keep (MayTurn B G r) w w' := h.2.mono (fun j _ e => .inl e)
theorem drop_one {l : List Bool} {a : Nat} {x : Bool} {r : List Bool} (h : l.drop a = x :: r) : l.drop (a + 1) = r ∧ a < l.length := by
  constructor
  · rw [← List.drop_drop, h]; rfl
  · have := congrArg List.length h
    rw [List.length_drop, List.length_cons] at this
    omega

/-- what a step leaves -/
def Stp (B : Nat) (G : Nat → Prop) (p r : Nat) (size now : Int) (l : List Int) (S : List UInt8) (d a : Nat) (st : Int × Nat × Int × Bool) (w : World) (x : Ending) (w' : World) : Prop :=
  x = .returned (.int .i64 st.1) ∧ ∃ a2, DS B G w' p r size st.2.2.1 (if st.2.2.2 then l ++ [now] else l) (decide (st.1 = 22)) S d a2 ∧ (st.1 ≠ 3 → a2 = a + st.2.1) ∧ Keep (MayTurn B G r) w w'

set_option maxHeartbeats 1000000 in
theorem dstep_first (B : Nat) (G : Nat → Prop) (p r : Nat) (size : Int) (l : List Int) (S : List UInt8) (d a : Nat) (w : World) (h : DS B G w p r size 0 l false S d a) (hB : B ≤ w.heap.size) :
    Calls Try.prog 68 #[.pointer (some ⟨p, 0, none⟩), .pointer (some ⟨r, 0, none⟩)] w (Stp B G p r size 0 l S d a (stepD 0 ((bitsL S).drop a)) w) := by
  obtain ⟨vl, h1, -, -⟩ := h.ex
  have c1 := h1.box.cell (i := 1) (x := .int .i64 0) rfl
  have hlen : ((bitsL S).drop a).length = 8 * S.length - a := by rw [List.length_drop, bitsL_len]
  have hhi := h.rd.hi
  unfold stepD
  rw [if_pos rfl]
  by_cases h5 : ((bitsL S).drop a).length < 5
  · rw [if_pos h5]
    have HG := Lib.hid (rget_short r S d a 5 w h.rd (by decide) (by omega))
    have H := Lib.hid h
    clear h h1 hlen hhi h5
    go_enter Try.func68, Try.ntmps68
    go_wp2_with fail
    refine HG.out.mono ?_
    rintro e w1 ⟨rfl, hd⟩
    have HB := Lib.hid (below_drawn hd)
    clear HG hd
    go_wp2
    go_ret
    exact ⟨rfl, a, H.out.below HB.out, fun h => absurd rfl h, Keep.of_below HB.out _⟩
  · rw [if_neg h5]
    have HG := Lib.hid (rget_ok r S d a 5 w h.rd (by decide) (by omega))
    have hlt := numL_lt (getBits S a 5)
    rw [getBits_len (by omega)] at hlt
    have hv32 : numL (getBits S a 5) < 32 := hlt
    have e0 : ((bitsL S).drop a).take 5 = getBits S a 5 := rfl
    rw [e0]
    obtain ⟨v, hv⟩ : ∃ z, numL (getBits S a 5) = z := ⟨_, rfl⟩
    rw [hv] at HG hv32 ⊢
    have H := Lib.hid h
    have hcv : IntKind.i64.wrap (v : Int) = (v : Int) := IntWalk.i64_in _ (by omega)
    have HT := Lib.hid (fun w h => dturned_ds B G p r size 0 l false S d (a + 5) (v : Int) w h)
    clear h h1 hlen hhi h5 hlt e0 hv
    cases hok : okD (v : Int) with
    | true =>
      rw [hok] at HT
      rw [if_pos rfl]
      clear hok
      go_enter Try.func68, Try.ntmps68
      go_wp2_with fail
      refine HG.out.mono ?_
      rintro e w1 ⟨rfl, hd⟩
      have H1 := Lib.hid (H.out.move hd)
      have HK := Lib.hid (RDid.turn (B := B) (G := G) hd)
      clear HG hd
      go_wp2_with fail
      refine (HT.out _ H1.out).mono ?_
      rintro e w2 ⟨rfl, h2, hk2⟩
      have H2 := Lib.hid h2
      have HK2 := Lib.hid (HK.out.trans hk2)
      clear HT h2 hk2
      go_wp2
      go_ret
      exact ⟨rfl, a + 5, H2.out, fun _ => rfl, HK2.out⟩
    | false =>
      rw [hok] at HT
      rw [if_neg Bool.false_ne_true]
      clear hok
      go_enter Try.func68, Try.ntmps68
      go_wp2_with fail
      refine HG.out.mono ?_
      rintro e w1 ⟨rfl, hd⟩
      have H1 := Lib.hid (H.out.move hd)
      have HK := Lib.hid (RDid.turn (B := B) (G := G) hd)
      clear HG hd
      go_wp2_with fail
      refine (HT.out _ H1.out).mono ?_
      rintro e w2 ⟨rfl, h2, hk2⟩
      have H2 := Lib.hid h2
      have HK2 := Lib.hid (HK.out.trans hk2)
      clear HT h2 hk2
      go_wp2
      go_ret
      exact ⟨rfl, a + 5, H2.out, fun _ => rfl, HK2.out⟩

theorem rget_bit (r : Nat) (S : List UInt8) (d a : Nat) (x : Bool) (t : List Bool) (w : World) (h : ReaderAt w r S d a) (hx : (bitsL S).drop a = x :: t) :
    Calls Try.prog 73 #[.pointer (some ⟨r, 0, none⟩), .int .i64 1] w fun e w' => e = .returned (.tuple #[.int .u32 (x.toNat : Nat), .int .i64 0]) ∧ RDid r S d (a + 1) w w' := by
  have hl := (drop_one hx).2
  rw [bitsL_len] at hl
  have := rget_ok r S d a 1 w h (by decide) (by omega)
  have e : getBits S a 1 = [x] := by unfold getBits; rw [hx]; rfl
  have e2 : numL [x] = x.toNat := by simp [numL]
  rw [e, e2] at this
  exact this
theorem rget_end (r : Nat) (S : List UInt8) (d a : Nat) (w : World) (h : ReaderAt w r S d a) (hx : (bitsL S).drop a = []) :
    Calls Try.prog 73 #[.pointer (some ⟨r, 0, none⟩), .int .i64 1] w fun e w' => e = .returned (.tuple #[.int .u32 0, .int .i64 3]) ∧ Below w.heap.size w w' := by
  have hl := congrArg List.length hx
  rw [List.length_drop, bitsL_len, List.length_nil] at hl
  refine (rget_short r S d a 1 w h (by decide) (by omega)).mono ?_
  rintro e w' ⟨rfl, hd⟩
  exact ⟨rfl, below_drawn hd⟩

set_option maxHeartbeats 2000000 in
set_option maxRecDepth 100000 in
theorem dstep_add (B : Nat) (G : Nat → Prop) (p r : Nat) (size now : Int) (l : List Int) (S : List UInt8) (d a : Nat) (t : List Bool) (w : World) (h : DS B G w p r size now l false S d a) (hB : B ≤ w.heap.size) (hn : 1 ≤ now ∧ now ≤ 20) (hl : l.length ≤ 1000) (hx : (bitsL S).drop a = false :: t) :
    Calls Try.prog 68 #[.pointer (some ⟨p, 0, none⟩), .pointer (some ⟨r, 0, none⟩)] w (Stp B G p r size now l S d a (0, 1, now, true) w) := by
  obtain ⟨i0, hi0, hz0, hz1, hz2⟩ := info_parts intinfo
  have HG := Lib.hid (rget_bit r S d a false t w h.rd hx)
  obtain ⟨vl, h1, -, -⟩ := h.ex
  have c1 := h1.box.cell (i := 1) (x := .int .i64 now) rfl
  have hn0 : (now == 0) = false := beq_eq_false_iff_ne.2 (by omega)
  have H := Lib.hid h
  have HN := Lib.hid hn
  clear h hx h1 hn
  go_enter Try.func68, Try.ntmps68
  go_wp2_with fail
  refine HG.out.mono ?_
  rintro e w2 ⟨rfl, hd⟩
  have h2 := H.out.move hd
  have HK := Lib.hid (RDid.turn (B := B) (G := G) hd)
  obtain ⟨vl2, q1, q2, q3⟩ := h2.ex
  have HFIN := Lib.hid (fun (w3 w4 : World) (gg cap : Nat) => ds_added (w2 := w2) (w3 := w3) (w4 := w4) (gg := gg) (cap := cap) q1 q2 q3 h2.rd h2.ne h2.lo h2.gl (Nat.le_trans hB hd.2.size) HN.out (Below.refl _ _))
  obtain ⟨av, cv, rfl, -, -⟩ := Own.reads q1.row
  have hbx := q1.box
  have d1 := hbx.cell (i := 1) (x := .int .i64 now) rfl
  have d2 := hbx.cell (i := 2) (x := .slice av l.length cv) rfl
  have f2 := hbx.free 2
  have hown : w2.ownsRow 0 3 1 (.slice av l.length cv) l.length (l.map (Value.int .i64)) := q1.row
  have HOWN := Lib.hid hown
  have HBX := Lib.hid hbx
  have HNE := Lib.hid q1.ne
  have hp2 := hbx.lt
  obtain ⟨xs, hxs⟩ : ∃ z, l.map (Value.int .i64) = z := ⟨_, rfl⟩
  rw [hxs] at HOWN HFIN
  have HLEN := Lib.hid hl
  clear HG hd h2 q1 q2 q3 hbx hown c1 H hxs hl
  go_wp2
  go_region_law (refine step_append_lies _ (by rfl) _ _ _ (by rfl) 0 3 i0 _ 1 8 Try.underlying22 hi0 hz0 hz1 hz2 rfl (by omega) (.slice av l.length cv) _ _ (by rfl) ((HOWN.out.alloc _).drew) ⟨w2.heap.size, 0, none⟩ 1 1 [.int .i64 now] (by rfl) (by rfl) (World.news_of_block (cs := #[.int .i64 now]) (t := 3) (fr := (0, 0)) (heap_alloc_new w2 _)) (by simp [Value.oneCell']) (by omega) (by have := HLEN.out; unfold maxLen; omega) (by have := HLEN.out; omega) (Nat.zero_le _) (w2.heap.size + 1) (by simp) ?_; intro gg cap w4 hown4 hgrow hat hlt; have hbx := ((HBX.out.below (below_alloc _ _)).below (Below.drew (Below.refl _ _))).keep (keep_grown hgrow) HNE.out; have hx0 := hbx.cell (i := 0) rfl; have hx1 := hbx.cell (i := 1) (x := .int .i64 now) rfl; have hx2 := hbx.free 2; have hx3 := hbx.cell (i := 2) (x := .slice av l.length cv) rfl)
  all_goals
    have HGW := Lib.hid hgrow
    have HO1 := Lib.hid hown4
    have HA := Lib.hid hat
    clear hgrow hown4 hat hbx HOWN d1 d2 f2 hx0
    go_wp2
    go_ret
    exact (HFIN.out _ _ _ _ (below_two (below_alloc _ _) (Below.drew (Below.refl _ _))) HGW.out HO1.out (HA.out.imp id (fun e => by omega))).elim fun g1 g2 => ⟨rfl, a + 1, g1, fun _ => rfl, HK.out.trans g2⟩

set_option maxHeartbeats 1000000 in
theorem dstep_end (B : Nat) (G : Nat → Prop) (p r : Nat) (size now : Int) (l : List Int) (S : List UInt8) (d a : Nat) (w : World) (h : DS B G w p r size now l false S d a) (hn : 1 ≤ now ∧ now ≤ 20) (hx : (bitsL S).drop a = []) :
    Calls Try.prog 68 #[.pointer (some ⟨p, 0, none⟩), .pointer (some ⟨r, 0, none⟩)] w (Stp B G p r size now l S d a (3, 0, now, false) w) := by
  have HG := Lib.hid (rget_end r S d a w h.rd hx)
  obtain ⟨vl, h1, -, -⟩ := h.ex
  have c1 := h1.box.cell (i := 1) (x := .int .i64 now) rfl
  have hn0 : (now == 0) = false := beq_eq_false_iff_ne.2 (by omega)
  have H := Lib.hid h
  clear h hx h1 hn
  go_enter Try.func68, Try.ntmps68
  go_wp2_with fail
  refine HG.out.mono ?_
  rintro e w1 ⟨rfl, hd⟩
  have HB := Lib.hid hd
  clear HG hd
  go_wp2
  go_ret
  exact ⟨rfl, a, H.out.below HB.out, fun h => absurd rfl h, Keep.of_below HB.out _⟩
set_option maxHeartbeats 1000000 in
theorem dstep_cut (B : Nat) (G : Nat → Prop) (p r : Nat) (size now : Int) (l : List Int) (S : List UInt8) (d a : Nat) (w : World) (h : DS B G w p r size now l false S d a) (hn : 1 ≤ now ∧ now ≤ 20) (hx : (bitsL S).drop a = [true]) :
    Calls Try.prog 68 #[.pointer (some ⟨p, 0, none⟩), .pointer (some ⟨r, 0, none⟩)] w (Stp B G p r size now l S d a (3, 0, now, false) w) := by
  have HG := Lib.hid (rget_bit r S d a true [] w h.rd hx)
  have HX := Lib.hid (drop_one hx).1
  obtain ⟨vl, h1, -, -⟩ := h.ex
  have c1 := h1.box.cell (i := 1) (x := .int .i64 now) rfl
  have hn0 : (now == 0) = false := beq_eq_false_iff_ne.2 (by omega)
  have H := Lib.hid h
  clear h hx h1 hn
  go_enter Try.func68, Try.ntmps68
  go_wp2_with fail
  refine HG.out.mono ?_
  rintro e w1 ⟨rfl, hd⟩
  have H1 := Lib.hid (H.out.move hd)
  have HK := Lib.hid (RDid.turn (B := B) (G := G) hd)
  have HG2 := Lib.hid (rget_end r S d (a + 1) w1 hd.1 HX.out)
  clear HG hd
  go_wp2_with fail
  refine HG2.out.mono ?_
  rintro e w2 ⟨rfl, hb⟩
  have HB := Lib.hid hb
  clear HG2 hb
  go_wp2
  go_ret
  exact ⟨rfl, a + 1, H1.out.below HB.out, fun h => absurd rfl h, HK.out.trans (Keep.of_below HB.out _)⟩
set_option maxHeartbeats 1000000 in
theorem dstep_turn (B : Nat) (G : Nat → Prop) (p r : Nat) (size now : Int) (l : List Int) (S : List UInt8) (d a : Nat) (x : Bool) (t : List Bool) (w : World) (h : DS B G w p r size now l false S d a) (hn : 1 ≤ now ∧ now ≤ 20) (hx : (bitsL S).drop a = true :: x :: t) :
    Calls Try.prog 68 #[.pointer (some ⟨p, 0, none⟩), .pointer (some ⟨r, 0, none⟩)] w (Stp B G p r size now l S d a (if okD (now + 1 - 2 * (x.toNat : Int)) then (0, 2, now + 1 - 2 * (x.toNat : Int), false) else (22, 2, now, false)) w) := by
  have HG := Lib.hid (rget_bit r S d a true _ w h.rd hx)
  have HX := Lib.hid (drop_one hx).1
  obtain ⟨vl, h1, -, -⟩ := h.ex
  have c1 := h1.box.cell (i := 1) (x := .int .i64 now) rfl
  have hn0 : (now == 0) = false := beq_eq_false_iff_ne.2 (by omega)
  have H := Lib.hid h
  have hv : x.toNat ≤ 1 := by cases x <;> decide
  obtain ⟨v, hvv⟩ : ∃ z, x.toNat = z := ⟨_, rfl⟩
  have HV := Lib.hid hvv
  rw [hvv] at hv ⊢
  obtain ⟨n2, hn2⟩ : ∃ z, now + 1 - 2 * (v : Int) = z := ⟨_, rfl⟩
  have e1 : IntKind.i64.wrap (now + 1) = now + 1 := IntWalk.i64_in _ (by omega)
  have e2 : IntKind.i64.wrap (v : Int) = (v : Int) := IntWalk.i64_in _ (by omega)
  have e3 : IntKind.i64.wrap (2 * (v : Int)) = 2 * (v : Int) := IntWalk.i64_in _ (by omega)
  have e4 : IntKind.i64.wrap n2 = n2 := IntWalk.i64_in _ (by omega)
  rw [hn2]
  have HT := Lib.hid (fun w h => dturned_ds B G p r size now l false S d (a + 1 + 1) n2 w h)
  clear h hx h1 hn hvv
  cases hok : okD n2 with
  | true =>
    rw [hok] at HT
    rw [if_pos rfl]
    clear hok
    go_enter Try.func68, Try.ntmps68
    go_wp2_with fail
    refine HG.out.mono ?_
    rintro e w1 ⟨rfl, hd⟩
    have H1 := Lib.hid (H.out.move hd)
    have HK := Lib.hid (RDid.turn (B := B) (G := G) hd)
    have HG2 := Lib.hid (rget_bit r S d (a + 1) x t w1 hd.1 HX.out)
    rw [HV.out] at HG2
    clear HG hd
    go_wp2_with fail
    refine HG2.out.mono ?_
    rintro e w2 ⟨rfl, hd⟩
    have h2 := H1.out.move hd
    obtain ⟨vl2, q1, -, -⟩ := h2.ex
    have d1 := q1.box.cell (i := 1) (x := .int .i64 now) rfl
    have H2 := Lib.hid h2
    have HK2 := Lib.hid (HK.out.trans (RDid.turn (B := B) (G := G) hd))
    clear HG2 hd h2 q1 c1
    go_wp2_with fail
    refine (HT.out _ H2.out).mono ?_
    rintro e w3 ⟨rfl, h3, hk3⟩
    have H3 := Lib.hid h3
    have HK3 := Lib.hid (HK2.out.trans hk3)
    clear HT h3 hk3
    go_wp2
    go_ret
    exact ⟨rfl, a + 1 + 1, H3.out, fun _ => rfl, HK3.out⟩
  | false =>
    rw [hok] at HT
    rw [if_neg Bool.false_ne_true]
    clear hok
    go_enter Try.func68, Try.ntmps68
    go_wp2_with fail
    refine HG.out.mono ?_
    rintro e w1 ⟨rfl, hd⟩
    have H1 := Lib.hid (H.out.move hd)
    have HK := Lib.hid (RDid.turn (B := B) (G := G) hd)
    have HG2 := Lib.hid (rget_bit r S d (a + 1) x t w1 hd.1 HX.out)
    rw [HV.out] at HG2
    clear HG hd
    go_wp2_with fail
    refine HG2.out.mono ?_
    rintro e w2 ⟨rfl, hd⟩
    have h2 := H1.out.move hd
    obtain ⟨vl2, q1, -, -⟩ := h2.ex
    have d1 := q1.box.cell (i := 1) (x := .int .i64 now) rfl
    have H2 := Lib.hid h2
    have HK2 := Lib.hid (HK.out.trans (RDid.turn (B := B) (G := G) hd))
    clear HG2 hd h2 q1 c1
    go_wp2_with fail
    refine (HT.out _ H2.out).mono ?_
    rintro e w3 ⟨rfl, h3, hk3⟩
    have H3 := Lib.hid h3
    have HK3 := Lib.hid (HK2.out.trans hk3)
    clear HT h3 hk3
    go_wp2
    go_ret
    exact ⟨rfl, a + 1 + 1, H3.out, fun _ => rfl, HK3.out⟩

theorem dstep0_any (B : Nat) (G : Nat → Prop) (p r : Nat) (size now : Int) (l : List Int) (S : List UInt8) (d a : Nat) (w : World) (h : DS B G w p r size now l false S d a) (hB : B ≤ w.heap.size) (hn : now = 0 ∨ okD now = true) (hl : l.length ≤ 1000) :
    Calls Try.prog 68 #[.pointer (some ⟨p, 0, none⟩), .pointer (some ⟨r, 0, none⟩)] w (Stp B G p r size now l S d a (stepD now ((bitsL S).drop a)) w) := by
  by_cases h0 : now = 0
  · subst h0
    exact dstep_first B G p r size l S d a w h hB
  · have hok := okD_iff.1 (hn.resolve_left h0)
    unfold stepD
    rw [if_neg h0]
    split
    · rename_i hx
      exact dstep_end B G p r size now l S d a w h hok hx
    · rename_i t hx
      exact dstep_add B G p r size now l S d a t w h hB hok hl hx
    · rename_i hx
      exact dstep_cut B G p r size now l S d a w h hok hx
    · rename_i x t hx
      exact dstep_turn B G p r size now l S d a x t w h hok hx
end Go.Proofs.Ytjpjdecbkekcfaa

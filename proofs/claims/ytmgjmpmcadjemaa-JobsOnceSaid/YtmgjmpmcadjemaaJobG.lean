/- Package jobs: fits, again. -/
import Derived.Test.YtmgjmpmcadjemaaJobF
namespace Go.Proofs.Ytmgjmpmcadjemaa
open Go.RowKit

theorem find_pair {c i : Int} {L : List LV} (hg : ∀ x ∈ L, goodV x) : (findE c i L = 0 ∧ 0 < findH c i L) ∨ (findE c i L = 6 ∧ findH c i L = 0) := by
  unfold findE findH
  cases h : L.find? (isCI c i) with
  | none => exact .inr ⟨rfl, rfl⟩
  | some x => exact .inl ⟨rfl, (hg x (List.mem_of_find?_eq_some h)).2.1⟩

set_option maxHeartbeats 4000000 in
set_option maxRecDepth 100000 in
theorem fits_any (b : Nat) (lim : Int) (last : Nat) (vl v : Value) (R : List RE) (c i t n : Int) (w : World) (h : TabAt w b lim last vl (liveR R)) (hr : RS w v R encR 5 goodR) (hl : R.length ≤ 900) :
    Calls Try.prog 21 #[.pointer (some ⟨b, 0, none⟩), v, .agg #[.int .i64 c, .int .i64 i, .int .i64 t, .int .i64 n]] w fun e w' => e = .returned (.bool true) ∧ Below w.heap.size w w' := by
  have hal := below_alloc w (.cells #[.int .i64 c, .int .i64 i, .int .i64 t, .int .i64 n] 31 (0, 0))
  have HBX := Lib.hid (Blk.new w [.int .i64 c, .int .i64 i, .int .i64 t, .int .i64 n] 31)
  have HAL := Lib.hid hal
  have HT0 := Lib.hid (h.below hal)
  have HR0 := Lib.hid (hr.below hal)
  have HF := Lib.hid (find_any b lim last vl (liveR R) c i _ HT0.out)
  have HLL := Lib.hid (show (liveR R).length ≤ 1000 by have := liveR_len R; omega)
  have HCS := Lib.hid (find_pair (c := c) (i := i) h.good)
  have HLH := Lib.hid hl
  obtain ⟨a, cap, rfl, hc1, hc2⟩ := hr.shape
  clear h hr hal hl
  obtain ⟨fe, hfe⟩ : ∃ z, findE c i (liveR R) = z := ⟨_, rfl⟩
  obtain ⟨fh, hfh⟩ : ∃ z, findH c i (liveR R) = z := ⟨_, rfl⟩
  have HRF := Lib.hid (fun w h => reffind_any (.slice a R.length cap) R c i w h HLH.out)
  have HON := Lib.hid (fun w h => of_any b lim last vl (liveR R) c w h HLL.out)
  have HBY := Lib.hid (fun w h => byt_any b lim last vl (liveR R) t w h HLL.out)
  have HH1 := Lib.hid (fun w h => refhnd_any (.slice a R.length cap) R c false w h HLH.out)
  have HH2 := Lib.hid (fun w h => refhnd_any (.slice a R.length cap) R t true w h HLH.out)
  have HJL := Lib.hid (fun w h => jlen_any b lim last vl (liveR R) w h)
  have HRL := Lib.hid (fun w h => reflen_any (.slice a R.length cap) R w h HLH.out)
  have HND := Lib.hid (fun w h => need_any b lim last vl (liveR R) t w h)
  have HRN := Lib.hid (fun w h => refneed_any (.slice a R.length cap) R t w h HLH.out)
  rw [hfe, hfh] at HF HCS
  rw [hfh] at HRF
  obtain ⟨ll, hll⟩ : ∃ z, (liveR R).length = z := ⟨_, rfl⟩
  obtain ⟨nd, hnd⟩ : ∃ z, needL t (liveR R) = z := ⟨_, rfl⟩
  rw [hll] at HJL HRL
  rw [hnd] at HND HRN
  clear hfe hfh hll hnd
  rcases HCS.out with ⟨rfl, hp⟩ | ⟨rfl, rfl⟩
  · have hd : decide (0 < fh) = true := decide_eq_true hp
    clear HCS hp
    go_enter Try.func21, Try.ntmps21
    go_wp2_with fail
    refine HF.out.mono ?_
    rintro e w1 ⟨rfl, hb1⟩
    have HB1 := Lib.hid hb1
    have k0 := (HBX.out.below hb1).cell (i := 0) (x := .int .i64 c) rfl
    have k1 := (HBX.out.below hb1).cell (i := 1) (x := .int .i64 i) rfl
    clear hb1 HF
    go_wp2_with fail
    refine (HRF.out _ (HR0.out.below HB1.out)).mono ?_
    rintro e w2 ⟨rfl, hb2⟩
    have HB2 := Lib.hid (below_two (below_two HB1.out hb2) (below_drew1 _))
    have HT3 := Lib.hid (HT0.out.below HB2.out)
    have HR3 := Lib.hid (HR0.out.below HB2.out)
    have hbx := HBX.out.below HB2.out
    have hd0 := hbx.cell (i := 0) (x := .int .i64 c) rfl
    have hd2 := hbx.cell (i := 2) (x := .int .i64 t) rfl
    have HFB := Lib.hid (below_two HAL.out HB2.out)
    have d0 := ((HBX.out.below HB1.out).below hb2).cell (i := 0) (x := .int .i64 c) rfl
    have d2 := ((HBX.out.below HB1.out).below hb2).cell (i := 2) (x := .int .i64 t) rfl
    clear hb2 HRF HBX HB1 HT0 HR0 HB2 hbx HAL k0 k1
    go_wp2
    go_region_held3 (fun w' => w'.cell? ⟨w.heap.size, 0, none⟩ = some (.int .i64 c) ∧ w'.cell? ⟨w.heap.size, 2, none⟩ = some (.int .i64 t))
      (first | (with_reducible exact ⟨hd0, hd2⟩) | (with_reducible exact ⟨cellB hd0 hA1, cellB hd2 hA1⟩) | (with_reducible exact ⟨cellB hd0 hA2, cellB hd2 hA2⟩) | (with_reducible exact ⟨cellB hd0 hA3, cellB hd2 hA3⟩) | (with_reducible exact ⟨cellB hd0 hA4, cellB hd2 hA4⟩) | (with_reducible exact ⟨cellB hd0 hA5, cellB hd2 hA5⟩) | (with_reducible exact ⟨cellB hd0 hA6, cellB hd2 hA6⟩) | (with_reducible exact ⟨cellB hd0 hA8, cellB hd2 hA8⟩) | (with_reducible exact ⟨cellB hd0 hA9, cellB hd2 hA9⟩) | (with_reducible exact ⟨cellB hd0 hA10, cellB hd2 hA10⟩) | assumption)
      (first
        | (go_at_call 50; refine (HRN.out _ (HR3.out.below hA9)).mono ?_; rintro e y10 ⟨rfl, hq⟩; have hA10 := below_two hA9 hq; clear hq)
        | (go_at_call 25; refine (HND.out _ (HT3.out.below hA8)).mono ?_; rintro e y9 ⟨rfl, hq⟩; have hA9 := below_two hA8 hq; clear hq)
        | (go_at_call 22; refine (HRL.out _ (HR3.out.below hA6)).mono ?_; rintro e y8 ⟨rfl, hq⟩; have hA8 := below_two hA6 hq; clear hq)
        | (go_at_call 16; refine (HJL.out _ (HT3.out.below hA6)).mono ?_; rintro e y7 ⟨rfl, rfl⟩)
        | (go_at_call 48; refine (ints_same v4 v5 _ y5 hr4b hr5).mono ?_; rintro e y6 ⟨rfl, hq⟩; have hA6 := below_two hA5 (below_drawn hq); clear hq)
        | (go_at_call 49; refine (HH2.out _ (HR3.out.below hA4)).mono ?_; rintro e y5 ⟨v5, rfl, hr5, hq⟩; have hA5 := below_two hA4 hq; have hr4b := hr4.below hq; clear hq)
        | (go_at_call 24; refine (HBY.out _ (HT3.out.below hA3)).mono ?_; rintro e y4 ⟨v4, rfl, hr4, hq⟩; have hA4 := below_two hA3 hq; clear hq)
        | (go_at_call 48; refine (ints_same v1 v2 _ y2 hr1b hr2).mono ?_; rintro e y3 ⟨rfl, hq⟩; have hA3 := below_two hA2 (below_drawn hq); clear hq)
        | (go_at_call 49; refine (HH1.out _ (HR3.out.below hA1)).mono ?_; rintro e y2 ⟨v2, rfl, hr2, hq⟩; have hA2 := below_two hA1 hq; have hr1b := hr1.below hq; clear hq)
        | (go_at_call 23; refine (HON.out _ HT3.out).mono ?_; rintro e y1 ⟨v1, rfl, hr1, hA1⟩))
    all_goals
      have HE := Lib.hid (below_two HFB.out hA10)
      clear hd0 hd2 d0 d2 hr1 hr1b hr2 hr4 hr4b hr5
      go_wp2
      go_ret
      exact ⟨rfl, HE.out⟩
  · clear HCS
    go_enter Try.func21, Try.ntmps21
    go_wp2_with fail
    refine HF.out.mono ?_
    rintro e w1 ⟨rfl, hb1⟩
    have HB1 := Lib.hid hb1
    have k0 := (HBX.out.below hb1).cell (i := 0) (x := .int .i64 c) rfl
    have k1 := (HBX.out.below hb1).cell (i := 1) (x := .int .i64 i) rfl
    clear hb1 HF
    go_wp2_with fail
    refine (HRF.out _ (HR0.out.below HB1.out)).mono ?_
    rintro e w2 ⟨rfl, hb2⟩
    have HB2 := Lib.hid (below_two (below_two HB1.out hb2) (below_drew1 _))
    have HT3 := Lib.hid (HT0.out.below HB2.out)
    have HR3 := Lib.hid (HR0.out.below HB2.out)
    have hbx := HBX.out.below HB2.out
    have hd0 := hbx.cell (i := 0) (x := .int .i64 c) rfl
    have hd2 := hbx.cell (i := 2) (x := .int .i64 t) rfl
    have HFB := Lib.hid (below_two HAL.out HB2.out)
    have d0 := ((HBX.out.below HB1.out).below hb2).cell (i := 0) (x := .int .i64 c) rfl
    have d2 := ((HBX.out.below HB1.out).below hb2).cell (i := 2) (x := .int .i64 t) rfl
    clear hb2 HRF HBX HB1 HT0 HR0 HB2 hbx HAL k0 k1
    go_wp2
    go_region_held3 (fun w' => w'.cell? ⟨w.heap.size, 0, none⟩ = some (.int .i64 c) ∧ w'.cell? ⟨w.heap.size, 2, none⟩ = some (.int .i64 t))
      (first | (with_reducible exact ⟨hd0, hd2⟩) | (with_reducible exact ⟨cellB hd0 hA1, cellB hd2 hA1⟩) | (with_reducible exact ⟨cellB hd0 hA2, cellB hd2 hA2⟩) | (with_reducible exact ⟨cellB hd0 hA3, cellB hd2 hA3⟩) | (with_reducible exact ⟨cellB hd0 hA4, cellB hd2 hA4⟩) | (with_reducible exact ⟨cellB hd0 hA5, cellB hd2 hA5⟩) | (with_reducible exact ⟨cellB hd0 hA6, cellB hd2 hA6⟩) | (with_reducible exact ⟨cellB hd0 hA8, cellB hd2 hA8⟩) | (with_reducible exact ⟨cellB hd0 hA9, cellB hd2 hA9⟩) | (with_reducible exact ⟨cellB hd0 hA10, cellB hd2 hA10⟩) | assumption)
      (first
        | (go_at_call 50; refine (HRN.out _ (HR3.out.below hA9)).mono ?_; rintro e y10 ⟨rfl, hq⟩; have hA10 := below_two hA9 hq; clear hq)
        | (go_at_call 25; refine (HND.out _ (HT3.out.below hA8)).mono ?_; rintro e y9 ⟨rfl, hq⟩; have hA9 := below_two hA8 hq; clear hq)
        | (go_at_call 22; refine (HRL.out _ (HR3.out.below hA6)).mono ?_; rintro e y8 ⟨rfl, hq⟩; have hA8 := below_two hA6 hq; clear hq)
        | (go_at_call 16; refine (HJL.out _ (HT3.out.below hA6)).mono ?_; rintro e y7 ⟨rfl, rfl⟩)
        | (go_at_call 48; refine (ints_same v4 v5 _ y5 hr4b hr5).mono ?_; rintro e y6 ⟨rfl, hq⟩; have hA6 := below_two hA5 (below_drawn hq); clear hq)
        | (go_at_call 49; refine (HH2.out _ (HR3.out.below hA4)).mono ?_; rintro e y5 ⟨v5, rfl, hr5, hq⟩; have hA5 := below_two hA4 hq; have hr4b := hr4.below hq; clear hq)
        | (go_at_call 24; refine (HBY.out _ (HT3.out.below hA3)).mono ?_; rintro e y4 ⟨v4, rfl, hr4, hq⟩; have hA4 := below_two hA3 hq; clear hq)
        | (go_at_call 48; refine (ints_same v1 v2 _ y2 hr1b hr2).mono ?_; rintro e y3 ⟨rfl, hq⟩; have hA3 := below_two hA2 (below_drawn hq); clear hq)
        | (go_at_call 49; refine (HH1.out _ (HR3.out.below hA1)).mono ?_; rintro e y2 ⟨v2, rfl, hr2, hq⟩; have hA2 := below_two hA1 hq; have hr1b := hr1.below hq; clear hq)
        | (go_at_call 23; refine (HON.out _ HT3.out).mono ?_; rintro e y1 ⟨v1, rfl, hr1, hA1⟩))
    all_goals
      have HE := Lib.hid (below_two HFB.out hA10)
      clear hd0 hd2 d0 d2 hr1 hr1b hr2 hr4 hr4b hr5
      go_wp2
      go_ret
      exact ⟨rfl, HE.out⟩

/-- a table whose blocks lie at B or beyond -/
def TZ (B : Nat) (w : World) (b : Nat) (lim : Int) (last : Nat) (vl : Value) (L : List LV) : Prop := TabAt w b lim last vl L ∧ ∀ j, JF b vl j → B ≤ j
theorem TZ.below {B : Nat} {w w' : World} {b : Nat} {lim : Int} {last : Nat} {vl : Value} {L : List LV} (h : TZ B w b lim last vl L) (k : Below w.heap.size w w') : TZ B w' b lim last vl L := ⟨h.1.below k, h.2⟩
theorem TZ.did {B : Nat} {w w' : World} {b : Nat} {lim : Int} {last last' : Nat} {vl : Value} {L L' : List LV} (h : TZ B w b lim last vl L) (hB : B ≤ w.heap.size) (d : JDid b vl lim last' L' w w') :
    ∃ vl', TZ B w' b lim last' vl' L' ∧ Below B w w' ∧ Keep (JF b vl) w w' ∧ (∀ g, vl'.ownBlock = some g → vl.ownBlock = some g ∨ w.heap.size ≤ g) := by
  obtain ⟨vl', ht, hk, hg⟩ := d
  refine ⟨vl', ⟨ht, fun j hj => ?_⟩, hk.below hB (fun j hj hs => by have := h.2 j hs; omega), hk, hg⟩
  rcases hj with rfl | hj
  · exact h.2 _ (.inl rfl)
  · rcases hg j hj with h' | h'
    · exact h.2 _ (.inr h')
    · omega

theorem add1 (B b : Nat) (vl : Value) (w : World) (h : TZ B w b 2 0 vl []) (hB : B ≤ w.heap.size) :
    Calls Try.prog 13 #[.pointer (some ⟨b, 0, none⟩), .agg #[.int .i64 1, .int .i64 5, .int .i64 0, .int .i64 0]] w fun e w' => e = .returned (.tuple #[.int .i64 1, .int .i64 0]) ∧ ∃ vl', TZ B w' b 2 1 vl' [((1, 5, 0, 0), 1)] ∧ Below B w w' := by
  refine (add_ok b 2 0 vl [] 1 5 0 0 w h.1 (by unfold goodJ I64; decide) rfl (by decide) (by decide) (by decide)).mono ?_
  rintro e w' ⟨rfl, hd⟩
  obtain ⟨vl', h1, h2, -, -⟩ := h.did hB hd
  exact ⟨rfl, vl', h1, h2⟩
theorem add2 (B b : Nat) (vl : Value) (w : World) (h : TZ B w b 2 1 vl []) (hB : B ≤ w.heap.size) :
    Calls Try.prog 13 #[.pointer (some ⟨b, 0, none⟩), .agg #[.int .i64 1, .int .i64 5, .int .i64 0, .int .i64 0]] w fun e w' => e = .returned (.tuple #[.int .i64 2, .int .i64 0]) ∧ ∃ vl', TZ B w' b 2 2 vl' [((1, 5, 0, 0), 2)] ∧ Below B w w' := by
  refine (add_ok b 2 1 vl [] 1 5 0 0 w h.1 (by unfold goodJ I64; decide) rfl (by decide) (by decide) (by decide)).mono ?_
  rintro e w' ⟨rfl, hd⟩
  obtain ⟨vl', h1, h2, -, -⟩ := h.did hB hd
  exact ⟨rfl, vl', h1, h2⟩
theorem drop1 (B b : Nat) (vl : Value) (w : World) (h : TZ B w b 2 1 vl [((1, 5, 0, 0), 1)]) (hB : B ≤ w.heap.size) :
    Calls Try.prog 12 #[.pointer (some ⟨b, 0, none⟩), .int .i64 1] w fun e w' => e = .returned (.tuple #[.agg #[.int .i64 1, .int .i64 5, .int .i64 0, .int .i64 0], .int .i64 0]) ∧ ∃ vl', TZ B w' b 2 1 vl' [] ∧ Below B w w' := by
  refine (drop_ok b 2 1 vl [((1, 5, 0, 0), 1)] 1 w h.1 rfl (by decide)).mono ?_
  rintro e w' ⟨rfl, hd⟩
  obtain ⟨vl', h1, h2, -, -⟩ := h.did hB hd
  exact ⟨rfl, vl', h1, h2⟩

set_option maxHeartbeats 1000000 in
set_option maxRecDepth 100000 in
theorem again_any (w : World) : Calls Try.prog 10 #[] w fun e w' => e = .returned (.bool true) ∧ Below w.heap.size w w' := by
  go_enter Try.func10, Try.ntmps10
  go_wp2_with fail
  refine (jnew_ok 2 w (by decide) (by decide)).mono ?_
  rintro e w1 ⟨rfl, h1, hb1⟩
  have HZ1 := Lib.hid (show TZ w.heap.size w1 w.heap.size 2 0 (.slice none 0 0) [] from ⟨h1, fun j hj => by
    rcases hj with rfl | hj
    · exact Nat.le_refl _
    · simp [Value.ownBlock] at hj⟩)
  have HB1 := Lib.hid hb1
  clear h1 hb1
  go_wp2_with fail
  refine (add1 w.heap.size w.heap.size _ w1 HZ1.out HB1.out.size).mono ?_
  rintro e w2 ⟨rfl, vl2, h2, hb2⟩
  have HZ2 := Lib.hid h2
  have HB2 := Lib.hid (HB1.out.trans hb2)
  clear h2 hb2 HZ1 HB1
  go_wp2_with fail
  refine (drop1 w.heap.size w.heap.size _ w2 HZ2.out HB2.out.size).mono ?_
  rintro e w3 ⟨rfl, vl3, h3, hb3⟩
  have hal := below_alloc w3 (.cells #[.int .i64 1, .int .i64 5, .int .i64 0, .int .i64 0] 31 (0, 0))
  have HZ3 := Lib.hid (h3.below hal)
  have HB3 := Lib.hid ((HB2.out.trans hb3).trans (below_of hal (HB2.out.trans hb3).size))
  have HX3 := Lib.hid (Blk.new w3 [.int .i64 1, .int .i64 5, .int .i64 0, .int .i64 0] 31)
  have HXN := Lib.hid (show w.heap.size ≤ w3.heap.size from (HB2.out.trans hb3).size)
  have HJ3 := Lib.hid (fun j => show JF w.heap.size vl3 j → j < w3.heap.size from fun hj => h3.1.lt j hj)
  clear h3 hb3 hal HZ2 HB2
  go_wp2_with fail
  refine (add_ok w.heap.size 2 1 vl3 [] 1 5 0 0 _ HZ3.out.1 (by unfold goodJ I64; decide) rfl (by decide) (by decide) (by decide)).mono ?_
  rintro e w4 ⟨rfl, hd⟩
  obtain ⟨vl4, h4, hb4, hk4, -⟩ := HZ3.out.did HB3.out.size hd
  have HB4 := Lib.hid (HB3.out.trans hb4)
  have hx4 := HX3.out.keep hk4 (fun hj => by have := HJ3.out _ hj; omega)
  have d0 := hx4.cell (i := 0) (x := .int .i64 1) rfl
  have d1 := hx4.cell (i := 1) (x := .int .i64 5) rfl
  have d2 := hx4.cell (i := 2) (x := .int .i64 0) rfl
  have d3 := hx4.cell (i := 3) (x := .int .i64 0) rfl
  have HLN := Lib.hid (show Calls Try.prog 16 #[.pointer (some ⟨w.heap.size, 0, none⟩)] w4 fun e w' => e = .returned (.int .i64 1) ∧ w4 = w' from jlen_any _ _ _ _ _ _ h4.1)
  clear hd h4 hb4 hk4 hx4 HX3 HB3 HZ3 HJ3 HXN
  go_wp2_with fail
  refine HLN.out.mono ?_
  rintro e w5 ⟨rfl, rfl⟩
  clear HLN
  go_wp2
  go_ret
  exact ⟨rfl, HB4.out⟩
end Go.Proofs.Ytmgjmpmcadjemaa

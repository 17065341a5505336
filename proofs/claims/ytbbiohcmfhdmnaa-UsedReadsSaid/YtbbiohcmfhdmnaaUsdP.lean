/- Package used: UsedReads. -/
import Derived.Test.YtbbiohcmfhdmnaaUsdN
import Derived.Deep.RegionHeld3
namespace Go.Proofs.Ytbbiohcmfhdmnaa
open Go.RowKit

theorem refRead_bd (all : List Bool) (h : all.length ≤ 1000000) : (refRead all).2.1 ≤ 300 := by
  by_cases he : (refRead all).2.2 = 0
  · revert he
    unfold refRead
    split
    · exact fun _ => by decide
    · split
      · exact fun _ => by decide
      · rename_i n out e
        split
        · exact fun _ => by show 0 ≤ 300; omega
        · intro _
          show n ≤ 300
          have hg : ∀ (I : List Nat) (n n' : Nat) (out out' : List Nat), rowsGo all I n out = some (n', out') → n' = n + 16 * I.length := by
            intro I
            induction I with
            | nil => intro n n' out out' h; rw [rowsGo] at h; obtain ⟨rfl, -⟩ := Prod.mk.inj (Option.some.inj h); simp
            | cons i I ih =>
              intro n n' out out' h
              rw [rowsGo] at h
              split at h
              · cases h
              · have := ih _ _ _ _ h
                rw [List.length_cons]
                omega
          have h1 := hg _ _ _ _ _ e
          have h2 : (marksL (all.take 16)).length ≤ 16 := Nat.le_trans (List.length_filter_le _ _) (by simp)
          omega
  · rw [refRead_err he]; omega

set_option maxHeartbeats 2000000 in
set_option maxRecDepth 100000 in
theorem lawUsedReads {s : ByteArray} {at0 : Int} {w : World} (_hs : s.size ≤ maxLen) (_hn1 : -9223372036854775808 ≤ at0) (_hn2 : at0 ≤ 9223372036854775807) :
    Calls Try.prog 8 #[.string s, .int .i64 at0] w fun e w' => e = .returned (.bool true) ∧ Below w.heap.size w w' := by
  have HLT := Lib.hid letter05_any
  by_cases hz : 100 < s.size
  · have ht2 : decide (100 < s.size) = true := decide_eq_true (by omega)
    have ht2' : decide ((100 : Int) < (s.size : Int)) = true := decide_eq_true (by omega)
    clear hz
    go_enter Try.func8, Try.ntmps8
    go_wp2_with fail
    refine (HLT.out _).mono ?_
    rintro e w1 ⟨rfl, hb⟩
    go_wp2
    go_ret
    exact ⟨rfl, hb⟩
  have ht2 : decide (100 < s.size) = false := decide_eq_false (by omega)
  have ht2' : decide ((100 : Int) < (s.size : Int)) = false := decide_eq_false (by omega)
  have hs100 : s.size ≤ 100 := by omega
  by_cases hn : at0 < 0
  · have ht3 : decide (at0 < 0) = true := decide_eq_true hn
    clear hz hn
    go_enter Try.func8, Try.ntmps8
    go_wp2_with fail
    refine (HLT.out _).mono ?_
    rintro e w1 ⟨rfl, hb⟩
    go_wp2
    go_ret
    exact ⟨rfl, hb⟩
  obtain ⟨a, rfl⟩ : ∃ a : Nat, at0 = a := ⟨at0.toNat, by omega⟩
  have ht3 : decide ((a : Int) < 0) = false := decide_eq_false hn
  by_cases hg : 8 * s.size < a
  · have ht4 : decide (8 * (s.size : Int) < (a : Int)) = true := decide_eq_true (by omega)
    have ht4' : decide (8 * s.size < a) = true := decide_eq_true hg
    clear hn hg
    go_enter Try.func8, Try.ntmps8
    go_wp2_with fail
    refine (HLT.out _).mono ?_
    rintro e w1 ⟨rfl, hb⟩
    go_wp2
    go_ret
    exact ⟨rfl, hb⟩
  have ht4 : decide (8 * (s.size : Int) < (a : Int)) = false := decide_eq_false (by omega)
  have ht4' : decide (8 * s.size < a) = false := decide_eq_false hg
  obtain ⟨S, hSd⟩ : ∃ z, s.data.toList = z := ⟨_, rfl⟩
  have hS : s = str S := by rw [← hSd]; exact str_of s
  have hsl : s.size = S.length := by rw [hS, str_size]
  have HN := Lib.hid (fun w => rnew_any s w (by omega))
  rw [hSd] at HN
  have HSK := Lib.hid (fun br w h => rseek_ok br S 0 0 a w h (by omega) (by omega))
  have HR := Lib.hid (fun br w h => Read_any br S 0 a w h)
  have HRB := Lib.hid (fun w => refbits_any s S w hS (by omega))
  have hxs : (stx (bitsL S)).size = 8 * S.length := by rw [stx_size, bitsL_len]
  have hxe : (stx (bitsL S)).extract a (stx (bitsL S)).size = stx (restB S a) := by
    rw [stx_extract, stx_size, List.take_of_length_le (by rw [List.length_drop]; omega)]; rfl
  have hRl : (restB S a).length ≤ 1000000 := by rw [restB_len]; omega
  have HRR := Lib.hid (fun w => refread05_any _ (restB S a) w hxe hRl)
  have hbd := refRead_bd (restB S a) hRl
  obtain ⟨R, hR⟩ : ∃ z, refRead (restB S a) = z := ⟨_, rfl⟩
  have HREF := Lib.hid hR
  rw [hR] at hbd
  obtain ⟨R1, R2, R3⟩ := R
  dsimp only at hbd
  obtain ⟨q, hq⟩ : ∃ z, str R1 = z := ⟨_, rfl⟩
  have HQ := Lib.hid hq
  obtain ⟨x, hx⟩ : ∃ z, stx (bitsL S) = z := ⟨_, rfl⟩
  rw [hx] at hxs HRB HRR
  have hxz : x.size ≤ 800 := by omega
  have hax : a ≤ x.size := by omega
  have ha800 : a ≤ 800 := by omega
  clear hz hn hg hSd hS hsl hxe hRl hR hq hx hxs
  go_enter Try.func8, Try.ntmps8
  go_wp2_with fail
  refine (HN.out _).mono ?_
  rintro e w1 ⟨br, rfl, hbr, hr, hb1⟩
  have HR1 := Lib.hid hr
  have HBRR := Lib.hid (show w.heap.size ≤ br by rw [hbr]; exact Nat.le_refl _)
  clear HN hbr hr
  go_wp2_with fail
  refine (HSK.out _ _ HR1.out).mono ?_
  rintro e w2 ⟨rfl, hd⟩
  have HR2 := Lib.hid hd.1
  have hb2 := hb1.trans (hd.2.below (B := w.heap.size) hb1.size (fun j hj h => by have h2 : j = br := h; have := HBRR.out; omega))
  clear HSK hd hb1 HR1
  go_wp2_with fail
  refine (HR.out _ _ HR2.out).mono ?_
  rintro e w3 ⟨he, hd⟩
  rw [HREF.out] at he hd
  dsimp only at he hd
  rw [HQ.out] at he
  subst he
  have HR3 := Lib.hid hd.1
  have hb3 := hb2.trans (hd.2.below (B := w.heap.size) hb2.size (fun j hj h => by have h2 : j = br := h; have := HBRR.out; omega))
  clear HR hd hb2 HR2
  go_wp2_with fail
  refine (HRB.out _).mono ?_
  rintro e w4 ⟨rfl, rfl⟩
  clear HRB
  go_wp2_with fail
  refine (HRR.out _).mono ?_
  rintro e w5 ⟨⟨o, n, er, rfl, ho⟩, hb⟩
  have h1 := ho.out
  rw [HREF.out] at h1
  dsimp only at h1
  rw [HQ.out] at h1
  obtain ⟨rfl, rfl, rfl⟩ := h1
  have HR5 := Lib.hid (HR3.out.below hb)
  have hb5 := hb3.trans (below_of hb hb3.size)
  clear HRR hb hb3 HR3 ho
  have hal := below_alloc w5 (.cells #[.string o, .int .i64 n, .int .i64 er] 54 (0, 0))
  have HB6 := Lib.hid (hb5.trans (below_of hal hb5.size))
  have HAT := Lib.hid (rat_any br S 0 (a + n) _ ((HR5.out.below hal).below (below_drawn ⟨1, rfl⟩)))
  obtain ⟨A, hA⟩ : ∃ z, a + n = z := ⟨_, rfl⟩
  have eA : (a : Int) + (n : Int) = (A : Int) := by omega
  have hAl : (A : Int) ≤ 2000 := by omega
  have hwA : IntKind.i64.wrap (A : Int) = (A : Int) := IntWalk.i64_in _ (by omega)
  rw [hA] at HAT
  clear hal HR5 hb5 hA
  have HBX := Lib.hid ((Blk.new w5 [.string o, .int .i64 n, .int .i64 er] 54))
  have HBD := Lib.hid (HBX.out.below (below_drawn ⟨1, rfl⟩))
  have HB7 := Lib.hid (below_two HB6.out (below_drawn ⟨1, rfl⟩))
  have hc1 := HBX.out.cell (i := 1) (x := .int .i64 (n : Int)) rfl
  have hc2 := HBD.out.cell (i := 1) (x := .int .i64 (n : Int)) rfl
  go_wp2_with fail
  generalize w5.alloc (.cells #[.string o, .int .i64 n, .int .i64 er] 54 (0, 0)) = W6 at *
  clear ht2 ht2' ht3 ht4 ht4' hs100 hxz hax _hs _hn1 _hn2 HBX
  go_region_held3 (fun w' => w'.cell? ⟨w5.heap.size, 1, none⟩ = some (.int .i64 (n : Int))) (first | (with_reducible exact hc2) | (with_reducible exact hc9) | assumption)
    (first
      | (go_at_call 23; refine HAT.out.mono ?_; rintro e w6 ⟨rfl, rfl⟩)
      | (go_at_call 38; refine (HLT.out _).mono ?_; rintro e w6 ⟨rfl, hb6⟩; have hc9 := (HBD.out.below hb6).cell (i := 1) (x := .int .i64 (n : Int)) rfl))
  all_goals
    have hb7 := HB7.out.trans (below_of hb6 HB7.out.size)
    clear HLT hb6
    go_wp2
    go_ret
    exact ⟨rfl, hb7⟩
end Go.Proofs.Ytbbiohcmfhdmnaa

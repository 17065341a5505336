/- Package canon: the reference Codes and Get. -/
import Derived.Test.YtjpjdecbkekcfaaCanA
import Derived.Test.YtjpjdecbkekcfaaCanQ
namespace Go.Proofs.Ytjpjdecbkekcfaa
open Go.RowKit

/-- what is laid so far: all levels below n, and of level n the symbols below s -/
def laid {α : Type} (f : Nat → α) (z : α) (l : List Int) (n s : Nat) : List α := (List.range l.length).map fun i => if l.getD i 0 < (n : Int) ∨ (l.getD i 0 = (n : Int) ∧ i < s) then f i else z
theorem laid_len {α : Type} (f : Nat → α) (z : α) (l : List Int) (n s : Nat) : (laid f z l n s).length = l.length := by simp [laid]
theorem laid_hit {α : Type} {f : Nat → α} {z : α} {l : List Int} {s n : Nat} (h : l[s]? = some (n : Int)) : laid f z l n (s + 1) = (laid f z l n s).set s (f s) := by
  apply List.ext_getElem?
  intro i
  unfold laid
  have hs : s < l.length := (List.getElem?_eq_some_iff.1 h).1
  have hg := getD_of h
  rw [List.getElem?_set]
  by_cases e : s = i
  · subst e
    rw [if_pos rfl, if_pos (by simpa using hs), List.getElem?_map, List.getElem?_range hs, Option.map_some, if_pos (.inr ⟨hg, Nat.lt_succ_self _⟩)]
  · rw [if_neg e]
    by_cases hi : i < l.length
    · rw [List.getElem?_map, List.getElem?_map, List.getElem?_range hi, Option.map_some, Option.map_some]
      congr 1
      have : (i < s + 1) = (i < s) := propext ⟨fun h => by omega, fun h => by omega⟩
      simp only [this]
    · rw [List.getElem?_eq_none (by simpa using Nat.le_of_not_lt hi), List.getElem?_eq_none (by simpa using Nat.le_of_not_lt hi)]
theorem laid_miss {α : Type} {f : Nat → α} {z : α} {l : List Int} {s n : Nat} {x : Int} (h : l[s]? = some x) (hx : x ≠ (n : Int)) : laid f z l n (s + 1) = laid f z l n s := by
  unfold laid
  apply List.map_congr_left
  intro i _
  have hg := getD_of h
  by_cases e : i = s
  · subst e
    have : (l.getD i 0 = (n : Int)) = False := eq_false (by rw [hg]; exact hx)
    simp only [this, false_and]
  · have : (i < s + 1) = (i < s) := propext ⟨fun h => by omega, fun h => by omega⟩
    simp only [this]
theorem laid_next {α : Type} (f : Nat → α) (z : α) (l : List Int) (n : Nat) : laid f z l n l.length = laid f z l (n + 1) 0 := by
  unfold laid
  apply List.map_congr_left
  intro i hi
  have hi' : i < l.length := List.mem_range.1 hi
  congr 1
  apply propext
  constructor
  · rintro (h | ⟨h, -⟩)
    · exact .inl (by omega)
    · exact .inl (by omega)
  · rintro (h | ⟨-, h⟩)
    · by_cases e : l.getD i 0 = (n : Int)
      · exact .inr ⟨e, hi'⟩
      · exact .inl (by omega)
    · omega
theorem laid_start {α : Type} (f : Nat → α) (z : α) {l : List Int} (h : ∀ x ∈ l, 1 ≤ x) : laid f z l 1 0 = List.replicate l.length z := by
  unfold laid
  rw [← List.length_range (n := l.length), ← List.map_const', List.length_range]
  apply List.map_congr_left
  intro i hi
  have hi' : i < l.length := List.mem_range.1 hi
  have h1 := h (l.getD i 0) (by rw [List.getD_eq_getElem?_getD, List.getElem?_eq_getElem hi']; exact List.getElem_mem _)
  rw [if_neg]
  rintro (q | ⟨-, q⟩) <;> omega
theorem laid_done {α : Type} (f : Nat → α) (z : α) {l : List Int} (h : ∀ x ∈ l, x ≤ 20) : laid f z l 21 0 = (List.range l.length).map f := by
  unfold laid
  apply List.map_congr_left
  intro i hi
  have hi' : i < l.length := List.mem_range.1 hi
  have h1 := h (l.getD i 0) (by rw [List.getD_eq_getElem?_getD, List.getElem?_eq_getElem hi']; exact List.getElem_mem _)
  rw [if_pos (.inl (by omega))]

/-- the text of the code behind which the next one stands -/
def CodS (l : List Int) (n s : Nat) (b : List Bool) : Prop := (b = [] ∧ nowC l n s = 0) ∨ ∃ v m, 1 ≤ m ∧ m ≤ n ∧ b = fieldL v m ∧ (v + 1) * 2 ^ (n - m) = nowC l n s
theorem CodS.level {l : List Int} {n : Nat} {b : List Bool} (h : CodS l (n + 1) l.length b) : CodS l (n + 2) 0 b := by
  have e1 := nowC_end l n
  have e2 : nowC l (n + 2) 0 = 2 * endC l (n + 1) := nowC_start l (n + 1)
  rcases h with ⟨h1, h2⟩ | ⟨v, m, h1, h2, h3, h4⟩
  · exact .inl ⟨h1, by omega⟩
  · refine .inr ⟨v, m, h1, by omega, h3, ?_⟩
    have : n + 2 - m = n + 1 - m + 1 := by omega
    rw [this, Nat.pow_succ, ← Nat.mul_assoc, h4]
    omega
theorem CodS.miss {l : List Int} {n s : Nat} {b : List Bool} {x : Int} (h : CodS l n s b) (hx : l[s]? = some x) (hn : x ≠ (n : Int)) : CodS l n (s + 1) b := by
  unfold CodS
  rw [nowC_step hx, if_neg hn]
  exact h
theorem CodS.hit {l : List Int} {n s : Nat} (hx : l[s]? = some ((n + 1 : Nat) : Int)) : CodS l (n + 1) (s + 1) (cwC l s) := by
  refine .inr ⟨nowC l (n + 1) s, n + 1, by omega, Nat.le_refl _, cwC_of hx, ?_⟩
  rw [nowC_step hx, if_pos rfl, Nat.sub_self, Nat.pow_zero, Nat.mul_one]
theorem CodS.zeros {l : List Int} {n s : Nat} (h : CodS l (n + 1) s []) (hx : l[s]? = some ((n + 1 : Nat) : Int)) : cwC l s = List.replicate (n + 1) false := by
  rcases h with ⟨-, h2⟩ | ⟨v, m, h1, h2, h3, h4⟩
  · rw [cwC_of hx, h2, fieldL_zero]
  · have := congrArg List.length h3
    rw [fieldL_len, List.length_nil] at this
    omega
theorem CodS.next {l : List Int} {n s : Nat} {b : List Bool} (hw : wholeC l = true) (h : CodS l (n + 1) s b) (hb : b ≠ []) (hn : n + 1 ≤ 20) (hx : l[s]? = some ((n + 1 : Nat) : Int)) : nextL b (n + 1) = cwC l s := by
  rcases h with ⟨h1, -⟩ | ⟨v, m, h1, h2, rfl, h4⟩
  · exact absurd h1 hb
  · have h5 := nowC_lt hw hn hx
    rw [← h4, show n + 1 = m + (n + 1 - m) by omega, Nat.pow_add, show m + (n + 1 - m) - m = n + 1 - m by omega] at h5
    have h6 := Nat.lt_of_mul_lt_mul_right h5
    rw [nextL_field h6 h2, h4, cwC_of hx]
theorem CodS.len {l : List Int} {n s : Nat} {b : List Bool} (h : CodS l n s b) : b.length ≤ n := by
  rcases h with ⟨rfl, -⟩ | ⟨v, m, h1, h2, rfl, h4⟩
  · exact Nat.zero_le _
  · rw [fieldL_len]; exact h2
def strV (l : List Int) (i : Nat) : Value := .string (stx (cwC l i))
theorem strinfo : (Try.prog.info? 9).map (fun i => (i.zero, i.size, i.bytes)) = some (some (.string ⟨#[]⟩), 1, 16) := by kernel_rfl
theorem stx_nil_iff {s : ByteArray} {b : List Bool} (h : s = stx b) : (s.size = 0) ↔ b = [] := by rw [h, stx_size]; exact List.length_eq_zero_iff

set_option maxHeartbeats 4000000 in
set_option maxRecDepth 100000 in
theorem refcodes_any (v : Value) (l : List Int) (w : World) (hv : RInts w v l) (hw : wholeC l = true) (hl : l.length ≤ 1000) :
    Calls Try.prog 21 #[v] w fun e w' => ∃ g, e = .returned (.slice (some ⟨g, 0, none⟩) l.length l.length) ∧ w.heap.size ≤ g ∧ Blk w' g ((List.range l.length).map (strV l)) 9 ∧ Below w.heap.size w w' := by
  obtain ⟨a, cap, rfl, hc1, hc2⟩ := hv.shape
  have HV := Lib.hid hv
  have HW := Lib.hid hw
  have hcn : (l.length : Int) ≤ (cap : Int) := by omega
  clear hv hw
  go_enter Try.func21, Try.ntmps21
  go_wp2_with (at_make; refine wpList_make_blk _ rfl _ _ 34 rfl 9 (.string ⟨#[]⟩) 16 Try.underlying34 strinfo rfl .i64 .i64 _ _ l.length rfl rfl rfl rfl (by omega) (by unfold maxLen; omega) ?_)
  intro w1 hb1 hbel
  have HB1 := Lib.hid hb1
  have HBE := Lib.hid hbel
  obtain ⟨g, hg⟩ : ∃ g, w.heap.size = g := ⟨_, rfl⟩
  have HG := Lib.hid hg
  rw [hg] at HB1 ⊢
  clear hb1 hbel hg
  go_wp2
  go_loopw [4, 5] (fun cv nv w2 => ∃ (n : Nat) (sc : ByteArray), 1 ≤ n ∧ n ≤ 21 ∧ nv = .int .i64 (n : Int) ∧ cv = .string sc ∧ Hid (∃ b, sc = stx b ∧ CodS l n 0 b) ∧ Hid (Blk w2 g (laid (strV l) (.string ⟨#[]⟩) l n 0) 9) ∧ Hid (Below w.heap.size w w2)) (fun _ nv _ => (22 - intOf nv).toNat)
  case atStart =>
    refine ⟨1, ⟨#[]⟩, by omega, by omega, rfl, rfl, (show ∃ b, _ ∧ _ from ⟨[], rfl, .inl ⟨rfl, nowC_start l 0⟩⟩), ?_, HBE.out⟩
    show Blk _ _ _ _
    rw [laid_start _ _ (fun x hx => ((wholeC_iff.1 HW.out).1 x hx).1)]
    exact HB1.out
  case round =>
    obtain ⟨n, sc, hn1, hn21, rfl, rfl, HS, HBK, HBE2⟩ := hrel
    clear HB1 HBE
    by_cases h21 : n = 21
    · subst h21
      have HFIN := Lib.hid (show Blk wr g ((List.range l.length).map (strV l)) 9 by
        have := HBK.out
        rwa [laid_done _ _ (fun x hx => ((wholeC_iff.1 HW.out).1 x hx).2)] at this)
      clear HBK HS hn1 hn21
      go_wp2
      go_ret
      exact ⟨g, rfl, by rw [HG.out]; exact Nat.le_refl _, HFIN.out, HBE2.out⟩
    · have hn20 : n ≤ 20 := by omega
      have hn20i : (n : Int) ≤ 20 := by omega
      clear h21 hn21
      obtain ⟨m, hm⟩ : ∃ m, m + 1 = n := ⟨n - 1, by omega⟩
      have HM := Lib.hid hm
      clear hm
      go_wp2
      go_loopw [4, 17] (fun cv iv w3 => ∃ (s : Nat) (sd : ByteArray), s ≤ l.length ∧ iv = .int .i64 (s : Int) ∧ cv = .string sd ∧ Hid (∃ b, sd = stx b ∧ CodS l n s b) ∧ Hid (Blk w3 g (laid (strV l) (.string ⟨#[]⟩) l n s) 9) ∧ Hid (Below w.heap.size w w3)) (fun _ iv _ => l.length - (intOf iv).toNat)
      case atStart => exact ⟨0, sc, Nat.zero_le _, rfl, rfl, HS.out, HBK.out, HBE2.out⟩
      case round =>
        obtain ⟨s, sd, hsl, rfl, rfl, HS3, HBK3, HBE3⟩ := hrel
        clear HS HBK HBE2
        rcases Nat.lt_or_ge s l.length with hlt | hge
        · obtain ⟨bp, offp, x, rfl, -, hx, hcx, -, -⟩ := (HV.out.below HBE3.out).at hlt
          have HX := Lib.hid hx
          have hsi : (s : Int) < (l.length : Int) := by omega
          have hs0 : (0 : Int) ≤ (s : Int) := by omega
          clear hx
          by_cases hxn : x = (n : Int)
          · subst hxn
            have hc1' : ∃ u, wr.cell? ⟨g, s, none⟩ = some u := ⟨_, HBK3.out.cell (List.getElem?_eq_getElem (by rw [laid_len]; exact hlt))⟩
            obtain ⟨u1, hu1⟩ := hc1'
            have hf1 := HBK3.out.free s
            have HBK4 := Lib.hid (show Blk (wr.setCell ⟨g, s, none⟩ (strV l s)) g (laid (strV l) (.string ⟨#[]⟩) l n (s + 1)) 9 by rw [laid_hit HX.out]; exact HBK3.out.set s _)
            have HBE4 := Lib.hid (show Below w.heap.size w (wr.setCell ⟨g, s, none⟩ (strV l s)) from HBE3.out.trans ((keep_setCell (S := fun j => j = g) (Keep.refl _ wr) rfl (strV l s)).below (B := w.heap.size) HBE3.out.size (fun j hj e => by have e' : j = g := e; have := HG.out; omega)))
            have HS4 := Lib.hid (show ∃ b, stx (cwC l s) = stx b ∧ CodS l n (s + 1) b from ⟨_, rfl, by have := HX.out; rw [← HM.out] at this ⊢; exact CodS.hit this⟩)
            obtain ⟨b, hsd, hb⟩ := HS3.out
            unfold strV at HBK4 HBE4
            by_cases hbn : b = []
            · subst hbn
              have HCW := Lib.hid (show cwC l s = List.replicate n false by have := HX.out; rw [← HM.out] at this hb ⊢; exact hb.zeros this)
              have hsd2 : sd = ⟨#[]⟩ := hsd
              subst hsd2
              clear hsd hb HS3 HBK3
              go_wp2
              go_loop [4, 28] (fun cv jv => ∃ j : Nat, j ≤ n ∧ jv = .int .i64 (j : Int) ∧ ∃ st : ByteArray, cv = .string st ∧ Hid (st = stx (List.replicate j false))) (fun _ jv => n - (intOf jv).toNat)
              case atStart => exact ⟨0, Nat.zero_le _, rfl, _, rfl, rfl⟩
              case round =>
                obtain ⟨j, hj, rfl, st, rfl, HST⟩ := hrel
                rcases Nat.lt_or_ge j n with hjn | hjn
                · have hjni : (j : Int) < (n : Int) := by omega
                  have HSZ : st.size = j := by rw [HST.out, stx_size, List.length_replicate]
                  have hbz : ¬ (9223372036854775807 < st.size + (⟨#[48]⟩ : ByteArray).size) := by rw [HSZ]; show ¬ 9223372036854775807 < j + 1; omega
                  have HST2 := Lib.hid (show st ++ ⟨#[48]⟩ = stx (List.replicate (j + 1) false) by
                    rw [List.replicate_succ', ← stx_append, ← HST.out]; rfl)
                  have HSZ2 := Lib.hid HSZ
                  have hst : st.size ≤ 1000 := by omega
                  clear HSZ
                  go_wp2
                  go_round
                  case rel => exact ⟨j + 1, hjn, by go_num, _, rfl, HST2.out⟩
                  case measure => simp [intOf]; omega
                · obtain rfl : j = n := by omega
                  have hst : st = stx (cwC l s) := by rw [HST.out, HCW.out]
                  subst hst
                  go_wp2
                  go_roundw
                  case rel => exact ⟨s + 1, _, hlt, by go_num, rfl, HS4.out, HBK4.out, HBE4.out⟩
                  case measure => simp [intOf]; omega
            · have HCW := Lib.hid (show nextL b n = cwC l s by have := HX.out; rw [← HM.out] at this hb ⊢; exact hb.next HW.out hbn (by have := HM.out; omega) this)
              have HN := Lib.hid (fun w => refnext_any sd b n w hsd (by have := hb.len; omega) (by omega))
              rw [HCW.out] at HN
              have e0 : (sd.toList == ([] : List UInt8)) = false := by
                apply beq_eq_false_iff_ne.2
                rw [hsd]
                unfold stx
                rw [str_toList]
                intro e
                exact hbn (by unfold txt at e; exact List.map_eq_nil_iff.1 e)
              clear hsd hb HS3 HBK3
              go_wp2_with fail
              refine (HN.out wr).mono ?_
              rintro e w4 ⟨rfl, rfl⟩
              clear HN
              go_wp2
              go_roundw
              case rel => exact ⟨s + 1, _, hlt, by go_num, rfl, HS4.out, HBK4.out, HBE4.out⟩
              case measure => simp [intOf]; omega
          · have t1 : (x == (n : Int)) = false := beq_eq_false_iff_ne.2 hxn
            have HS4 := Lib.hid (show ∃ b, sd = stx b ∧ CodS l n (s + 1) b from HS3.out.elim fun b hb => ⟨b, hb.1, hb.2.miss HX.out hxn⟩)
            have HBK4 := Lib.hid (show Blk wr g (laid (strV l) (.string ⟨#[]⟩) l n (s + 1)) 9 by rw [laid_miss HX.out hxn]; exact HBK3.out)
            clear hxn HS3 HBK3
            go_wp2
            go_roundw
            case rel => exact ⟨s + 1, sd, hlt, by go_num, rfl, HS4.out, HBK4.out, HBE3.out⟩
            case measure => simp [intOf]; omega
        · obtain rfl : s = l.length := by omega
          have HS4 := Lib.hid (show ∃ b, sd = stx b ∧ CodS l (n + 1) 0 b from HS3.out.elim fun b hb => ⟨b, hb.1, by have := hb.2; rw [← HM.out] at this ⊢; exact this.level⟩)
          have HBK4 := Lib.hid (show Blk wr g (laid (strV l) (.string ⟨#[]⟩) l (n + 1) 0) 9 by rw [← laid_next]; exact HBK3.out)
          clear HS3 HBK3
          go_wp2
          go_roundw
          case rel => exact ⟨n + 1, sd, by omega, by omega, by go_num, rfl, HS4.out, HBK4.out, HBE3.out⟩
          case measure => simp [intOf]; omega

set_option maxHeartbeats 1000000 in
theorem refget_any (g : Nat) (l : List Int) (s : ByteArray) (b : List Bool) (w : World) (hw : wholeC l = true) (hl : l.length ≤ 1000) (hb : Blk w g ((List.range l.length).map (strV l)) 9) (hs : s = stx b) (hbl : b.length ≤ 100000) :
    Calls Try.prog 26 #[.slice (some ⟨g, 0, none⟩) l.length l.length, .string s] w fun e w' =>
      ((∃ i, i < l.length ∧ begB b (cwC l i) = true ∧ e = .returned (.int .i64 (i : Int))) ∨ ((∀ i, i < l.length → begB b (cwC l i) = false) ∧ e = .returned (.int .i64 (-1)))) ∧ w = w' := by
  have HB := Lib.hid hb
  have HC := Lib.hid (fun (i : Nat) (hi : i < l.length) => refbegins_any s (stx (cwC l i)) b (cwC l i) w hs rfl hbl (by
    rw [cwC_len]
    have h1 : l[i]? = some l[i] := List.getElem?_eq_getElem hi
    obtain ⟨n, h2, h3⟩ := whole_at hw h1
    rw [getD_of h1, h2, Int.toNat_natCast]
    omega))
  clear hb hs hw hbl
  go_enter Try.func26, Try.ntmps26
  go_wp2
  go_loop [9] (fun iv => ∃ i : Nat, i ≤ l.length ∧ iv = .int .i64 (i : Int) ∧ Hid (∀ k, k < i → begB b (cwC l k) = false)) (fun iv => l.length - (intOf iv).toNat)
  case atStart => exact ⟨0, Nat.zero_le _, rfl, fun k hk => absurd hk (Nat.not_lt_zero _)⟩
  case round =>
    obtain ⟨i, hi, rfl, HN⟩ := hrel
    rcases Nat.lt_or_ge i l.length with hlt | hge
    · have hlti : (i : Int) < (l.length : Int) := by omega
      have hi0 : (0 : Int) ≤ (i : Int) := by omega
      have c1 := HB.out.cell (i := i) (x := .string (stx (cwC l i))) (by rw [List.getElem?_map, List.getElem?_range hlt]; rfl)
      have HB1 := Lib.hid (HC.out i hlt)
      cases hbb : begB b (cwC l i) with
      | true =>
        rw [hbb] at HB1
        have HBB := Lib.hid hbb
        clear hbb
        go_wp2_with fail
        refine HB1.out.mono ?_
        rintro e w1 ⟨rfl, rfl⟩
        clear HB1
        go_wp2
        go_ret
        exact ⟨.inl ⟨i, hlt, HBB.out, rfl⟩, rfl⟩
      | false =>
        rw [hbb] at HB1
        have HN2 := Lib.hid (show ∀ k, k < i + 1 → begB b (cwC l k) = false from fun k hk => by
          rcases Nat.lt_or_ge k i with h | h
          · exact HN.out k h
          · obtain rfl : k = i := by omega
            exact hbb)
        clear hbb
        go_wp2_with fail
        refine HB1.out.mono ?_
        rintro e w1 ⟨rfl, rfl⟩
        clear HB1
        go_wp2
        go_round
        case rel => exact ⟨i + 1, hlt, by go_num, HN2.out⟩
        case measure => simp [intOf]; omega
    · obtain rfl : i = l.length := by omega
      go_wp2
      go_ret
      exact ⟨.inr ⟨HN.out, rfl⟩, rfl⟩
end Go.Proofs.Ytjpjdecbkekcfaa

/- Package jobs: Get, Add, handles, Need. -/
import Derived.Test.YtmgjmpmcadjemaaJobA
import Derived.StillTailTactics
namespace Go.Proofs.Ytmgjmpmcadjemaa
open Go.RowKit

theorem cut_if2 (s : Int) : (if (1099511627776 : Int) < s then 1099511627776 else s) = min s 1099511627776 := by split <;> omega
theorem cut_if (xn : Int) : (if (1099511627776 : Int) < (if xn < 0 then 0 else xn) then 1099511627776 else (if xn < 0 then 0 else xn)) = min (max xn 0) 1099511627776 := by
  rw [cut_if2]
  congr 1
  split <;> omega
def getJ (h : Int) (L : List LV) : JE := match L.find? (isH h) with | some x => x.1 | none => (0, 0, 0, 0)
def getE (h : Int) (L : List LV) : Int := match L.find? (isH h) with | some _ => 0 | none => 6
theorem zero_entry : ∀ w : World, (zeroValue 31).run Try.prog w = .ok (.agg #[.int .i64 0, .int .i64 0, .int .i64 0, .int .i64 0]) w := fun _ => by kernel_rfl

set_option maxHeartbeats 1000000 in
set_option maxRecDepth 100000 in
theorem get_any (b : Nat) (lim : Int) (last : Nat) (vl : Value) (L : List LV) (n : Int) (w : World) (h : TabAt w b lim last vl L) :
    Calls Try.prog 15 #[.pointer (some ⟨b, 0, none⟩), .int .i64 n] w fun e w' => e = .returned (.tuple #[.agg (encJ (getJ n L)).toArray, .int .i64 (getE n L)]) ∧ Below w.heap.size w w' := by
  have hz := zero_entry
  have hal1 := below_alloc w (.cells #[.int .i64 n] 3 (0, 0))
  have hal2 := below_alloc (w.alloc (.cells #[.int .i64 n] 3 (0, 0))) (.cells #[.int .i64 0, .int .i64 0, .int .i64 0, .int .i64 0] 31 (0, 0))
  have hal := below_two hal1 hal2
  have h2 := h.below hal
  have d1 := cellB ((Blk.new w [.int .i64 n] 3).cell (i := 0) rfl) hal2
  have hbx := Blk.new (w.alloc (.cells #[.int .i64 n] 3 (0, 0))) [.int .i64 0, .int .i64 0, .int .i64 0, .int .i64 0] 31
  rw [World.size_alloc] at hbx
  have HBX := Lib.hid hbx
  have HP := Lib.hid (jplace_any b lim last vl L 45 _ _ _ h2 (fun args w => enter_of Try.func45 (by kernel_rfl) rfl args w) (cloGet _ n _ d1))
  have hm := hmf
  have HH := Lib.hid h2
  have HAL := Lib.hid hal
  have HS := Lib.hid (show ∀ w1 : World, Below w.heap.size w w1 → ∀ a1 a2 a3 a4 : Value, Below w.heap.size w ((((w1.setCell ⟨w.heap.size + 1, 0, none⟩ a1).setCell ⟨w.heap.size + 1, 1, none⟩ a2).setCell ⟨w.heap.size + 1, 2, none⟩ a3).setCell ⟨w.heap.size + 1, 3, none⟩ a4) from
    fun w1 hb a1 a2 a3 a4 => (((hb.setCell (p := ⟨w.heap.size + 1, 0, none⟩) (by simp) a1).setCell (p := ⟨w.heap.size + 1, 1, none⟩) (by simp) a2).setCell (p := ⟨w.heap.size + 1, 2, none⟩) (by simp) a3).setCell (p := ⟨w.heap.size + 1, 3, none⟩) (by simp) a4)
  rcases plK_cases (isH n) L with ⟨e1, e2⟩ | ⟨k, x, e1, hk, hx, e2⟩
  · have HR := Lib.hid (show getJ n L = (0, 0, 0, 0) ∧ getE n L = 6 by unfold getJ getE; rw [e2]; exact ⟨rfl, rfl⟩)
    rw [e1] at HP
    clear h e1 e2 hal1 hal2 hal h2 d1 hbx
    go_enter Try.func15, Try.ntmps15
    go_wp2_with fail
    refine HP.out.mono ?_
    rintro e w1 ⟨rfl, hb⟩
    have HB := Lib.hid (HS.out _ (below_two HAL.out hb) (.int .i64 0) (.int .i64 0) (.int .i64 0) (.int .i64 0))
    have hx1 := HBX.out.below hb
    have c0 := hx1.cell (i := 0) rfl
    have c1 := hx1.cell (i := 1) rfl
    have c2 := hx1.cell (i := 2) rfl
    have c3 := hx1.cell (i := 3) rfl
    have f0 := hx1.free 0
    have f1 := hx1.free 1
    have f2 := hx1.free 2
    have f3 := hx1.free 3
    clear HP hb hx1
    go_wp2
    refine bodyPost_ret (v := .tuple #[.agg #[.int .i64 0, .int .i64 0, .int .i64 0, .int .i64 0], .int .i64 6]) (by simp [results, Try.results15, go_sem, c0, c1, c2, c3, f0, f1, f2, f3]) rfl ?_
    exact ⟨by rw [HR.out.1, HR.out.2]; rfl, HB.out⟩
  · have HR := Lib.hid (show getJ n L = x.1 ∧ getE n L = 0 by unfold getJ getE; rw [e2]; exact ⟨rfl, rfl⟩)
    rw [e1] at HP
    obtain ⟨a, cap, rfl, hc1, hc2⟩ := h.rs.shape
    clear h e1 e2 hal1 hal2 hal h2 d1 hbx
    go_enter Try.func15, Try.ntmps15
    go_wp2_with fail
    refine HP.out.mono ?_
    rintro e w1 ⟨rfl, hb⟩
    have h3 := HH.out.below hb
    have t2 := h3.box.cell (i := 2) (x := .slice a L.length cap) rfl
    obtain ⟨b2, off, y, rfl, hbb, hy, hgy, hcy⟩ := h3.rs.at hk
    obtain rfl : x = y := by rw [hx] at hy; simpa using hy
    obtain ⟨⟨xc, xi, xt, xn⟩, xh⟩ := x
    have r0 : w1.cell? ⟨b2, off + k * 5, none⟩ = some (.int .i64 xc) := hcy 0 _ rfl
    have r1 : w1.cell? ⟨b2, off + k * 5 + 1, none⟩ = some (.int .i64 xi) := hcy 1 _ rfl
    have r2 : w1.cell? ⟨b2, off + k * 5 + 2, none⟩ = some (.int .i64 xt) := hcy 2 _ rfl
    have r3 : w1.cell? ⟨b2, off + k * 5 + 3, none⟩ = some (.int .i64 xn) := hcy 3 _ rfl
    have HB := Lib.hid (HS.out _ (below_two HAL.out hb) (.int .i64 xc) (.int .i64 xi) (.int .i64 xt) (.int .i64 xn))
    have hx1 := HBX.out.below hb
    have c0 := hx1.cell (i := 0) rfl
    have c1 := hx1.cell (i := 1) rfl
    have c2 := hx1.cell (i := 2) rfl
    have c3 := hx1.cell (i := 3) rfl
    have f0 := hx1.free 0
    have f1 := hx1.free 1
    have f2 := hx1.free 2
    have f3 := hx1.free 3
    clear HP hb h3 hy hgy hcy HH hx hx1
    go_wp2
    refine bodyPost_ret (v := .tuple #[.agg #[.int .i64 xc, .int .i64 xi, .int .i64 xt, .int .i64 xn], .int .i64 0]) (by simp [results, Try.results15, go_sem, c0, c1, c2, c3, f0, f1, f2, f3]) rfl ?_
    exact ⟨by rw [HR.out.1, HR.out.2]; rfl, HB.out⟩

set_option maxHeartbeats 1000000 in
set_option maxRecDepth 100000 in
theorem get_nil (n : Int) (w : World) :
    Calls Try.prog 15 #[.pointer none, .int .i64 n] w fun e w' => e = .returned (.tuple #[.agg #[.int .i64 0, .int .i64 0, .int .i64 0, .int .i64 0], .int .i64 7]) ∧ Below w.heap.size w w' := by
  have hz := zero_entry
  have hal1 := below_alloc w (.cells #[.int .i64 n] 3 (0, 0))
  have hal2 := below_alloc (w.alloc (.cells #[.int .i64 n] 3 (0, 0))) (.cells #[.int .i64 0, .int .i64 0, .int .i64 0, .int .i64 0] 31 (0, 0))
  have hal := below_two hal1 hal2
  have hbx := Blk.new (w.alloc (.cells #[.int .i64 n] 3 (0, 0))) [.int .i64 0, .int .i64 0, .int .i64 0, .int .i64 0] 31
  rw [World.size_alloc] at hbx
  have HB := Lib.hid hal
  have c0 := hbx.cell (i := 0) rfl
  have c1 := hbx.cell (i := 1) rfl
  have c2 := hbx.cell (i := 2) rfl
  have c3 := hbx.cell (i := 3) rfl
  have f0 := hbx.free 0
  have f1 := hbx.free 1
  have f2 := hbx.free 2
  have f3 := hbx.free 3
  clear hal1 hal2 hal hbx
  go_enter Try.func15, Try.ntmps15
  go_wp2
  refine bodyPost_ret (v := .tuple #[.agg #[.int .i64 0, .int .i64 0, .int .i64 0, .int .i64 0], .int .i64 7]) (by simp [results, Try.results15, go_sem, c0, c1, c2, c3, f0, f1, f2, f3]) rfl ?_
  exact ⟨rfl, HB.out⟩

set_option maxHeartbeats 1000000 in
theorem handles_any (b : Nat) (lim : Int) (last : Nat) (vl : Value) (L : List LV) (f : Nat) (lb : Array Value) (p : LV → Bool) (w : World) (h : TabAt w b lim last vl L) (hl : L.length ≤ 1000)
    (hent : ∀ (args : Array Value) (w : World), (callFunc f args).run Try.prog w = .ok (.enter f args) w) (hf : FnP w f lb p) :
    Calls Try.prog 51 #[.pointer (some ⟨b, 0, none⟩), .func (.func f) #[] lb] w fun e w' => ∃ v, e = .returned v ∧ RInts w' v (hndL p L) ∧ Below w.heap.size w w' := by
  have HA := Lib.hid (all_any b lim last vl L w h)
  have HV := Lib.hid h.rs
  have HG := Lib.hid h.good
  obtain ⟨a, cap, rfl, hc1, hc2⟩ := h.rs.shape
  have HF := Lib.hid hf
  clear hf h
  go_enter Try.func51, Try.ntmps51
  go_wp2_with fail
  refine HA.out.mono ?_
  rintro e w1 ⟨rfl, rfl⟩
  clear HA
  go_wp2
  go_loopw [5, 11] (fun o i wr => ∃ k : Nat, k ≤ L.length ∧ i = .int .i64 k ∧ Hid (OwnI wr 3 o (hndL p (L.take k))) ∧ Hid (FreshV w.heap.size o) ∧ Below w.heap.size w wr) (fun _ i _ => L.length - (intOf i).toNat)
  case atStart => exact ⟨0, Nat.zero_le _, rfl, OwnI.nil _ _, FreshV.nil _, Below.refl _ _⟩
  case round =>
    obtain ⟨k, hk, rfl, HO, HFR, hb⟩ := hrel
    by_cases hlt : k < L.length
    · obtain ⟨b2, off, x, rfl, hbb, hx, hgx, hcx⟩ := (HV.out.below hb).at hlt
      have HX := Lib.hid hx
      have HT := Lib.hid (hndL_snoc p (L.take k) x)
      rw [← take_snoc hx] at HT
      obtain ⟨⟨xc, xi, xt, xn⟩, xh⟩ := x
      have c0 : wr.cell? ⟨b2, off + k * 5, none⟩ = some (.int .i64 xc) := hcx 0 _ rfl
      have c1 : wr.cell? ⟨b2, off + k * 5 + 1, none⟩ = some (.int .i64 xi) := hcx 1 _ rfl
      have c2 : wr.cell? ⟨b2, off + k * 5 + 2, none⟩ = some (.int .i64 xt) := hcx 2 _ rfl
      have c3 : wr.cell? ⟨b2, off + k * 5 + 3, none⟩ = some (.int .i64 xn) := hcx 3 _ rfl
      have c4 : wr.cell? ⟨b2, off + k * 5 + 4, none⟩ = some (.int .i64 xh) := hcx 4 _ rfl
      have hal := below_alloc wr (.cells #[.int .i64 xc, .int .i64 xi, .int .i64 xt, .int .i64 xn, .int .i64 xh] 85 (0, 0))
      have HAL := Lib.hid hal
      have HC := Lib.hid (HF.out ((xc, xi, xt, xn), xh) _ (hb.trans (below_of hal hb.size)))
      have HBX := Lib.hid (Blk.new wr [.int .i64 xc, .int .i64 xi, .int .i64 xt, .int .i64 xn, .int .i64 xh] 85)
      clear hx hgx hcx hal
      go_wp2_with fail
      refine HC.out.mono ?_
      rintro e w2 ⟨rfl, hb2⟩
      have hb3 := hb.trans (below_of (below_two HAL.out hb2) hb.size)
      have HO2 := Lib.hid (HO.out.below (below_two HAL.out hb2))
      have c5 := (HBX.out.below hb2).cell (i := 4) (x := .int .i64 xh) rfl
      clear HC hb hb2 HAL HO HBX c0 c1 c2 c3 c4
      cases hp : p ((xc, xi, xt, xn), xh) with
      | true =>
        rw [hp, if_pos rfl] at HT
        clear hp
        have hown := HO2.out
        have HLN := Lib.hid (show (hndL p (L.take k)).length < 1000000000 by have := hndL_len p (L.take k); rw [List.length_take] at this; omega)
        go_wp2_with (at_builtin; refine wpList_append_int _ _ rfl _ _ 28 rfl 3 Try.underlying28 intinfo _ (hndL p (L.take k)) _ _ rfl rfl rfl hown HLN.out ?_)
        intro v3 w3 hown3 hkeep hfresh
        have hb4 := below_append hb3 hkeep HFR.out hb3.size
        have HF3 := Lib.hid (HFR.out.step hb3.size hfresh)
        have HO3 := Lib.hid (show OwnI w3 3 v3 (hndL p (L.take (k + 1))) by rw [HT.out]; exact hown3)
        clear hown hown3 hkeep hfresh HO2 HT
        go_wp2
        go_roundw
        case rel => exact ⟨k + 1, by omega, by go_num, HO3.out, HF3.out, hb4⟩
        case measure => simp [intOf]; omega
      | false =>
        rw [hp, if_neg (by decide), List.append_nil] at HT
        have HO3 := Lib.hid (show OwnI w2 3 _ (hndL p (L.take (k + 1))) by rw [HT.out]; exact HO2.out)
        clear hp HT HO2
        go_wp2
        go_roundw
        case rel => exact ⟨k + 1, by omega, by go_num, HO3.out, HFR.out, hb3⟩
        case measure => simp [intOf]; omega
    · obtain rfl : k = L.length := by omega
      have HO2 := Lib.hid (show OwnI wr 3 _ (hndL p L) by have := HO.out; rwa [List.take_length] at this)
      go_wp2
      go_ret
      exact ⟨_, rfl, HO2.out.reads (hndL_ok HG.out), hb⟩

set_option maxHeartbeats 1000000 in
theorem handles_nil (f : Nat) (lb : Array Value) (w : World) :
    Calls Try.prog 51 #[.pointer none, .func (.func f) #[] lb] w fun e w' => e = .returned (.slice none 0 0) ∧ w = w' := by
  go_enter Try.func51, Try.ntmps51
  go_wp2_with fail
  refine (all_nil _).mono ?_
  rintro e w1 ⟨rfl, rfl⟩
  go_wp2
  go_loopw [5, 11] (fun o i wr => o = .slice none 0 0 ∧ i = .int .i64 0 ∧ w = wr) (fun _ _ _ => 0)
  case atStart => exact ⟨rfl, rfl, rfl⟩
  case round =>
    obtain ⟨rfl, rfl, rfl⟩ := hrel
    go_wp2
    go_ret
    exact ⟨rfl, rfl⟩

set_option maxHeartbeats 1000000 in
theorem of_any (b : Nat) (lim : Int) (last : Nat) (vl : Value) (L : List LV) (n : Int) (w : World) (h : TabAt w b lim last vl L) (hl : L.length ≤ 1000) :
    Calls Try.prog 23 #[.pointer (some ⟨b, 0, none⟩), .int .i64 n] w fun e w' => ∃ v, e = .returned v ∧ RInts w' v (hndL (isC n) L) ∧ Below w.heap.size w w' := by
  have hal := below_alloc w (.cells #[.int .i64 n] 3 (0, 0))
  have h2 := h.below hal
  have d1 := (Blk.new w [.int .i64 n] 3).cell (i := 0) rfl
  have hm := hmf
  have HP := Lib.hid (handles_any b lim last vl L 52 _ _ _ h2 hl (fun args w => enter_of Try.func52 (by kernel_rfl) rfl args w) (cloOf _ n _ d1))
  have HAL := Lib.hid hal
  clear h h2 d1 hal
  go_enter Try.func23, Try.ntmps23
  go_wp2_with fail
  refine HP.out.mono ?_
  rintro e w1 ⟨v, rfl, hv, hb⟩
  obtain ⟨a, cap, rfl, -, -⟩ := hv.shape
  have HV := Lib.hid hv
  have HB := Lib.hid (below_two HAL.out hb)
  clear HP hv hb
  go_wp2
  go_ret
  exact ⟨_, rfl, HV.out, HB.out⟩
theorem of_nil (n : Int) (w : World) :
    Calls Try.prog 23 #[.pointer none, .int .i64 n] w fun e w' => e = .returned (.slice none 0 0) ∧ Below w.heap.size w w' := by
  have hal := below_alloc w (.cells #[.int .i64 n] 3 (0, 0))
  have hm := hmf
  go_enter Try.func23, Try.ntmps23
  go_wp2_with fail
  refine (handles_nil _ _ _).mono ?_
  rintro e w1 ⟨rfl, rfl⟩
  go_wp2
  go_ret
  exact ⟨rfl, hal⟩

set_option maxHeartbeats 1000000 in
theorem byt_any (b : Nat) (lim : Int) (last : Nat) (vl : Value) (L : List LV) (n : Int) (w : World) (h : TabAt w b lim last vl L) (hl : L.length ≤ 1000) :
    Calls Try.prog 24 #[.pointer (some ⟨b, 0, none⟩), .int .i64 n] w fun e w' => ∃ v, e = .returned v ∧ RInts w' v (hndL (isT n) L) ∧ Below w.heap.size w w' := by
  have hal := below_alloc w (.cells #[.int .i64 n] 3 (0, 0))
  have h2 := h.below hal
  have d1 := (Blk.new w [.int .i64 n] 3).cell (i := 0) rfl
  have hm := hmf
  have HP := Lib.hid (handles_any b lim last vl L 53 _ _ _ h2 hl (fun args w => enter_of Try.func53 (by kernel_rfl) rfl args w) (cloBy _ n _ d1))
  have HAL := Lib.hid hal
  clear h h2 d1 hal
  go_enter Try.func24, Try.ntmps24
  go_wp2_with fail
  refine HP.out.mono ?_
  rintro e w1 ⟨v, rfl, hv, hb⟩
  obtain ⟨a, cap, rfl, -, -⟩ := hv.shape
  have HV := Lib.hid hv
  have HB := Lib.hid (below_two HAL.out hb)
  clear HP hv hb
  go_wp2
  go_ret
  exact ⟨_, rfl, HV.out, HB.out⟩
theorem byt_nil (n : Int) (w : World) :
    Calls Try.prog 24 #[.pointer none, .int .i64 n] w fun e w' => e = .returned (.slice none 0 0) ∧ Below w.heap.size w w' := by
  have hal := below_alloc w (.cells #[.int .i64 n] 3 (0, 0))
  have hm := hmf
  go_enter Try.func24, Try.ntmps24
  go_wp2_with fail
  refine (handles_nil _ _ _).mono ?_
  rintro e w1 ⟨rfl, rfl⟩
  go_wp2
  go_ret
  exact ⟨rfl, hal⟩

set_option maxHeartbeats 1000000 in
theorem need_any (b : Nat) (lim : Int) (last : Nat) (vl : Value) (L : List LV) (t : Int) (w : World) (h : TabAt w b lim last vl L) :
    Calls Try.prog 25 #[.pointer (some ⟨b, 0, none⟩), .int .i64 t] w fun e w' => e = .returned (.int .i64 (needL t L)) ∧ Below w.heap.size w w' := by
  have HA := Lib.hid (all_any b lim last vl L w h)
  have HV := Lib.hid h.rs
  obtain ⟨a, cap, rfl, hc1, hc2⟩ := h.rs.shape
  clear h
  go_enter Try.func25, Try.ntmps25
  go_wp2_with fail
  refine HA.out.mono ?_
  rintro e w1 ⟨rfl, rfl⟩
  clear HA
  go_wp2
  go_loopw [5, 11] (fun o i wr => ∃ (k : Nat) (n : Int), k ≤ L.length ∧ i = .int .i64 k ∧ o = .int .i64 n ∧ 0 ≤ n ∧ n ≤ 1099511627776 ∧ Hid (needL t (L.take k) = n) ∧ Below w.heap.size w wr) (fun _ i _ => L.length - (intOf i).toNat)
  case atStart => exact ⟨0, 0, Nat.zero_le _, rfl, rfl, Int.le_refl _, by decide, rfl, Below.refl _ _⟩
  case round =>
    obtain ⟨k, n, hk, rfl, rfl, hn0, hn1, HN, hb⟩ := hrel
    by_cases hlt : k < L.length
    · obtain ⟨b2, off, x, rfl, hbb, hx, hgx, hcx⟩ := (HV.out.below hb).at hlt
      have HT := Lib.hid (needL_snoc t (L.take k) x)
      rw [← take_snoc hx, HN.out] at HT
      have hbd := need1_bd (t := t) x ⟨hn0, hn1⟩
      have HGX := Lib.hid hgx
      obtain ⟨⟨xc, xi, xt, xn⟩, xh⟩ := x
      have hxn : -9223372036854775808 ≤ xn ∧ xn ≤ 9223372036854775807 := HGX.out.1.2.2.2
      have c0 : wr.cell? ⟨b2, off + k * 5, none⟩ = some (.int .i64 xc) := hcx 0 _ rfl
      have c1 : wr.cell? ⟨b2, off + k * 5 + 1, none⟩ = some (.int .i64 xi) := hcx 1 _ rfl
      have c2 : wr.cell? ⟨b2, off + k * 5 + 2, none⟩ = some (.int .i64 xt) := hcx 2 _ rfl
      have c3 : wr.cell? ⟨b2, off + k * 5 + 3, none⟩ = some (.int .i64 xn) := hcx 3 _ rfl
      have c4 : wr.cell? ⟨b2, off + k * 5 + 4, none⟩ = some (.int .i64 xh) := hcx 4 _ rfl
      have hal := below_alloc wr (.cells #[.int .i64 xc, .int .i64 xi, .int .i64 xt, .int .i64 xn, .int .i64 xh] 85 (0, 0))
      have hb3 := hb.trans (below_of hal hb.size)
      unfold need1 at HT hbd
      dsimp only at HT hbd
      clear hx hgx hcx hal
      cases ht : (xt == t) with
      | true =>
        have hte : xt = t := by simpa using ht
        rw [if_pos hte] at HT hbd
        rw [← cut_if xn] at HT hbd
        obtain ⟨m, hm⟩ : ∃ z, (if (1099511627776 : Int) < (if xn < 0 then 0 else xn) then 1099511627776 else (if xn < 0 then 0 else xn)) = z := ⟨_, rfl⟩
        have hm2 : m = min (max xn 0) 1099511627776 := by rw [← hm]; exact cut_if xn
        rw [hm] at HT hbd
        have hm0 : 0 ≤ m ∧ m ≤ 1099511627776 := by omega
        clear hm2
        obtain ⟨hm1, hm2⟩ := hm0
        obtain ⟨s, hs⟩ : ∃ z, n + m = z := ⟨_, rfl⟩
        rw [hs] at HT hbd
        have hw : IntKind.i64.wrap s = s := IntWalk.i64_in _ (by omega)
        rw [← cut_if2 s] at HT hbd
        obtain ⟨q, hq⟩ : ∃ z, (if (1099511627776 : Int) < s then 1099511627776 else s) = z := ⟨_, rfl⟩
        rw [hq] at HT hbd
        obtain ⟨hq0, hq1⟩ := hbd
        clear hte
        go_wp2
        go_roundw
        case rel => exact ⟨k + 1, q, by omega, by go_num, rfl, hq0, hq1, HT.out, hb3⟩
        case measure => simp [intOf]; omega
      | false =>
        have hte : ¬ xt = t := by simpa using ht
        rw [if_neg hte] at HT
        clear hte hbd
        go_wp2
        go_roundw
        case rel => exact ⟨k + 1, n, by omega, by go_num, rfl, hn0, hn1, HT.out, hb3⟩
        case measure => simp [intOf]; omega
    · obtain rfl : k = L.length := by omega
      have HN2 := Lib.hid (show n = needL t L by have := HN.out; rw [List.take_length] at this; exact this.symm)
      go_wp2
      go_ret
      exact ⟨ret_int HN2.out, hb⟩

theorem need_nil (t : Int) (w : World) :
    Calls Try.prog 25 #[.pointer none, .int .i64 t] w fun e w' => e = .returned (.int .i64 0) ∧ w = w' := by
  go_enter Try.func25, Try.ntmps25
  go_wp2_with fail
  refine (all_nil _).mono ?_
  rintro e w1 ⟨rfl, rfl⟩
  go_wp2
  go_loopw [5, 11] (fun o i wr => o = .int .i64 0 ∧ i = .int .i64 0 ∧ w = wr) (fun _ _ _ => 0)
  case atStart => exact ⟨rfl, rfl, rfl⟩
  case round =>
    obtain ⟨rfl, rfl, rfl⟩ := hrel
    go_wp2
    go_ret
    exact ⟨rfl, rfl⟩
end Go.Proofs.Ytmgjmpmcadjemaa

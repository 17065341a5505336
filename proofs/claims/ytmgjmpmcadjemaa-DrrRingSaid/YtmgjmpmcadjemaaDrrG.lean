/- Package drr: what an argument of acts reads as; the law DrrNil. -/
import Derived.Test.YtmgjmpmcadjemaaDrrF
import Derived.Test.YtmgjmpmcadjemaaRs
namespace Go.Proofs.Ytmgjmpmcadjemaa
open Go.RowKit Go.ChangeShapes Go.WideShapes Go.ChangeAt

/-- an act -/
structure DA where
  kind : Int
  ten : Int
  job : Int
  bud : Int
  used : Int
  lv : Value
  left : List Int
  st : Bool
def encD (x : DA) : List Value := [.int .i64 x.kind, .int .i64 x.ten, .int .i64 x.job, .int .i64 x.bud, .int .i64 x.used, x.lv, .bool x.st]
def i64B (n : Int) : Prop := -9223372036854775808 ≤ n ∧ n ≤ 9223372036854775807
structure goodD (w : World) (x : DA) : Prop where
  kind : i64B x.kind
  ten : i64B x.ten
  job : i64B x.job
  bud : i64B x.bud
  used : i64B x.used
  left : RInts w x.lv x.left
theorem encD_len (x : DA) : (encD x).length = 7 := rfl
theorem list7 {α : Type} {l : List α} {a b c d e f g : α} (hl : l.length = 7) (h0 : l[0]? = some a) (h1 : l[1]? = some b) (h2 : l[2]? = some c) (h3 : l[3]? = some d) (h4 : l[4]? = some e) (h5 : l[5]? = some f) (h6 : l[6]? = some g) : l = [a, b, c, d, e, f, g] := by
  match l, hl with
  | [x, y, z, u, v, s, t], _ => simp at h0 h1 h2 h3 h4 h5 h6; simp [h0, h1, h2, h3, h4, h5, h6]

theorem act30_hel {H : Type} {en : TypeId × Value → H} {w : World} (n : Nat) (cs : List Value) (y : DataW H × List MemPlace)
    (h : DataW.trod en Try.prog w 0 (fun _ => true) true n 70 cs = some y) : ∃ x, cs = encD x ∧ goodD w x := by
  have c0 : Try.prog.cellsOf 4 = 1 := by kernel_rfl
  have c1 : Try.prog.cellsOf 3 = 1 := by kernel_rfl
  have c3 : Try.prog.cellsOf 28 = 1 := by kernel_rfl
  have c2 : Try.prog.cellsOf 70 = 7 := by kernel_rfl
  obtain ⟨xs, m, _, _, hlen, hxl, hf⟩ := DataW.trod_struct Try.underlying70 h
  rw [c2] at hlen
  have hx7 : xs.length = 7 := hxl
  obtain ⟨_, f0⟩ := fld hf 0 _ rfl 3 0 rfl rfl c1 (by omega)
  obtain ⟨_, f1⟩ := fld hf 1 _ rfl 3 1 rfl rfl c1 (by omega)
  obtain ⟨_, f2⟩ := fld hf 2 _ rfl 3 2 rfl rfl c1 (by omega)
  obtain ⟨_, f3⟩ := fld hf 3 _ rfl 3 3 rfl rfl c1 (by omega)
  obtain ⟨_, f4⟩ := fld hf 4 _ rfl 3 4 rfl rfl c1 (by omega)
  obtain ⟨_, f5⟩ := fld hf 5 _ rfl 28 5 rfl rfl c3 (by omega)
  obtain ⟨_, f6⟩ := fld hf 6 _ rfl 4 6 rfl rfl c0 (by omega)
  obtain ⟨k, hk, _, wk⟩ := DataW.trod_int Try.underlying3 f0
  obtain ⟨t, ht, _, wt⟩ := DataW.trod_int Try.underlying3 f1
  obtain ⟨j, hj, _, wj⟩ := DataW.trod_int Try.underlying3 f2
  obtain ⟨b, hb, _, wb⟩ := DataW.trod_int Try.underlying3 f3
  obtain ⟨u, hu, _, wu⟩ := DataW.trod_int Try.underlying3 f4
  obtain ⟨s, hs, _⟩ := DataW.trod_bool Try.underlying4 f6
  have hl : ∃ lv left, (cs.drop 5).take 1 = [lv] ∧ RInts w lv left := by
    rcases open_ints Try.underlying28 Try.underlying3 (by kernel_rfl) f5 with ⟨hcs, _⟩ | ⟨x, l, c, zs, hcs, _, hl, hm, hz, _, hcell, hwz⟩
    · exact ⟨_, [], hcs, RInts.nil w⟩
    · exact ⟨_, _, hcs, rints_of_open hl hm (by simpa using hz) hcell hwz⟩
  obtain ⟨lv, left, h5, hr⟩ := hl
  exact ⟨⟨k, t, j, b, u, lv, left, s⟩, list7 hlen (cells_one hk) (cells_one ht) (cells_one hj) (cells_one hb) (cells_one hu) (cells_one h5) (cells_one hs), wf64 wk, wf64 wt, wf64 wj, wf64 wb, wf64 wu, hr⟩
set_option maxRecDepth 100000 in
theorem act30_of {H : Type} {en : TypeId × Value → H} {w : World} {r : Reach} {b0 : Nat} {v : Value} {d : DataW H} {p : List MemPlace} (hv : Value.okWide Try.prog w r b0 70 v)
    (h : DataW.Trod en Try.prog w 0 (fun _ => true) true 70 v d p) : ∃ x : DA, v = .agg (encD x).toArray ∧ goodD w x := by
  unfold Value.okWide at hv
  rw [Try.underlying70] at hv
  obtain ⟨cs, rfl, hsz, _⟩ := hv
  obtain ⟨fuel, hf⟩ := h
  obtain ⟨x, hx, hg⟩ := act30_hel _ _ _ hf
  simp [Value.cells] at hx
  exact ⟨x, by rw [← hx], hg⟩

set_option maxHeartbeats 2000000 in
set_option maxRecDepth 100000 in
theorem lawDrrNil {x : DA} {w : World} (hx : goodD w x) :
    Calls Try.prog 9 #[.agg (encD x).toArray] w fun e w' => e = .returned (.bool true) ∧ Below w.heap.size w w' := by
  have hlv := hx.left.shape
  obtain ⟨k, t, j, b, u, lv, left, s⟩ := x
  clear hx
  dsimp only at hlv
  obtain ⟨av, cv, rfl, -, -⟩ := hlv
  show Calls _ _ #[.agg #[.int .i64 k, .int .i64 t, .int .i64 j, .int .i64 b, .int .i64 u, .slice av left.length cv, .bool s]] _ _
  have hal := below_alloc w (.cells #[.int .i64 k, .int .i64 t, .int .i64 j, .int .i64 b, .int .i64 u, .slice av left.length cv, .bool s] 70 (0, 0))
  have hbx := Blk.new w [.int .i64 k, .int .i64 t, .int .i64 j, .int .i64 b, .int .i64 u, .slice av left.length cv, .bool s] 70
  have HN := Lib.hid (dnext_nil b (.slice av left.length cv))
  unfold turnV at HN
  have HBX := Lib.hid hbx
  have HAL := Lib.hid hal
  clear hal hbx
  go_enter Try.func9, Try.ntmps9
  go_wp2_with fail
  refine (HN.out _).mono ?_
  rintro e w1 ⟨rfl, hb⟩
  have hal1 := below_alloc w1 (.cells #[.int .i64 0, .int .i64 0, .int .i64 0] 59 (0, 0))
  have hb2 := (HBX.out.below hb).below hal1
  have q1 := hb2.cell (i := 1) (x := .int .i64 t) rfl
  have q2 := hb2.cell (i := 2) (x := .int .i64 j) rfl
  have q4 := hb2.cell (i := 4) (x := .int .i64 u) rfl
  have q6 := hb2.cell (i := 6) (x := .bool s) rfl
  have hT := Blk.new w1 [.int .i64 0, .int .i64 0, .int .i64 0] 59
  have t0 := hT.cell (i := 0) (x := .int .i64 0) rfl
  have t1 := hT.cell (i := 1) (x := .int .i64 0) rfl
  have t2 := hT.cell (i := 2) (x := .int .i64 0) rfl
  have HB := Lib.hid (below_two (below_two HAL.out hb) hal1)
  clear hb hal1 hb2 hT HN HBX HAL
  go_wp2_with fail
  refine (dadd_nil t j _).mono ?_
  rintro e w2 ⟨rfl, rfl⟩
  go_wp2_with fail
  refine (drem_nil j _).mono ?_
  rintro e w2 ⟨rfl, rfl⟩
  go_wp2_with fail
  refine (dspent_nil j u s _).mono ?_
  rintro e w2 ⟨rfl, rfl⟩
  go_wp2_with fail
  refine (dcredit_nil t _).mono ?_
  rintro e w2 ⟨rfl, rfl⟩
  go_wp2_with fail
  refine (dring_nil _).mono ?_
  rintro e w2 ⟨rfl, rfl⟩
  go_wp2_with fail
  refine (djobs_nil t _).mono ?_
  rintro e w2 ⟨rfl, rfl⟩
  go_wp2_with fail
  refine (two_any _).mono ?_
  rintro e w2 ⟨rfl, hb⟩
  have HB2 := Lib.hid (below_two HB.out hb)
  clear hb HB q1 q2 q4 q6 t0 t1 t2
  go_wp2
  go_ret
  exact ⟨rfl, HB2.out⟩
end Go.Proofs.Ytmgjmpmcadjemaa

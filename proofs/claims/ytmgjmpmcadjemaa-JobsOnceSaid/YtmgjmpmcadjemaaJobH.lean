/- Package jobs: what arguments read as; the law JobsNil walked. -/
import Derived.Test.YtmgjmpmcadjemaaJobG
namespace Go.Proofs.Ytmgjmpmcadjemaa
open Go.RowKit Go.ChangeShapes Go.WideShapes Go.ChangeAt

abbrev JAct := Bool × Int × JE
def encA37 (a : JAct) : List Value := [.bool a.1, .int .i64 a.2.1, .int .i64 a.2.2.1, .int .i64 a.2.2.2.1, .int .i64 a.2.2.2.2.1, .int .i64 a.2.2.2.2.2]
def goodA37 (a : JAct) : Prop := I64 a.2.1 ∧ goodJ a.2.2

/-- a struct's field of several cells, by its place -/
theorem fldn {H : Type} {en : TypeId × Value → H} {P : Program} {w : World} {m : Nat} {cs : List Value} {xs : List (DataW H × List MemPlace)} {fs : Array Field}
    (hf : ∀ (i : Nat) (f : Field), fs[i]? = some f → DataW.trod en P w 0 (fun _ => true) true m f.type ((cs.drop f.offset).take (P.cellsOf f.type)) = xs[i]?)
    (i : Nat) (f : Field) (hi : fs[i]? = some f) (t o s : Nat) (ht : f.type = t) (ho : f.offset = o) (hc : P.cellsOf t = s) (hx : i < xs.length) :
    ∃ y, DataW.trod en P w 0 (fun _ => true) true m t ((cs.drop o).take s) = some y := by
  subst ht
  subst ho
  subst hc
  have := hf i f hi
  rw [List.getElem?_eq_getElem hx] at this
  exact ⟨_, this⟩
theorem list4 {α : Type} {l : List α} {a b c d : α} (hl : l.length = 4) (h0 : l[0]? = some a) (h1 : l[1]? = some b) (h2 : l[2]? = some c) (h3 : l[3]? = some d) : l = [a, b, c, d] := by
  match l, hl with
  | [x, y, z, u], _ => simp at h0 h1 h2 h3; simp [h0, h1, h2, h3]
theorem list6 {α : Type} {l : List α} {a b c d e f : α} (hl : l.length = 6) (h0 : l[0]? = some a) (h1 : l[1]? = some b) (h2 : (l.drop 2).take 4 = [c, d, e, f]) : l = [a, b, c, d, e, f] := by
  match l, hl with
  | [x, y, z, u, p, q], _ => simp at h0 h1 h2; simp [h0, h1, h2]

theorem ent37_hel {H : Type} {en : TypeId × Value → H} {w : World} (n : Nat) (cs : List Value) (y : DataW H × List MemPlace)
    (h : DataW.trod en Try.prog w 0 (fun _ => true) true n 31 cs = some y) : ∃ x, cs = encJ x ∧ goodJ x := by
  have c1 : Try.prog.cellsOf 3 = 1 := by kernel_rfl
  have c2 : Try.prog.cellsOf 31 = 4 := by kernel_rfl
  obtain ⟨xs, m, _, _, hlen, hxl, hf⟩ := DataW.trod_struct Try.underlying31 h
  rw [c2] at hlen
  have hx4 : xs.length = 4 := hxl
  obtain ⟨_, f0⟩ := fld hf 0 _ rfl 3 0 rfl rfl c1 (by omega)
  obtain ⟨_, f1⟩ := fld hf 1 _ rfl 3 1 rfl rfl c1 (by omega)
  obtain ⟨_, f2⟩ := fld hf 2 _ rfl 3 2 rfl rfl c1 (by omega)
  obtain ⟨_, f3⟩ := fld hf 3 _ rfl 3 3 rfl rfl c1 (by omega)
  obtain ⟨a, ha, _, wa⟩ := DataW.trod_int Try.underlying3 f0
  obtain ⟨b, hb, _, wb⟩ := DataW.trod_int Try.underlying3 f1
  obtain ⟨c, hc, _, wc⟩ := DataW.trod_int Try.underlying3 f2
  obtain ⟨d, hd, _, wd⟩ := DataW.trod_int Try.underlying3 f3
  exact ⟨(a, b, c, d), list4 hlen (cells_one ha) (cells_one hb) (cells_one hc) (cells_one hd), wf64 wa, wf64 wb, wf64 wc, wf64 wd⟩
theorem act37_hel {H : Type} {en : TypeId × Value → H} {w : World} (n : Nat) (cs : List Value) (y : DataW H × List MemPlace)
    (h : DataW.trod en Try.prog w 0 (fun _ => true) true n 33 cs = some y) : ∃ x, cs = encA37 x ∧ goodA37 x := by
  have c0 : Try.prog.cellsOf 4 = 1 := by kernel_rfl
  have c1 : Try.prog.cellsOf 3 = 1 := by kernel_rfl
  have c4 : Try.prog.cellsOf 31 = 4 := by kernel_rfl
  have c2 : Try.prog.cellsOf 33 = 6 := by kernel_rfl
  obtain ⟨xs, m, _, _, hlen, hxl, hf⟩ := DataW.trod_struct Try.underlying33 h
  rw [c2] at hlen
  have hx3 : xs.length = 3 := hxl
  obtain ⟨_, f0⟩ := fld hf 0 _ rfl 4 0 rfl rfl c0 (by omega)
  obtain ⟨_, f1⟩ := fld hf 1 _ rfl 3 1 rfl rfl c1 (by omega)
  obtain ⟨_, f2⟩ := fldn hf 2 _ rfl 31 2 4 rfl rfl c4 (by omega)
  obtain ⟨b, hb, _⟩ := DataW.trod_bool Try.underlying4 f0
  obtain ⟨t, ht, _, wt⟩ := DataW.trod_int Try.underlying3 f1
  obtain ⟨e, he, hg⟩ := ent37_hel _ _ _ f2
  exact ⟨(b, t, e), list6 hlen (cells_one hb) (cells_one ht) he, wf64 wt, hg⟩
set_option maxRecDepth 100000 in
theorem ent37_of {H : Type} {en : TypeId × Value → H} {w : World} {r : Reach} {b0 : Nat} {v : Value} {d : DataW H} {p : List MemPlace} (hv : Value.okWide Try.prog w r b0 31 v)
    (h : DataW.Trod en Try.prog w 0 (fun _ => true) true 31 v d p) : ∃ x : JE, v = .agg (encJ x).toArray ∧ goodJ x := by
  unfold Value.okWide at hv
  rw [Try.underlying31] at hv
  obtain ⟨cs, rfl, hsz, _⟩ := hv
  obtain ⟨fuel, hf⟩ := h
  obtain ⟨x, hx, hg⟩ := ent37_hel _ _ _ hf
  simp [Value.cells] at hx
  exact ⟨x, by rw [← hx], hg⟩

set_option maxHeartbeats 2000000 in
set_option maxRecDepth 100000 in
theorem lawJobsNil {x : JE} {n : Int} {w : World} (hx : goodJ x) (h1 : -9223372036854775808 ≤ n) (h2 : n ≤ 9223372036854775807) :
    Calls Try.prog 5 #[.agg (encJ x).toArray, .int .i64 n] w fun e w' => e = .returned (.bool true) ∧ Below w.heap.size w w' := by
  clear hx h1 h2
  obtain ⟨c, i, t, m⟩ := x
  show Calls _ _ #[.agg #[.int .i64 c, .int .i64 i, .int .i64 t, .int .i64 m], .int .i64 n] _ _
  have HAL := Lib.hid (below_alloc w (.cells #[.int .i64 c, .int .i64 i, .int .i64 t, .int .i64 m] 31 (0, 0)))
  go_enter Try.func5, Try.ntmps5
  go_wp2_with fail
  refine (add_nil c i t m _).mono ?_
  rintro e w1 ⟨rfl, hq⟩
  have HB1 := Lib.hid (below_two HAL.out hq)
  clear hq
  go_wp2_with fail
  refine (get_nil n _).mono ?_
  rintro e w2 ⟨rfl, hq⟩
  have HB2 := Lib.hid (below_two HB1.out hq)
  have hbx := Blk.new w2 [.int .i64 0, .int .i64 0, .int .i64 0, .int .i64 0] 31
  have HBX := Lib.hid hbx
  have HB3 := Lib.hid (below_two HB2.out (below_alloc w2 (.cells #[.int .i64 0, .int .i64 0, .int .i64 0, .int .i64 0] 31 (0, 0))))
  clear hq hbx
  go_wp2_with fail
  refine (find_nil n n _).mono ?_
  rintro e w3 ⟨rfl, hq⟩
  have HB4 := Lib.hid (below_two HB3.out hq)
  have HBX3 := Lib.hid (HBX.out.below hq)
  clear hq HBX
  go_wp2_with fail
  refine (drop_nil n _).mono ?_
  rintro e w4 ⟨rfl, hq⟩
  have hal4 := below_alloc w4 (.cells #[.int .i64 0, .int .i64 0, .int .i64 0, .int .i64 0] 31 (0, 0))
  have HB5 := Lib.hid (below_two (below_two HB4.out hq) hal4)
  have hx4 := (HBX3.out.below hq).below hal4
  have d0 := hx4.cell (i := 0) (x := .int .i64 0) rfl
  have d1 := hx4.cell (i := 1) (x := .int .i64 0) rfl
  have d2 := hx4.cell (i := 2) (x := .int .i64 0) rfl
  have d3 := hx4.cell (i := 3) (x := .int .i64 0) rfl
  clear hq HBX3 hal4 hx4
  go_wp2_with fail
  refine (of_nil n _).mono ?_
  rintro e w5 ⟨rfl, hq⟩
  have HB6 := Lib.hid (below_two HB5.out hq)
  clear hq d0 d1 d2 d3
  go_wp2_with fail
  refine (byt_nil n _).mono ?_
  rintro e w6 ⟨rfl, hq⟩
  have HB7 := Lib.hid (below_two HB6.out hq)
  clear hq
  go_wp2_with fail
  refine (jlen_nil _).mono ?_
  rintro e w7 ⟨rfl, rfl⟩
  go_wp2_with fail
  refine (need_nil n _).mono ?_
  rintro e w7 ⟨rfl, rfl⟩
  go_wp2_with fail
  refine (again_any _).mono ?_
  rintro e w8 ⟨rfl, hq⟩
  have HB8 := Lib.hid (below_two HB7.out hq)
  clear hq
  go_wp2
  go_ret
  exact ⟨rfl, HB8.out⟩
end Go.Proofs.Ytmgjmpmcadjemaa

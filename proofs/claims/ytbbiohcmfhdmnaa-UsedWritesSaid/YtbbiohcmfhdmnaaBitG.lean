/- What an argument of acts reads as. -/
import Derived.Test.YtbbiohcmfhdmnaaBitF
namespace Go.Proofs.Ytbbiohcmfhdmnaa
open Go.RowKit Go.ChangeShapes Go.WideShapes Go.ChangeAt

theorem list4 {α : Type} {l : List α} {a b c d : α} (hl : l.length = 4) (h0 : l[0]? = some a) (h1 : l[1]? = some b) (h2 : l[2]? = some c) (h3 : l[3]? = some d) : l = [a, b, c, d] := by
  match l, hl with
  | [x, y, z, u], _ => simp at h0 h1 h2 h3; simp [h0, h1, h2, h3]
theorem wfu32 {n : Int} (h : (Lit.int .u32 n).wf = true) : 0 ≤ n ∧ n ≤ 4294967295 := by
  have h1 : IntKind.u32.min = 0 := rfl
  have h2 : IntKind.u32.max = 4294967295 := rfl
  simp only [Lit.wf, Bool.and_eq_true, decide_eq_true_eq] at h
  omega

theorem op01_hel {H : Type} {en : TypeId × Value → H} {w : World} (n : Nat) (cs : List Value) (y : DataW H × List MemPlace)
    (h : DataW.trod en Try.prog w 0 (fun _ => true) true n 29 cs = some y) : ∃ x, cs = encO x ∧ goodO x := by
  have c0 : Try.prog.cellsOf 9 = 1 := by kernel_rfl
  have c1 : Try.prog.cellsOf 3 = 1 := by kernel_rfl
  have c3 : Try.prog.cellsOf 27 = 1 := by kernel_rfl
  have c2 : Try.prog.cellsOf 29 = 4 := by kernel_rfl
  obtain ⟨xs, m, _, _, hlen, hxl, hf⟩ := DataW.trod_struct Try.underlying29 h
  rw [c2] at hlen
  have hx4 : xs.length = 4 := hxl
  obtain ⟨_, f0⟩ := fld hf 0 _ rfl 3 0 rfl rfl c1 (by omega)
  obtain ⟨_, f1⟩ := fld hf 1 _ rfl 3 1 rfl rfl c1 (by omega)
  obtain ⟨_, f2⟩ := fld hf 2 _ rfl 27 2 rfl rfl c3 (by omega)
  obtain ⟨_, f3⟩ := fld hf 3 _ rfl 9 3 rfl rfl c0 (by omega)
  obtain ⟨k, hk, _, wk⟩ := DataW.trod_int Try.underlying3 f0
  obtain ⟨t, ht, _, wt⟩ := DataW.trod_int Try.underlying3 f1
  obtain ⟨u, hu, _, wu⟩ := DataW.trod_int Try.underlying27 f2
  obtain ⟨s, hs, _, ws⟩ := DataW.trod_string Try.underlying9 f3
  have hu0 := wfu32 wu
  have e : u = ((u.toNat : Nat) : Int) := by omega
  refine ⟨⟨k, t, u.toNat, s⟩, ?_, wf64 wk, wf64 wt, by show u.toNat < 4294967296; omega, by unfold maxLen at ws; exact ws⟩
  have := list4 hlen (cells_one hk) (cells_one ht) (cells_one hu) (cells_one hs)
  rw [this, e]
  simp [encO]

theorem op01_of {H : Type} {en : TypeId × Value → H} {w : World} {r : Reach} {b0 : Nat} {v : Value} {d : DataW H} {p : List MemPlace} (hv : Value.okWide Try.prog w r b0 29 v)
    (h : DataW.Trod en Try.prog w 0 (fun _ => true) true 29 v d p) : ∃ x : OpB, v = .agg (encO x).toArray ∧ goodO x := by
  unfold Value.okWide at hv
  rw [Try.underlying29] at hv
  obtain ⟨cs, rfl, hsz, _⟩ := hv
  obtain ⟨fuel, hf⟩ := h
  obtain ⟨x, hx, hg⟩ := op01_hel _ _ _ hf
  simp [Value.cells] at hx
  exact ⟨x, by rw [← hx], hg⟩
end Go.Proofs.Ytbbiohcmfhdmnaa

/- What an argument of acts reads as. -/
import Derived.Test.YtfphdcfbkknpbaaWinF
namespace Go.Proofs.Ytfphdcfbkknpbaa
open Go.RowKit

theorem act28_hel {H : Type} {en : TypeId × Value → H} {w : World} (n : Nat) (cs : List Value) (y : DataW H × List MemPlace)
    (h : DataW.trod en Try.prog w 0 (fun _ => true) true n 31 cs = some y) : ∃ x, cs = encA x ∧ goodA x := by
  have c0 : Try.prog.cellsOf 4 = 1 := by kernel_rfl
  have c1 : Try.prog.cellsOf 3 = 1 := by kernel_rfl
  have c2 : Try.prog.cellsOf 31 = 3 := by kernel_rfl
  obtain ⟨xs, m, _, _, hlen, hxl, hf⟩ := DataW.trod_struct Try.underlying31 h
  rw [c2] at hlen
  have hx3 : xs.length = 3 := hxl
  obtain ⟨_, f0⟩ := fld hf 0 _ rfl 4 0 rfl rfl c0 (by omega)
  obtain ⟨_, f1⟩ := fld hf 1 _ rfl 3 1 rfl rfl c1 (by omega)
  obtain ⟨_, f2⟩ := fld hf 2 _ rfl 3 2 rfl rfl c1 (by omega)
  obtain ⟨b, hb, _⟩ := DataW.trod_bool Try.underlying4 f0
  obtain ⟨t, ht, _, wt⟩ := DataW.trod_int Try.underlying3 f1
  obtain ⟨k, hk, _, wk⟩ := DataW.trod_int Try.underlying3 f2
  exact ⟨(b, t, k), list3 hlen (cells_one hb) (cells_one ht) (cells_one hk), wf64 wt, wf64 wk⟩
end Go.Proofs.Ytfphdcfbkknpbaa

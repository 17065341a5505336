/- Package jobs: Drop. -/
import Derived.Test.YtmgjmpmcadjemaaJobC
import Derived.Deep.MidRow
namespace Go.Proofs.Ytmgjmpmcadjemaa
open Go.RowKit

/-- cells laid over a row -/
def setL : List Value → Nat → List Value → List Value
  | cs, _, [] => cs
  | cs, o, v :: r => setL (cs.set o v) (o + 1) r
theorem setL_len : ∀ (vs cs : List Value) (o : Nat), (setL cs o vs).length = cs.length
  | [], _, _ => rfl
  | v :: r, cs, o => by rw [setL, setL_len r]; simp
theorem setL_out : ∀ (vs cs : List Value) (o i : Nat), (i < o ∨ o + vs.length ≤ i) → (setL cs o vs)[i]? = cs[i]?
  | [], _, _, _, _ => rfl
  | v :: r, cs, o, i, h => by
    rw [setL, setL_out r _ _ i (by simp at h; omega), List.getElem?_set_ne (by simp at h; omega)]
theorem setL_in : ∀ (vs cs : List Value) (o i : Nat), i < vs.length → o + vs.length ≤ cs.length → (setL cs o vs)[o + i]? = vs[i]?
  | v :: r, cs, o, 0, _, hl => by
    rw [setL, setL_out r _ _ _ (by omega)]
    simp at hl
    simp [show o < cs.length by omega]
  | v :: r, cs, o, i + 1, hi, hl => by
    have := setL_in r (cs.set o v) (o + 1) i (by simpa using hi) (by simp at hl ⊢; omega)
    rw [setL, show o + (i + 1) = o + 1 + i by omega, this]
    simp
theorem Blk.setCells {b : Nat} {t : TypeId} : ∀ (vs cs : List Value) (o : Nat) (w : World), Blk w b cs t → Blk (w.setCells b o vs) b (setL cs o vs) t
  | [], _, _, _, h => h
  | v :: r, cs, o, w, h => Blk.setCells r (cs.set o v) (o + 1) _ (h.set o v)
theorem keep_setCells' {S : Nat → Prop} {w0 : World} {b : Nat} (hb : S b) : ∀ (vs : List Value) (o : Nat) (w : World), Keep S w0 w → Keep S w0 (w.setCells b o vs)
  | [], _, _, h => h
  | v :: r, o, w, h => keep_setCells' hb r (o + 1) _ (keep_setCell h (a := ⟨b, o, none⟩) hb v)

/-- elements in a row's cells -/
def RowE (cs : List Value) (E : List LV) : Prop := ∀ (i : Nat) (x : LV), E[i]? = some x → ∀ (c : Nat) (u : Value), (encV x)[c]? = some u → cs[i * 5 + c]? = some u
theorem RowE.set {cs : List Value} {E : List LV} (h : RowE cs E) (i : Nat) (x : LV) (hi : i < E.length) (hl : E.length * 5 ≤ cs.length) : RowE (setL cs (i * 5) (encV x)) (E.set i x) := by
  intro k y hk c u hu
  have hc : c < 5 := by have := (List.getElem?_eq_some_iff.1 hu).1; rwa [encV_len] at this
  by_cases e : i = k
  · subst e
    rw [List.getElem?_set_self hi] at hk
    cases hk
    rw [setL_in _ _ _ _ (by rw [encV_len]; exact hc) (by rw [encV_len]; omega)]
    exact hu
  · rw [List.getElem?_set_ne e] at hk
    rw [setL_out _ _ _ _ (by rw [encV_len]; omega)]
    exact h k y hk c u hu
theorem RowE.flat {cs : List Value} {E : List LV} (h : RowE cs E) (m : Nat) (hm : m ≤ E.length) (hl : E.length * 5 ≤ cs.length) : cs.take (m * 5) = (E.take m).flatMap encV := by
  apply List.ext_getElem?
  intro j
  by_cases hj : j < m * 5
  · have hk : j / 5 < E.length := by omega
    have hx : E[j / 5]? = some E[j / 5] := List.getElem?_eq_getElem hk
    have hx2 : (E.take m)[j / 5]? = some E[j / 5] := by rw [List.getElem?_take, if_pos (by omega)]; exact hx
    have e : j = j / 5 * 5 + j % 5 := by omega
    rw [List.getElem?_take, if_pos hj, e, flat_at encV_len hx2 _ (Nat.mod_lt _ (by decide))]
    have hu : (encV E[j / 5])[j % 5]? = some ((encV E[j / 5])[j % 5]'(by rw [encV_len]; exact Nat.mod_lt _ (by decide))) := List.getElem?_eq_getElem _
    rw [hu]
    exact h _ _ hx _ _ hu
  · rw [List.getElem?_eq_none (by rw [List.length_take]; omega), List.getElem?_eq_none (by rw [flat_len encV_len, List.length_take]; omega)]
theorem own_of_blk {w : World} {g cap : Nat} {cs : List Value} {E : List LV} (hb : Blk w g cs 85) (h : RowE cs E) (m : Nat) (hm : m ≤ E.length) (hl : E.length ≤ cap) (hc : cs.length = cap * 5) (hM : cap ≤ maxLen) :
    Own w 85 5 (.slice (some ⟨g, 0, none⟩) m cap) m ((E.take m).flatMap encV) := by
  have hf := h.flat m hm (by omega)
  refine ⟨by rw [flat_len encV_len, List.length_take]; omega, .inr ⟨g, cap, cs.toArray, rfl, Nat.zero_le _, hb, by omega, hM, by simpa using hc, ?_⟩⟩
  simpa using hf
theorem blk_of_own {w : World} {g n cap : Nat} {E : List LV} (h : Own w 85 5 (.slice (some ⟨g, 0, none⟩) n cap) n (E.flatMap encV)) (hn : E.length = n) :
    ∃ cs, Blk w g cs 85 ∧ RowE cs E ∧ cs.length = cap * 5 ∧ n ≤ cap ∧ cap ≤ maxLen := by
  obtain ⟨h1, h2⟩ := h
  rcases h2 with ⟨h', _⟩ | ⟨g', cap', cur, h', _, hh, hnc, hcm, hs, ht⟩
  · simp at h'
  · simp only [Value.slice.injEq, Option.some.injEq, Addr.mk.injEq, and_true, true_and] at h'
    obtain ⟨rfl, rfl⟩ := h'
    refine ⟨cur.toList, hh, ?_, by simpa using hs, hnc, hcm⟩
    intro i x hx c u hu
    have hc : c < 5 := by have := (List.getElem?_eq_some_iff.1 hu).1; rwa [encV_len] at this
    have hi := (List.getElem?_eq_some_iff.1 hx).1
    have h3 := flat_at encV_len hx c hc
    rw [← ht, hu, List.getElem?_take, if_pos (by omega)] at h3
    exact h3

theorem zero_live : ∀ w : World, (zeroValue 85).run Try.prog w = .ok (.agg #[.int .i64 0, .int .i64 0, .int .i64 0, .int .i64 0, .int .i64 0]) w := fun _ => by kernel_rfl
theorem livesize : (Try.prog.info? 85).map (·.size) = some 5 := by kernel_rfl

/-- 'clear(s)', elements of several cells -/
theorem run_clear_elems {P : Program} (w : World) (t e ty : TypeId) (z : Value) (ht : P.underlying t = some (.slice e)) (hv : ∀ w, (zeroValue e).run P w = .ok z w) (b o n c : Nat) (hn : 0 < n)
    (hz : ∀ v ∈ (Builtin.zeroCells z.cells n).toList, v.oneCell' = true)
    (hc : ∀ j, j < (Builtin.zeroCells z.cells n).toList.length → (w.cell? ⟨b, o + j, none⟩).isSome = true) (hf : ∀ j, j < (Builtin.zeroCells z.cells n).toList.length → w.frozen? ⟨b, o + j, none⟩ = false) :
    (Builtin.clear_ #[t] ty #[.slice (some ⟨b, o, none⟩) n c]).run P w = .ok (.tuple #[]) (w.setCells b o (Builtin.zeroCells z.cells n).toList) := by
  have hst := run_storeCells_cells (P := P) b o (Builtin.zeroCells z.cells n).toList 0 w (by simpa using hc) (by simpa using hf) hz
  simp only [Nat.add_zero] at hst
  obtain ⟨m, rfl⟩ : ∃ m, n = m + 1 := ⟨n - 1, by omega⟩
  simp [Builtin.clear_, run_underlying ht, hv, hst]

theorem zeros5 (n : Nat) : (Builtin.zeroCells (Value.agg #[.int .i64 0, .int .i64 0, .int .i64 0, .int .i64 0, .int .i64 0]).cells n).toList.length = n * 5 ∧ ∀ v ∈ (Builtin.zeroCells (Value.agg #[.int .i64 0, .int .i64 0, .int .i64 0, .int .i64 0, .int .i64 0]).cells n).toList, v.oneCell' = true := by
  constructor
  · simp [Builtin.zeroCells, Value.cells]
  · intro v hv
    simp only [Builtin.zeroCells, Value.cells, Array.toList_map, List.mem_map] at hv
    obtain ⟨i, _, rfl⟩ := hv
    have h5 : i % 5 < 5 := Nat.mod_lt _ (by decide)
    show (#[Value.int .i64 0, .int .i64 0, .int .i64 0, .int .i64 0, .int .i64 0][i % 5]!).oneCell' = true
    have : i % 5 = 0 ∨ i % 5 = 1 ∨ i % 5 = 2 ∨ i % 5 = 3 ∨ i % 5 = 4 := by omega
    rcases this with e | e | e | e | e <;> rw [e] <;> rfl

theorem run_slice_from {P : Program} (w : World) (t e : TypeId) (s : Nat) (ht : P.underlying t = some (.slice e)) (hs : (P.info? e).map (·.size) = some s) (g n cap : Nat) (kl : IntKind) (l : Nat) (h1 : l ≤ n) (h3 : l < cap) :
    (Instr.slice t (.slice (some ⟨g, 0, none⟩) n cap) (some (.int kl (l : Int))) none none).run P w = .ok (.slice (some ⟨g, l * s, none⟩) (n - l) (cap - l)) w := by
  have he : P.elem t = e := by unfold Program.elem; rw [ht]
  cases hq : P.info? e with
  | none => rw [hq] at hs; cases hs
  | some j =>
    have hj : j.size = s := by rw [hq] at hs; simpa using hs
    rw [run_slice_l w t _ n cap (by rw [he]; exact ht) kl (l : Int) (by omega) (by omega), he]
    have hne : ¬ cap = l := by omega
    simp [sizeOf, typeInfo, hq, hj, Result.andThen, sliced, hne]
    unfold Addr.add; split <;> simp_all
theorem run_slice_to {P : Program} (w : World) (t e : TypeId) (s : Nat) (ht : P.underlying t = some (.slice e)) (hs : (P.info? e).map (·.size) = some s) (g n cap : Nat) (kl : IntKind) (h : Nat) (h1 : h ≤ cap) (h3 : 0 < cap) :
    (Instr.slice t (.slice (some ⟨g, 0, none⟩) n cap) none (some (.int kl (h : Int))) none).run P w = .ok (.slice (some ⟨g, 0, none⟩) h cap) w := by
  have he : P.elem t = e := by unfold Program.elem; rw [ht]
  cases hq : P.info? e with
  | none => rw [hq] at hs; cases hs
  | some j =>
    have hj : j.size = s := by rw [hq] at hs; simpa using hs
    rw [run_slice_h w t _ n cap (by rw [he]; exact ht) kl (h : Int) (by omega) (by omega), he]
    have hne : ¬ cap = 0 := by omega
    simp [sizeOf, typeInfo, hq, hj, Result.andThen, sliced, hne]
    unfold Addr.add; split <;> simp_all

set_option maxHeartbeats 1000000 in
theorem lclone_any (v : Value) (L : List LV) (w : World) (hl : L.length ≤ 1000) (h0 : 0 < L.length) (hv : RS w v L encV 5 goodV) :
    Calls Try.prog 41 #[v] w fun e w' => ∃ g cap, e = .returned (.slice (some ⟨g, 0, none⟩) L.length cap) ∧ Own w' 85 5 (.slice (some ⟨g, 0, none⟩) L.length cap) L.length (L.flatMap encV) ∧ w.heap.size ≤ g ∧ Below w.heap.size w w' := by
  have hn := fun (w : World) (a : Option Addr) (n c : Nat) => Lib.run_eql_slice_nil (P := Try.prog) w 80 85 a n c 0 0 Try.underlying80
  have HV := Lib.hid (hv.below (below_alloc w (.cells #[] 85 (0, 0))))
  obtain ⟨a, cap, rfl, hc1, hc2⟩ := hv.shape
  obtain ⟨b, off, x, rfl, -, -, -, -⟩ := hv.at h0
  have hnews : ∀ j u, (L.flatMap encV)[j]? = some u → (w.alloc (.cells #[] 85 (0, 0))).cell? ((⟨b, off, none⟩ : Addr).add j) = some u := by
    intro j u hu
    have hj := (List.getElem?_eq_some_iff.1 hu).1
    rw [flat_len encV_len] at hj
    have hk : j / 5 < L.length := by omega
    obtain ⟨b', off', y, he, -, hy, -, hcy⟩ := HV.out.at hk
    simp only [Option.some.injEq, Addr.mk.injEq, and_true] at he
    obtain ⟨rfl, rfl⟩ := he
    have e : j = j / 5 * 5 + j % 5 := by omega
    rw [e, flat_at encV_len hy _ (Nat.mod_lt _ (by decide))] at hu
    have := hcy _ u hu
    rw [add_flat, ← this]
    congr 2
    omega
  have HN := Lib.hid hnews
  have HLN := Lib.hid (flat_len encV_len L)
  have HONE := Lib.hid (show ∀ u ∈ L.flatMap encV, u.oneCell' = true from fun u hu => by
    obtain ⟨x, _, hx⟩ := List.mem_flatMap.1 hu
    exact encV_one x u hx)
  have hown := own_empty w 85 5
  obtain ⟨N, hN⟩ : ∃ z, L.length = z := ⟨_, rfl⟩
  obtain ⟨xs, hxs⟩ : ∃ z, L.flatMap encV = z := ⟨_, rfl⟩
  rw [hN, hxs] at HLN
  rw [hxs] at HN HONE
  rw [hN] at hl h0 hc1 HV
  rw [hN, hxs]
  clear hv hnews hN hxs
  go_enter Try.func41, Try.ntmps41
  go_wp2_with (at_builtin; refine wpList_append_keep _ rfl _ _ 80 rfl 85 (.agg #[.int .i64 0, .int .i64 0, .int .i64 0, .int .i64 0, .int .i64 0]) 5 40 Try.underlying80 liveinfo rfl (by decide) (.slice (some ⟨w.heap.size, 0, none⟩) 0 0) 0 [] rfl hown ⟨b, off, none⟩ N cap xs rfl HLN.out HN.out HONE.out (by unfold maxLen; omega) (by omega) ?_)
  intro v2 w2 hown2 hkeep hfresh
  have hb2 : Below w.heap.size w w2 := (below_alloc w _).trans (hkeep.below (by simp) (fun k hk he => by simp [Value.ownBlock] at he; omega))
  have hf2 : FreshV w.heap.size v2 := fun g hg => by
    rcases hfresh g hg with h | h
    · simp [Value.ownBlock] at h; omega
    · omega
  have HO := Lib.hid hown2
  have HB := Lib.hid hb2
  have hcase := hown2.2
  rcases hcase with ⟨rfl, e0⟩ | ⟨g, cap2, cur, rfl, -, -, -, -, -, -⟩
  · omega
  · have HG := Lib.hid (hf2 g rfl)
    clear hown hown2 hkeep hfresh hb2 hf2
    go_wp2
    go_ret
    exact ⟨_, _, rfl, HO.out, HG.out, HB.out⟩

/-- the closure in worlds whose row is rewritten -/
def FnS (g : Nat) (w : World) (f : Nat) (lb : Array Value) (p : LV → Bool) : Prop :=
  ∀ (x : LV) (w' : World), Keep (fun j => j = g) w w' → Calls Try.prog f (#[.agg (encV x).toArray] ++ lb) w' fun e w2 => e = .returned (.bool (p x)) ∧ Below w'.heap.size w' w2
theorem FnS.fnP {g : Nat} {w : World} {f : Nat} {lb : Array Value} {p : LV → Bool} (h : FnS g w f lb p) : FnP w f lb p := fun x w' hb => h x w' (Keep.of_below hb _)
theorem cloDropS (g c1 : Nat) (n : Int) (w : World) (h1 : w.cell? ⟨c1, 0, none⟩ = some (.int .i64 n)) (hne : c1 ≠ g) : FnS g w 42 #[.pointer (some ⟨c1, 0, none⟩)] (isH n) := by
  intro x w' hk
  have hlt := World.block_lt_of_cell? w _ h1
  have h2 : w'.cell? ⟨c1, 0, none⟩ = some (.int .i64 n) := (World.cell?_of_block (hk.block c1 hlt hne)).trans h1
  exact cloDrop c1 n w' h2 x w' (Below.refl _ _)

theorem filter_take {p : LV → Bool} {L : List LV} {j : Nat} {x : LV} (h : L[j]? = some x) : (L.take (j + 1)).filter p = (L.take j).filter p ++ (if p x then [x] else []) := by
  rw [take_snoc h, List.filter_append]
  congr 1
  cases hp : p x <;> simp [hp]
theorem set_take_drop {E : List LV} {i j : Nat} {x : LV} (hi : i < E.length) (hij : i < j) : (E.set i x).take (i + 1) = E.take i ++ [x] ∧ (E.set i x).drop j = E.drop j := by
  constructor
  · rw [List.take_add_one, List.take_set_of_le (Nat.le_refl _), List.getElem?_set_self hi]
    rfl
  · rw [List.drop_set_of_lt hij]

set_option maxHeartbeats 2000000 in
set_option maxRecDepth 100000 in
theorem ldel_any (g cap : Nat) (L : List LV) (f : Nat) (lb : Array Value) (p : LV → Bool) (k0 : Nat) (w : World) (hown : Own w 85 5 (.slice (some ⟨g, 0, none⟩) L.length cap) L.length (L.flatMap encV)) (hgood : ∀ x ∈ L, goodV x) (hl : L.length ≤ 1000)
    (hpl : plK p L = k0) (hk0 : k0 < L.length) (hno : (L.take (k0 + 1)).filter (fun x => !p x) = L.take k0) (hent : ∀ (args : Array Value) (w : World), (callFunc f args).run Try.prog w = .ok (.enter f args) w) (hf : FnS g w f lb p) :
    Calls Try.prog 40 #[.slice (some ⟨g, 0, none⟩) L.length cap, .func (.func f) #[] lb] w fun e w' =>
      e = .returned (.slice (some ⟨g, 0, none⟩) (L.filter fun x => !p x).length cap) ∧ Own w' 85 5 (.slice (some ⟨g, 0, none⟩) (L.filter fun x => !p x).length cap) (L.filter fun x => !p x).length ((L.filter fun x => !p x).flatMap encV) ∧ Keep (fun j => j = g) w w' := by
  have HI := Lib.hid (lidx_any (.slice (some ⟨g, 0, none⟩) L.length cap) L f lb p w (rs_of_own encV_len hown hgood) hent hf.fnP)
  rw [hpl] at HI
  obtain ⟨cs0, hb0, hr0, hc0, hnc, hcm⟩ := blk_of_own hown rfl
  have HF := Lib.hid hf
  have HCL := Lib.hid hc0
  have HR0 := Lib.hid hr0
  have HB0 := Lib.hid hb0
  have HCM := Lib.hid hcm
  have hk0n : ((k0 : Int) == -1) = false := beq_eq_false_iff_ne.2 (by omega)
  have HNO := Lib.hid hno
  have HLEN := Lib.hid (show L.length ≤ cap from hnc)
  obtain ⟨N, hN⟩ : ∃ z, L.length = z := ⟨_, rfl⟩
  have HN := Lib.hid hN
  rw [hN] at HI hl hk0 hnc HLEN ⊢
  clear hown hgood hpl hf hno hb0 hr0 hc0 hcm hN
  go_enter Try.func40, Try.ntmps40
  go_wp2_with fail
  refine HI.out.mono ?_
  rintro e w1 ⟨rfl, hb1⟩
  have HK1 := Lib.hid (Keep.of_below hb1 (fun j => j = g))
  have HB1 := Lib.hid (HB0.out.below hb1)
  clear HI hb1 HB0
  go_wp2
  go_loopw [5, 6] (fun s5 s6 wr => ∃ (i j : Nat) (E : List LV) (cs : List Value), s5 = .int .i64 i ∧ s6 = .int .i64 j ∧ j ≤ N ∧ i < j ∧ Hid (E.length = N) ∧ Hid (E.take i = (L.take j).filter fun x => !p x) ∧ Hid (E.drop j = L.drop j) ∧ Hid (Blk wr g cs 85) ∧ Hid (RowE cs E) ∧ Hid (cs.length = cap * 5) ∧ Hid (Keep (fun j => j = g) w wr)) (fun _ s6 _ => N - (intOf s6).toNat)
  case atStart => exact ⟨k0, k0 + 1, L, cs0, rfl, by go_num, by omega, by omega, HN.out, HNO.out.symm, rfl, HB1.out, HR0.out, HCL.out, HK1.out⟩
  case round =>
    obtain ⟨i, j, E, cs, rfl, rfl, hj, hij, HE, HT, HD, HB, HR, HC, HK⟩ := hrel
    clear HB1 HR0 HCL HK1
    by_cases hlt : j < N
    · have hjE : E[j]? = L[j]? := by
        have := congrArg (fun l => l[0]?) HD.out
        simpa using this
      obtain ⟨x, hx⟩ : ∃ x, L[j]? = some x := ⟨L[j]'(by rw [HN.out]; exact hlt), List.getElem?_eq_getElem _⟩
      rw [hx] at hjE
      have HX := Lib.hid hx
      have HXE := Lib.hid hjE
      have HFT := Lib.hid (filter_take (p := fun x => !p x) hx)
      obtain ⟨⟨xc, xi, xt, xn⟩, xh⟩ := x
      have c0 : wr.cell? ⟨g, j * 5, none⟩ = some (.int .i64 xc) := HB.out.cell (HR.out j _ hjE 0 _ rfl)
      have c1 : wr.cell? ⟨g, j * 5 + 1, none⟩ = some (.int .i64 xi) := HB.out.cell (HR.out j _ hjE 1 _ rfl)
      have c2 : wr.cell? ⟨g, j * 5 + 2, none⟩ = some (.int .i64 xt) := HB.out.cell (HR.out j _ hjE 2 _ rfl)
      have c3 : wr.cell? ⟨g, j * 5 + 3, none⟩ = some (.int .i64 xn) := HB.out.cell (HR.out j _ hjE 3 _ rfl)
      have c4 : wr.cell? ⟨g, j * 5 + 4, none⟩ = some (.int .i64 xh) := HB.out.cell (HR.out j _ hjE 4 _ rfl)
      have hal := below_alloc wr (.cells #[.int .i64 xc, .int .i64 xi, .int .i64 xt, .int .i64 xn, .int .i64 xh] 85 (0, 0))
      have HAL := Lib.hid hal
      have HCALL := Lib.hid (HF.out ((xc, xi, xt, xn), xh) _ (HK.out.trans (Keep.of_below hal _)))
      have HBX := Lib.hid (Blk.new wr [.int .i64 xc, .int .i64 xi, .int .i64 xt, .int .i64 xn, .int .i64 xh] 85)
      clear hx hjE hal
      go_wp2_with fail
      refine HCALL.out.mono ?_
      rintro e w2 ⟨rfl, hb2⟩
      have hbb := below_two HAL.out hb2
      have HB2 := Lib.hid (HB.out.below hbb)
      have HK2 := Lib.hid (HK.out.trans (Keep.of_below hbb _))
      have hbx := HBX.out.below hb2
      have v0 := hbx.cell (i := 0) (x := .int .i64 xc) rfl
      have v1 := hbx.cell (i := 1) (x := .int .i64 xi) rfl
      have v2 := hbx.cell (i := 2) (x := .int .i64 xt) rfl
      have v3 := hbx.cell (i := 3) (x := .int .i64 xn) rfl
      have v4 := hbx.cell (i := 4) (x := .int .i64 xh) rfl
      clear HCALL hb2 hbb hbx HAL HBX c0 c1 c2 c3 c4 HB HK
      cases hp : p ((xc, xi, xt, xn), xh) with
      | false =>
        rw [hp] at HFT
        have hiN : (i : Int) < (N : Int) := by omega
        have hcl : i * 5 + 5 ≤ cs.length := by rw [HC.out]; have := HLEN.out; omega
        obtain ⟨o0, s0⟩ : ∃ o, w2.cell? ⟨g, i * 5, none⟩ = some o := ⟨_, HB2.out.cell (List.getElem?_eq_getElem (show i * 5 < cs.length by omega))⟩
        have g0 := HB2.out.free (i * 5)
        obtain ⟨o1, s1⟩ : ∃ o, w2.cell? ⟨g, i * 5 + 1, none⟩ = some o := ⟨_, HB2.out.cell (List.getElem?_eq_getElem (show i * 5 + 1 < cs.length by omega))⟩
        have g1 := HB2.out.free (i * 5 + 1)
        obtain ⟨o2, s2⟩ : ∃ o, w2.cell? ⟨g, i * 5 + 2, none⟩ = some o := ⟨_, HB2.out.cell (List.getElem?_eq_getElem (show i * 5 + 2 < cs.length by omega))⟩
        have g2 := HB2.out.free (i * 5 + 2)
        obtain ⟨o3, s3⟩ : ∃ o, w2.cell? ⟨g, i * 5 + 3, none⟩ = some o := ⟨_, HB2.out.cell (List.getElem?_eq_getElem (show i * 5 + 3 < cs.length by omega))⟩
        have g3 := HB2.out.free (i * 5 + 3)
        obtain ⟨o4, s4⟩ : ∃ o, w2.cell? ⟨g, i * 5 + 4, none⟩ = some o := ⟨_, HB2.out.cell (List.getElem?_eq_getElem (show i * 5 + 4 < cs.length by omega))⟩
        have g4 := HB2.out.free (i * 5 + 4)
        have HS := Lib.hid (set_take_drop (E := E) (x := ((xc, xi, xt, xn), xh)) (show i < E.length by rw [HE.out]; omega) (show i < j + 1 by omega))
        have HT2 := Lib.hid (show (E.set i ((xc, xi, xt, xn), xh)).take (i + 1) = (L.take (j + 1)).filter fun x => !p x by rw [HS.out.1, HFT.out, HT.out]; rfl)
        have HD2 := Lib.hid (show (E.set i ((xc, xi, xt, xn), xh)).drop (j + 1) = L.drop (j + 1) by
          rw [HS.out.2]
          have := congrArg (List.drop 1) HD.out
          rw [List.drop_drop, List.drop_drop] at this
          exact this)
        have HR2 := Lib.hid (HR.out.set i ((xc, xi, xt, xn), xh) (by rw [HE.out]; omega) (by rw [HE.out, HC.out]; have := HLEN.out; omega))
        have HE2 := Lib.hid (show (E.set i ((xc, xi, xt, xn), xh)).length = N by rw [List.length_set, HE.out])
        have HC2 := Lib.hid (show (setL cs (i * 5) (encV ((xc, xi, xt, xn), xh))).length = cap * 5 by rw [setL_len, HC.out])
        have HB3 : Hid (Blk (((((w2.setCell ⟨g, i * 5, none⟩ (.int .i64 xc)).setCell ⟨g, i * 5 + 1, none⟩ (.int .i64 xi)).setCell ⟨g, i * 5 + 2, none⟩ (.int .i64 xt)).setCell ⟨g, i * 5 + 3, none⟩ (.int .i64 xn)).setCell ⟨g, i * 5 + 4, none⟩ (.int .i64 xh)) g (setL cs (i * 5) (encV ((xc, xi, xt, xn), xh))) 85) := Lib.hid (HB2.out.setCells (encV ((xc, xi, xt, xn), xh)) cs (i * 5))
        have HK3 : Hid (Keep (fun j => j = g) w (((((w2.setCell ⟨g, i * 5, none⟩ (.int .i64 xc)).setCell ⟨g, i * 5 + 1, none⟩ (.int .i64 xi)).setCell ⟨g, i * 5 + 2, none⟩ (.int .i64 xt)).setCell ⟨g, i * 5 + 3, none⟩ (.int .i64 xn)).setCell ⟨g, i * 5 + 4, none⟩ (.int .i64 xh))) := Lib.hid (keep_setCells' (S := fun j => j = g) rfl (encV ((xc, xi, xt, xn), xh)) (i * 5) _ HK2.out)
        clear hp HFT HS HT HD HR HE HC hcl
        go_wp2
        go_roundw
        case rel => exact ⟨i + 1, j + 1, _, _, by go_num, by go_num, by omega, by omega, HE2.out, HT2.out, HD2.out, HB3.out, HR2.out, HC2.out, HK3.out⟩
        case measure => simp [intOf]; omega
      | true =>
        rw [hp] at HFT
        have HT2 := Lib.hid (show E.take i = (L.take (j + 1)).filter fun x => !p x by rw [HFT.out, HT.out]; simp)
        have HD2 := Lib.hid (show E.drop (j + 1) = L.drop (j + 1) by
          have := congrArg (List.drop 1) HD.out
          rw [List.drop_drop, List.drop_drop] at this
          exact this)
        clear hp HFT HT HD
        go_wp2
        go_roundw
        case rel => exact ⟨i, j + 1, _, _, rfl, by go_num, by omega, by omega, HE.out, HT2.out, HD2.out, HB2.out, HR.out, HC.out, HK2.out⟩
        case measure => simp [intOf]; omega
    · obtain rfl : j = N := by omega
      have hzs := zeros5 (j - i)
      have hcap := HLEN.out
      have HFE := Lib.hid (show E.take i = L.filter fun x => !p x by rw [HT.out, List.take_of_length_le (l := L) (by rw [HN.out]; exact Nat.le_refl _)])
      have HFL := Lib.hid (show (L.filter fun x => !p x).length = i by rw [← HFE.out, List.length_take, HE.out]; omega)
      have hcl := run_clear_elems (P := Try.prog) wr 80 85 0 _ Try.underlying80 zero_live g (i * 5) (j - i) (cap - i) (by omega) hzs.2
        (fun c hc => by
          rw [hzs.1] at hc
          have : cs[i * 5 + c]? = some (cs[i * 5 + c]'(by rw [HC.out]; omega)) := List.getElem?_eq_getElem _
          rw [HB.out.cell this]; rfl)
        (fun c _ => HB.out.free _)
      have hs1 := fun w => run_slice_from (P := Try.prog) w 80 85 5 Try.underlying80 livesize g j cap .i64 i (by omega) (by omega)
      have hs2 := fun w => run_slice_to (P := Try.prog) w 80 85 5 Try.underlying80 livesize g j cap .i64 i (by omega) (by omega)
      obtain ⟨zs, hz⟩ : ∃ z, (Builtin.zeroCells (Value.agg #[.int .i64 0, .int .i64 0, .int .i64 0, .int .i64 0, .int .i64 0]).cells (j - i)).toList = z := ⟨_, rfl⟩
      rw [hz] at hcl
      have HB3 := Lib.hid (HB.out.setCells zs cs (i * 5))
      have HK3 := Lib.hid (keep_setCells' (S := fun j => j = g) rfl zs (i * 5) _ HK.out)
      have HR3 := Lib.hid (show RowE (setL cs (i * 5) zs) (E.take i) from fun k x hx c u hu => by
        have hki := (List.getElem?_eq_some_iff.1 hx).1
        rw [List.length_take] at hki
        have hc : c < 5 := by have := (List.getElem?_eq_some_iff.1 hu).1; rwa [encV_len] at this
        rw [List.getElem?_take, if_pos (by omega)] at hx
        rw [setL_out _ _ _ _ (.inl (by omega))]
        exact HR.out k x hx c u hu)
      have HO := Lib.hid (own_of_blk HB3.out HR3.out i (by rw [List.length_take, HE.out]; omega) (by rw [List.length_take]; omega) (by rw [setL_len, HC.out]) HCM.out)
      rw [List.take_take, Nat.min_self, HFE.out] at HO
      have HFIN := Lib.hid (show (Ending.returned (Value.slice (some ⟨g, 0, none⟩) i cap) = .returned (.slice (some ⟨g, 0, none⟩) (L.filter fun x => !p x).length cap)) ∧ Own (wr.setCells g (i * 5) zs) 85 5 (.slice (some ⟨g, 0, none⟩) (L.filter fun x => !p x).length cap) (L.filter fun x => !p x).length ((L.filter fun x => !p x).flatMap encV) ∧ Keep (fun j => j = g) w (wr.setCells g (i * 5) zs) by
        rw [HFL.out]
        exact ⟨rfl, HO.out, HK3.out⟩)
      have hi0 : (i : Int) ≤ (j : Int) := by omega
      clear hz hzs HO HR3 HB3 HK3 HFL HFE HR HB HK HT HD HE HC
      go_wp2
      go_ret
      exact HFIN.out

theorem plK_no {p : LV → Bool} {L : List LV} {k : Nat} (h : plK p L = k) (hk : k < L.length) : (L.take (k + 1)).filter (fun x => !p x) = L.take k := by
  unfold plK at h
  cases hf : L.findIdx? p with
  | none => rw [hf] at h; dsimp only at h; omega
  | some m =>
    rw [hf] at h
    have e : m = k := by dsimp only at h; omega
    subst e
    rw [List.findIdx?_eq_some_iff_getElem] at hf
    obtain ⟨hm, hp, hno⟩ := hf
    rw [filter_take (List.getElem?_eq_getElem hm), hp]
    have : (L.take m).filter (fun x => !p x) = L.take m := by
      rw [List.filter_eq_self]
      intro x hx
      obtain ⟨i, hi⟩ := List.getElem?_of_mem hx
      have hil := (List.getElem?_eq_some_iff.1 hi).1
      rw [List.length_take] at hil
      rw [List.getElem?_take, if_pos (by omega), List.getElem?_eq_getElem (by omega)] at hi
      cases hi
      have := hno i (by omega)
      simpa using this
    rw [this]
    simp

theorem outL_good {h : Int} {L : List LV} (hg : ∀ x ∈ L, goodV x) : ∀ x ∈ outL h L, goodV x := fun x hx => hg x (List.mem_filter.1 hx).1

theorem Keep.thenB {S : Nat → Prop} {w a b : World} (h : Keep S w a) (k : Below w.heap.size a b) : Keep S w b :=
  ⟨k.os.trans h.os, k.tape.trans h.tape, k.output.trans h.output, Nat.le_trans h.size k.size, fun i hi hs => (k.block i hi).trans (h.block i hi hs)⟩
/-- behind the drop -/
theorem tab_dropped {w w3 w4 : World} {b g cap m : Nat} {lim : Int} {last : Nat} {vl : Value} {L L' : List LV} (h : TabAt w b lim last vl L) (hb3 : Below w.heap.size w w3) (hk4 : Keep (fun j => j = g) w3 w4) (hg : w.heap.size + 2 ≤ g)
    (ho : Own w4 85 5 (.slice (some ⟨g, 0, none⟩) m cap) m (L'.flatMap encV)) (hm : L'.length = m) (hgood : ∀ x ∈ L', goodV x) (a0 a1 a2 a3 : Value) :
    JDid b vl lim last L' w (((((w4.setCell ⟨b, 2, none⟩ (.slice (some ⟨g, 0, none⟩) m cap)).setCell ⟨w.heap.size + 1, 0, none⟩ a0).setCell ⟨w.heap.size + 1, 1, none⟩ a1).setCell ⟨w.heap.size + 1, 2, none⟩ a2).setCell ⟨w.heap.size + 1, 3, none⟩ a3) := by
  have hb0 := h.box.lt
  have hb4 : Below w.heap.size w w4 := hb3.trans (hk4.below (B := w.heap.size) hb3.size (fun j hj e => by have h2 : j = g := e; omega))
  have kb : Keep (fun j => j = b) w4 (w4.setCell ⟨b, 2, none⟩ (.slice (some ⟨g, 0, none⟩) m cap)) := keep_setCell (S := fun j => j = b) (Keep.refl _ _) rfl _
  have kx : Keep (fun j => j = w.heap.size + 1) (w4.setCell ⟨b, 2, none⟩ (.slice (some ⟨g, 0, none⟩) m cap)) (((((w4.setCell ⟨b, 2, none⟩ (.slice (some ⟨g, 0, none⟩) m cap)).setCell ⟨w.heap.size + 1, 0, none⟩ a0).setCell ⟨w.heap.size + 1, 1, none⟩ a1).setCell ⟨w.heap.size + 1, 2, none⟩ a2).setCell ⟨w.heap.size + 1, 3, none⟩ a3) :=
    keep_setCell (S := fun j => j = w.heap.size + 1) (keep_setCell (S := fun j => j = w.heap.size + 1) (keep_setCell (S := fun j => j = w.heap.size + 1) (keep_setCell (S := fun j => j = w.heap.size + 1) (Keep.refl _ _) rfl _) rfl _) rfl _) rfl _
  have hk1 : Keep (JF b vl) w (w4.setCell ⟨b, 2, none⟩ (.slice (some ⟨g, 0, none⟩) m cap)) := keep_setCell (Keep.of_below hb4 _) (.inl rfl) _
  have hbx := kx.below (B := w.heap.size) hk1.size (fun j hj e => by have h2 : j = w.heap.size + 1 := e; omega)
  refine ⟨.slice (some ⟨g, 0, none⟩) m cap, ⟨?_, ?_, ?_, hgood⟩, hk1.thenB hbx, ?_⟩
  · exact ((h.box.below hb4).set 2 _).keep kx (fun e => by omega)
  · rw [hm]
    exact (ho.keep kb (fun j hj e => by simp [Value.ownBlock] at hj; omega)).keep kx (fun j hj e => by simp [Value.ownBlock] at hj; omega)
  · intro e
    simp [Value.ownBlock] at e
    omega
  · intro j hj
    simp [Value.ownBlock] at hj
    exact .inr (by omega)

set_option maxHeartbeats 1000000 in
set_option maxRecDepth 100000 in
theorem drop_no (b : Nat) (lim : Int) (last : Nat) (vl : Value) (L : List LV) (n : Int) (w : World) (h : TabAt w b lim last vl L) (hn : getE n L = 6) :
    Calls Try.prog 12 #[.pointer (some ⟨b, 0, none⟩), .int .i64 n] w fun e w' => e = .returned (.tuple #[.agg (encJ (getJ n L)).toArray, .int .i64 6]) ∧ Below w.heap.size w w' := by
  have hz := zero_entry
  have hal1 := below_alloc w (.cells #[.int .i64 n] 3 (0, 0))
  have hal2 := below_alloc (w.alloc (.cells #[.int .i64 n] 3 (0, 0))) (.cells #[.int .i64 0, .int .i64 0, .int .i64 0, .int .i64 0] 31 (0, 0))
  have hal := below_two hal1 hal2
  have HG := Lib.hid (get_any b lim last vl L n _ (h.below hal))
  have hbx := Blk.new (w.alloc (.cells #[.int .i64 n] 3 (0, 0))) [.int .i64 0, .int .i64 0, .int .i64 0, .int .i64 0] 31
  rw [World.size_alloc] at hbx
  have HBX := Lib.hid hbx
  have d1 := cellB ((Blk.new w [.int .i64 n] 3).cell (i := 0) rfl) hal2
  rw [hn] at HG
  have HAL := Lib.hid hal
  obtain ⟨J, hJ⟩ : ∃ z, getJ n L = z := ⟨_, rfl⟩
  rw [hJ] at HG ⊢
  obtain ⟨xc, xi, xt, xn⟩ := J
  have HS := Lib.hid (show ∀ w1 : World, Below w.heap.size w w1 → ∀ a1 a2 a3 a4 : Value, Below w.heap.size w ((((w1.setCell ⟨w.heap.size + 1, 0, none⟩ a1).setCell ⟨w.heap.size + 1, 1, none⟩ a2).setCell ⟨w.heap.size + 1, 2, none⟩ a3).setCell ⟨w.heap.size + 1, 3, none⟩ a4) from
    fun w1 hb a1 a2 a3 a4 => (((hb.setCell (p := ⟨w.heap.size + 1, 0, none⟩) (by simp) a1).setCell (p := ⟨w.heap.size + 1, 1, none⟩) (by simp) a2).setCell (p := ⟨w.heap.size + 1, 2, none⟩) (by simp) a3).setCell (p := ⟨w.heap.size + 1, 3, none⟩) (by simp) a4)
  clear h hn hal1 hal2 hal hbx hJ
  go_enter Try.func12, Try.ntmps12
  go_wp2_with fail
  refine HG.out.mono ?_
  rintro e w1 ⟨rfl, hb⟩
  have hbe := below_alloc w1 (.cells #[.int .i64 xc, .int .i64 xi, .int .i64 xt, .int .i64 xn] 31 (0, 0))
  have HB := Lib.hid (HS.out _ (below_two (below_two HAL.out hb) hbe) (.int .i64 xc) (.int .i64 xi) (.int .i64 xt) (.int .i64 xn))
  have hx1 := (HBX.out.below hb).below hbe
  have c0 := hx1.cell (i := 0) rfl
  have c1 := hx1.cell (i := 1) rfl
  have c2 := hx1.cell (i := 2) rfl
  have c3 := hx1.cell (i := 3) rfl
  have f0 := hx1.free 0
  have f1 := hx1.free 1
  have f2 := hx1.free 2
  have f3 := hx1.free 3
  clear HG hb hx1 hbe HS
  have hred : (encJ (xc, xi, xt, xn)).toArray = #[.int .i64 xc, .int .i64 xi, .int .i64 xt, .int .i64 xn] := rfl
  rw [hred]
  clear hred
  go_wp2
  refine bodyPost_ret (v := .tuple #[.agg #[.int .i64 xc, .int .i64 xi, .int .i64 xt, .int .i64 xn], .int .i64 6]) (by simp [results, Try.results12, go_sem, c0, c1, c2, c3, f0, f1, f2, f3]) rfl ?_
  exact ⟨rfl, HB.out⟩

set_option maxHeartbeats 2000000 in
set_option maxRecDepth 100000 in
theorem drop_ok (b : Nat) (lim : Int) (last : Nat) (vl : Value) (L : List LV) (n : Int) (w : World) (h : TabAt w b lim last vl L) (hn : getE n L = 0) (hl : L.length ≤ 1000) :
    Calls Try.prog 12 #[.pointer (some ⟨b, 0, none⟩), .int .i64 n] w fun e w' => e = .returned (.tuple #[.agg (encJ (getJ n L)).toArray, .int .i64 0]) ∧ JDid b vl lim last (outL n L) w w' := by
  have hz := zero_entry
  have hm := hmf
  have hal1 := below_alloc w (.cells #[.int .i64 n] 3 (0, 0))
  have hal2 := below_alloc (w.alloc (.cells #[.int .i64 n] 3 (0, 0))) (.cells #[.int .i64 0, .int .i64 0, .int .i64 0, .int .i64 0] 31 (0, 0))
  have hal := below_two hal1 hal2
  have HG := Lib.hid (get_any b lim last vl L n _ (h.below hal))
  have hbx := Blk.new (w.alloc (.cells #[.int .i64 n] 3 (0, 0))) [.int .i64 0, .int .i64 0, .int .i64 0, .int .i64 0] 31
  rw [World.size_alloc] at hbx
  have HBX := Lib.hid hbx
  have d1 := cellB ((Blk.new w [.int .i64 n] 3).cell (i := 0) rfl) hal2
  have HD1 := Lib.hid d1
  rw [hn] at HG
  have HAL := Lib.hid hal
  have H := Lib.hid h
  have hbne : w.heap.size ≠ b ∧ w.heap.size + 1 ≠ b := by have := h.box.lt; omega
  have HBN := Lib.hid hbne
  obtain ⟨k, hpk, hk⟩ : ∃ k : Nat, plK (isH n) L = k ∧ k < L.length := by
    rcases plK_cases (isH n) L with ⟨_, e2⟩ | ⟨k, x, e1, hk, _, _⟩
    · unfold getE at hn; rw [e2] at hn; cases hn
    · exact ⟨k, e1, hk⟩
  have HPK := Lib.hid hpk
  have HNO := Lib.hid (plK_no hpk hk)
  obtain ⟨a, cap0, rfl, -, -⟩ := h.rs.shape
  obtain ⟨J, hJ⟩ : ∃ z, getJ n L = z := ⟨_, rfl⟩
  rw [hJ] at HG ⊢
  obtain ⟨xc, xi, xt, xn⟩ := J
  clear h hn hal1 hal2 hal hbx hJ hbne hpk
  go_enter Try.func12, Try.ntmps12
  go_wp2_with fail
  refine HG.out.mono ?_
  rintro e w1 ⟨rfl, hb⟩
  have hred : (encJ (xc, xi, xt, xn)).toArray = #[.int .i64 xc, .int .i64 xi, .int .i64 xt, .int .i64 xn] := rfl
  rw [hred]
  clear hred
  have hbe := below_alloc w1 (.cells #[.int .i64 xc, .int .i64 xi, .int .i64 xt, .int .i64 xn] 31 (0, 0))
  have HEB := Lib.hid (Blk.new w1 [.int .i64 xc, .int .i64 xi, .int .i64 xt, .int .i64 xn] 31)
  have hb2 := below_two (below_two HAL.out hb) hbe
  have h2 := H.out.below hb2
  have HB2 := Lib.hid hb2
  have H2 := Lib.hid h2
  have HX2 := Lib.hid ((HBX.out.below hb).below hbe)
  have HD2 := Lib.hid (cellB (cellB HD1.out hb) hbe)
  have HSZ := Lib.hid (show w.heap.size + 2 ≤ w1.heap.size by have := hb.size; simpa using this)
  have c2 := h2.box.cell (i := 2) (x := .slice a L.length cap0) rfl
  have d2 := cellB (cellB d1 hb) hbe
  have HC := Lib.hid (lclone_any (.slice a L.length cap0) L _ hl (by omega) h2.rs)
  clear HG hb hbe hb2 h2 d1 HBX HD1
  go_wp2_with fail
  refine HC.out.mono ?_
  rintro e w3 ⟨g, cap, rfl, hown, hg, hb3⟩
  have HB3 := Lib.hid (below_two HB2.out hb3)
  have HEB3 := Lib.hid (HEB.out.below hb3)
  have HX3 := Lib.hid (HX2.out.below hb3)
  have HT3 := Lib.hid (H2.out.below hb3)
  have HGG := Lib.hid (show w1.heap.size + 1 ≤ g by simpa using hg)
  have d3 := cellB HD2.out hb3
  have hne : w.heap.size ≠ g := by have := HSZ.out; have := HGG.out; omega
  have HDEL := Lib.hid (ldel_any g cap L 42 _ (isH n) k _ hown H.out.good hl HPK.out hk HNO.out (fun args w => enter_of Try.func42 (by kernel_rfl) rfl args w) (cloDropS g w.heap.size n _ d3 hne))
  clear HC hown hg hb3 d3 HB2 HX2 H2 HD2 HPK HNO c2 d2
  go_wp2_with fail
  refine HDEL.out.mono ?_
  rintro e w4 ⟨rfl, hown4, hk4⟩
  have hLout : (L.filter fun x => !isH n x) = outL n L := rfl
  rw [hLout] at hown4 ⊢
  obtain ⟨m, hmm⟩ : ∃ z, (outL n L).length = z := ⟨_, rfl⟩
  have HMM := Lib.hid hmm
  rw [hmm] at hown4 ⊢
  have hgb : g ≠ b ∧ g ≠ w1.heap.size ∧ g ≠ w.heap.size + 1 := by have := HSZ.out; have := HGG.out; have := H.out.box.lt; omega
  have hbw : w1.heap.size ≠ b := by have := HSZ.out; have := H.out.box.lt; omega
  have hbw2 : b ≠ w1.heap.size := fun e => hbw e.symm
  have hbn1 : w.heap.size + 1 ≠ b := HBN.out.2
  have hbn2 : b ≠ w.heap.size + 1 := fun e => hbn1 e.symm
  have hwx : w1.heap.size ≠ w.heap.size + 1 := by have := HSZ.out; omega
  have hwx2 : w.heap.size + 1 ≠ w1.heap.size := by have := HSZ.out; omega
  have ht4 := HT3.out.box.keep hk4 (fun e => hgb.1 e.symm)
  have hb4 := HEB3.out.keep hk4 (fun e => hgb.2.1 e.symm)
  have hx4 := HX3.out.keep hk4 (fun e => hgb.2.2 e.symm)
  have e2 := ht4.cell (i := 2) (x := .slice a L.length cap0) rfl
  have ef := ht4.free 2
  have v0 := hb4.cell (i := 0) rfl
  have v1 := hb4.cell (i := 1) rfl
  have v2 := hb4.cell (i := 2) rfl
  have v3 := hb4.cell (i := 3) rfl
  have c0 := hx4.cell (i := 0) rfl
  have c1 := hx4.cell (i := 1) rfl
  have c2 := hx4.cell (i := 2) rfl
  have c3 := hx4.cell (i := 3) rfl
  have f0 := hx4.free 0
  have f1 := hx4.free 1
  have f2 := hx4.free 2
  have f3 := hx4.free 3
  have hs0 : w.heap.size ≤ w3.heap.size := HB3.out.size
  have HFIN := Lib.hid (tab_dropped (m := m) (cap := cap) (g := g) H.out HB3.out hk4 (by have := HSZ.out; have := HGG.out; omega) hown4 HMM.out (outL_good H.out.good) (.int .i64 xc) (.int .i64 xi) (.int .i64 xt) (.int .i64 xn))
  clear HDEL hown4 hk4 hLout hmm hgb ht4 hb4 hx4 HMM HT3 HX3 HEB3 HB3 HEB HGG HSZ H hs0
  go_wp2
  refine bodyPost_ret (v := .tuple #[.agg #[.int .i64 xc, .int .i64 xi, .int .i64 xt, .int .i64 xn], .int .i64 0]) (by simp [results, Try.results12, go_sem, c0, c1, c2, c3, f0, f1, f2, f3, hbn1, hbn2]) rfl ?_
  exact ⟨rfl, HFIN.out⟩

theorem drop_nil (n : Int) (w : World) :
    Calls Try.prog 12 #[.pointer none, .int .i64 n] w fun e w' => e = .returned (.tuple #[.agg #[.int .i64 0, .int .i64 0, .int .i64 0, .int .i64 0], .int .i64 7]) ∧ Below w.heap.size w w' := by
  have hz := zero_entry
  have hal1 := below_alloc w (.cells #[.int .i64 n] 3 (0, 0))
  have hal2 := below_alloc (w.alloc (.cells #[.int .i64 n] 3 (0, 0))) (.cells #[.int .i64 0, .int .i64 0, .int .i64 0, .int .i64 0] 31 (0, 0))
  have hal := below_two hal1 hal2
  have hbx := Blk.new (w.alloc (.cells #[.int .i64 n] 3 (0, 0))) [.int .i64 0, .int .i64 0, .int .i64 0, .int .i64 0] 31
  rw [World.size_alloc] at hbx
  have HBX := Lib.hid hbx
  have d1 := cellB ((Blk.new w [.int .i64 n] 3).cell (i := 0) rfl) hal2
  have HAL := Lib.hid hal
  have HS := Lib.hid (show ∀ w1 : World, Below w.heap.size w w1 → ∀ a1 a2 a3 a4 : Value, Below w.heap.size w ((((w1.setCell ⟨w.heap.size + 1, 0, none⟩ a1).setCell ⟨w.heap.size + 1, 1, none⟩ a2).setCell ⟨w.heap.size + 1, 2, none⟩ a3).setCell ⟨w.heap.size + 1, 3, none⟩ a4) from
    fun w1 hb a1 a2 a3 a4 => (((hb.setCell (p := ⟨w.heap.size + 1, 0, none⟩) (by simp) a1).setCell (p := ⟨w.heap.size + 1, 1, none⟩) (by simp) a2).setCell (p := ⟨w.heap.size + 1, 2, none⟩) (by simp) a3).setCell (p := ⟨w.heap.size + 1, 3, none⟩) (by simp) a4)
  clear hal1 hal2 hal hbx
  go_enter Try.func12, Try.ntmps12
  go_wp2_with fail
  refine (get_nil n _).mono ?_
  rintro e w1 ⟨rfl, hb⟩
  have hbe := below_alloc w1 (.cells #[.int .i64 0, .int .i64 0, .int .i64 0, .int .i64 0] 31 (0, 0))
  have HB := Lib.hid (HS.out _ (below_two (below_two HAL.out hb) hbe) (.int .i64 0) (.int .i64 0) (.int .i64 0) (.int .i64 0))
  have hx1 := (HBX.out.below hb).below hbe
  have c0 := hx1.cell (i := 0) rfl
  have c1 := hx1.cell (i := 1) rfl
  have c2 := hx1.cell (i := 2) rfl
  have c3 := hx1.cell (i := 3) rfl
  have f0 := hx1.free 0
  have f1 := hx1.free 1
  have f2 := hx1.free 2
  have f3 := hx1.free 3
  clear hb hx1 hbe HS
  go_wp2
  refine bodyPost_ret (v := .tuple #[.agg #[.int .i64 0, .int .i64 0, .int .i64 0, .int .i64 0], .int .i64 7]) (by simp [results, Try.results12, go_sem, c0, c1, c2, c3, f0, f1, f2, f3]) rfl ?_
  exact ⟨rfl, HB.out⟩
end Go.Proofs.Ytmgjmpmcadjemaa

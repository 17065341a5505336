/- Slices whose elements are structs of one-cell fields: what an argument reads as. -/
import Derived.Test.YtmgjmpmcadjemaaBase
import Derived.Deep.Slices
namespace Go.Proofs.Ytmgjmpmcadjemaa
open Go.RowKit Go.ChangeShapes Go.WideShapes Go.ChangeAt

/-- A slice reads as a list of things, each laid in sz cells. -/
def RS {α : Type} (w : World) (v : Value) (l : List α) (enc : α → List Value) (sz : Nat) (good : α → Prop) : Prop :=
  ∃ a cap, v = .slice a l.length cap ∧ l.length ≤ cap ∧ cap ≤ maxLen ∧
    (0 < l.length → ∃ b off, a = some ⟨b, off, none⟩ ∧ b < w.heap.size ∧
      ∀ i x, l[i]? = some x → good x ∧ ∀ j u, (enc x)[j]? = some u → w.cell? ⟨b, off + (i * sz + j), none⟩ = some u)

theorem RS.nil {α : Type} (w : World) (enc : α → List Value) (sz : Nat) (good : α → Prop) : RS w (.slice none 0 0) ([] : List α) enc sz good :=
  ⟨none, 0, rfl, Nat.le_refl _, by simp [maxLen], fun h => by simp at h⟩

theorem RS.keep {α : Type} {S : Nat → Prop} {w w' : World} {v : Value} {l : List α} {enc : α → List Value} {sz : Nat} {good : α → Prop} (h : RS w v l enc sz good) (k : Keep S w w')
    (hs : ∀ b, v.ownBlock = some b → ¬ S b) : RS w' v l enc sz good := by
  obtain ⟨a, cap, rfl, h1, h2, h3⟩ := h
  refine ⟨a, cap, rfl, h1, h2, fun hn => ?_⟩
  obtain ⟨b, off, rfl, hb, hc⟩ := h3 hn
  refine ⟨b, off, rfl, Nat.lt_of_lt_of_le hb k.size, fun i x hx => ⟨(hc i x hx).1, fun j u hu => ?_⟩⟩
  rw [← (hc i x hx).2 j u hu]
  exact World.cell?_of_block (k.block b hb (hs b rfl))

theorem RS.below {α : Type} {w w' : World} {v : Value} {l : List α} {enc : α → List Value} {sz : Nat} {good : α → Prop} (h : RS w v l enc sz good) (k : Below w.heap.size w w') : RS w' v l enc sz good :=
  h.keep (Keep.of_below k (fun _ => False)) (fun _ _ h => h)

theorem RS.shape {α : Type} {w : World} {v : Value} {l : List α} {enc : α → List Value} {sz : Nat} {good : α → Prop} (h : RS w v l enc sz good) :
    ∃ a cap, v = .slice a l.length cap ∧ l.length ≤ cap ∧ cap ≤ 9223372036854775807 := by
  obtain ⟨a, cap, rfl, h1, h2, _⟩ := h
  exact ⟨a, cap, rfl, h1, by unfold maxLen at h2; omega⟩

theorem RS.at {α : Type} {w : World} {a : Option Addr} {n cap : Nat} {l : List α} {enc : α → List Value} {sz : Nat} {good : α → Prop} (h : RS w (.slice a n cap) l enc sz good) {k : Nat} (hk : k < n) :
    ∃ b off x, a = some ⟨b, off, none⟩ ∧ b < w.heap.size ∧ l[k]? = some x ∧ good x ∧ ∀ j u, (enc x)[j]? = some u → w.cell? ⟨b, off + k * sz + j, none⟩ = some u := by
  obtain ⟨a', cap', hv, h1, h2, h3⟩ := h
  simp only [Value.slice.injEq] at hv
  obtain ⟨rfl, rfl, rfl⟩ := hv
  obtain ⟨b, off, rfl, hb, hc⟩ := h3 (by omega)
  have hx : l[k]? = some l[k] := List.getElem?_eq_getElem hk
  exact ⟨b, off, l[k], rfl, hb, hx, (hc k _ hx).1, fun j u hu => by rw [Nat.add_assoc]; exact (hc k _ hx).2 j u hu⟩

theorem list_of {α : Type} {P : Nat → α → Prop} : ∀ (n : Nat), (∀ i, i < n → ∃ x, P i x) → ∃ l : List α, l.length = n ∧ ∀ i x, l[i]? = some x → P i x
  | 0, _ => ⟨[], rfl, fun i x h => by simp at h⟩
  | n + 1, h => by
    obtain ⟨l, hl, hp⟩ := list_of n (fun i hi => h i (by omega))
    obtain ⟨x, hx⟩ := h n (by omega)
    refine ⟨l ++ [x], by simp [hl], fun i y hy => ?_⟩
    rw [List.getElem?_append] at hy
    split at hy
    · exact hp i y hy
    · have h1 := (List.getElem?_eq_some_iff.1 hy).1
      simp at h1
      have : i = n := by omega
      subst this
      rw [hl, Nat.sub_self] at hy
      simp at hy
      subst hy
      exact hx

theorem add_flat (b off n : Nat) : (⟨b, off, none⟩ : Addr).add n = ⟨b, off + n, none⟩ := by unfold Addr.add; split <;> simp_all
theorem rs_of_open {α H : Type} {en : TypeId × Value → H} {P : Program} {w : World} {t e : TypeId} {v : Value} {d : DataW H} {p : List MemPlace} {sz : Nat} {enc : α → List Value} {good : α → Prop}
    (ht : P.underlying t = some (.slice e)) (hC : P.cellsOf e = sz) (hsz : 0 < sz)
    (hel : ∀ (n : Nat) (cs : List Value) (y : DataW H × List MemPlace), DataW.trod en P w 0 (fun _ => true) true n e cs = some y → ∃ x, cs = enc x ∧ good x)
    (hv : ∃ a len cap, v = .slice a len cap) (h : DataW.Trod en P w 0 (fun _ => true) true t v d p) : ∃ l : List α, RS w v l enc sz good := by
  obtain ⟨a, len, cap, rfl⟩ := hv
  obtain ⟨fuel, hf⟩ := h
  rcases Go.Deep.open_slice ht hf with ⟨hcs, _⟩ | ⟨x, l, c, m, n, D, Pl, hcs, _, hl, hm, hmm, _, hi⟩
  · simp [Value.cells] at hcs
    obtain ⟨rfl, rfl, rfl⟩ := hcs
    exact ⟨[], RS.nil _ _ _ _⟩
  · simp [Value.cells] at hcs
    obtain ⟨rfl, rfl, rfl⟩ := hcs
    simp at hmm
    subst hmm
    obtain ⟨ls, hlen, hp⟩ := list_of (P := fun i (y : α) => good y ∧ w.cells? 0 (x.add (i * sz)) sz = some (enc y)) len (fun i hil => by
      obtain ⟨cs', h1, h2⟩ := hi i (by omega)
      obtain ⟨y, rfl, hy⟩ := hel _ _ _ h2
      rw [hC] at h1
      exact ⟨y, hy, h1⟩)
    refine ⟨ls, some x, m, by rw [hlen], by omega, hm, fun h0 => ?_⟩
    have hx0 : ls[0]? = some ls[0] := List.getElem?_eq_getElem h0
    obtain ⟨_, hc0⟩ := hp 0 _ hx0
    obtain ⟨_, hl0, hat0⟩ := World.cells?_some hc0
    have hz := hat0 0 hsz
    rw [Nat.zero_mul] at hz
    have hz2 : (x.add 0).add 0 = x := by simp [Addr.add]
    rw [hz2, List.getElem?_eq_getElem (by omega)] at hz
    have hspot := World.cell?_spot hz
    obtain ⟨b, off, spot⟩ := x
    simp at hspot
    subst hspot
    refine ⟨b, off, rfl, World.block_lt_of_cell? w _ hz, fun i y hy => ⟨(hp i y hy).1, fun j u hu => ?_⟩⟩
    obtain ⟨_, hc⟩ := hp i y hy
    obtain ⟨_, hl1, hat⟩ := World.cells?_some hc
    have hj : j < sz := by have := (List.getElem?_eq_some_iff.1 hu).1; omega
    have := hat j hj
    rw [add_flat, add_flat] at this
    rw [← Nat.add_assoc, this, hu]

/-- a struct's cells, field by field -/
theorem cells_one {cs : List Value} {o : Nat} {v : Value} (h : (cs.drop o).take 1 = [v]) : cs[o]? = some v := by
  have h0 : ((cs.drop o).take 1)[0]? = some v := by rw [h]; rfl
  rw [List.getElem?_take, if_pos (by decide), List.getElem?_drop] at h0
  simpa using h0
theorem list3 {α : Type} {l : List α} {a b c : α} (hl : l.length = 3) (h0 : l[0]? = some a) (h1 : l[1]? = some b) (h2 : l[2]? = some c) : l = [a, b, c] := by
  match l, hl with
  | [x, y, z], _ => simp at h0 h1 h2; simp [h0, h1, h2]
theorem list2 {α : Type} {l : List α} {a b : α} (hl : l.length = 2) (h0 : l[0]? = some a) (h1 : l[1]? = some b) : l = [a, b] := by
  match l, hl with
  | [x, y], _ => simp at h0 h1; simp [h0, h1]

/-- a struct's one-cell field, by its place -/
theorem fld {H : Type} {en : TypeId × Value → H} {P : Program} {w : World} {m : Nat} {cs : List Value} {xs : List (DataW H × List MemPlace)} {fs : Array Field}
    (hf : ∀ (i : Nat) (f : Field), fs[i]? = some f → DataW.trod en P w 0 (fun _ => true) true m f.type ((cs.drop f.offset).take (P.cellsOf f.type)) = xs[i]?)
    (i : Nat) (f : Field) (hi : fs[i]? = some f) (t o : Nat) (ht : f.type = t) (ho : f.offset = o) (hc : P.cellsOf t = 1) (hx : i < xs.length) :
    ∃ y, DataW.trod en P w 0 (fun _ => true) true m t ((cs.drop o).take 1) = some y := by
  subst ht
  subst ho
  have := hf i f hi
  rw [hc, List.getElem?_eq_getElem hx] at this
  exact ⟨_, this⟩

/-- an argument of two numbers in an array -/
theorem arr2_of {H : Type} {en : TypeId × Value → H} {P : Program} {w : World} {r : Reach} {b0 : Nat} {t e : TypeId} {v : Value} {d : DataW H} {p : List MemPlace}
    (ht : P.underlying t = some (.array 2 e)) (he : P.underlying e = some (.int .i64)) (hC : P.cellsOf e = 1) (hCt : P.cellsOf t = 2) (hv : Value.okWide P w r b0 t v)
    (h : DataW.Trod en P w 0 (fun _ => true) true t v d p) : ∃ a b : Int, v = .agg #[.int .i64 a, .int .i64 b] ∧ (Lit.int .i64 a).wf = true ∧ (Lit.int .i64 b).wf = true := by
  unfold Value.okWide at hv
  rw [ht] at hv
  obtain ⟨⟨cs⟩, rfl, hsz, _⟩ := hv
  obtain ⟨fuel, hf⟩ := h
  obtain ⟨xs, m, _, _, hlen, hxl, hx⟩ := DataW.trod_array ht hf
  rw [hCt] at hlen
  have g0 := hx 0 (by decide)
  have g1 := hx 1 (by decide)
  rw [hC, List.getElem?_eq_getElem (by omega)] at g0 g1
  obtain ⟨a, ha, _, wa⟩ := DataW.trod_int he g0
  obtain ⟨b, hb, _, wb⟩ := DataW.trod_int he g1
  have e0 := cells_one ha
  have e1 := cells_one hb
  have hcs := list2 hlen e0 e1
  simp [Value.cells] at hcs
  subst hcs
  exact ⟨a, b, rfl, wa, wb⟩

theorem flat_len {α : Type} {enc : α → List Value} {sz : Nat} (he : ∀ x, (enc x).length = sz) (l : List α) : (l.flatMap enc).length = l.length * sz := by
  induction l with
  | nil => simp
  | cons a l ih => rw [List.flatMap_cons, List.length_append, ih, he, List.length_cons, Nat.add_mul, Nat.one_mul, Nat.add_comm]
theorem flat_at {α : Type} {enc : α → List Value} {sz : Nat} (he : ∀ x, (enc x).length = sz) {l : List α} {k : Nat} {x : α} (h : l[k]? = some x) (j : Nat) (hj : j < sz) : (l.flatMap enc)[k * sz + j]? = (enc x)[j]? := by
  induction l generalizing k with
  | nil => simp at h
  | cons a l ih =>
    rw [List.flatMap_cons]
    cases k with
    | zero =>
      simp at h
      subst h
      rw [Nat.zero_mul, Nat.zero_add, List.getElem?_append_left (by rw [he]; exact hj)]
    | succ k =>
      simp at h
      have e : (k + 1) * sz + j = sz + (k * sz + j) := by rw [Nat.add_mul, Nat.one_mul]; omega
      rw [e, List.getElem?_append_right (by rw [he]; omega), he, show sz + (k * sz + j) - sz = k * sz + j from by omega]
      exact ih h
/-- a row of structs that is owned reads -/
theorem rs_of_own {α : Type} {w : World} {e : TypeId} {v : Value} {l : List α} {enc : α → List Value} {sz : Nat} {good : α → Prop} (he : ∀ x, (enc x).length = sz) (h : Own w e sz v l.length (l.flatMap enc))
    (hg : ∀ x ∈ l, good x) : RS w v l enc sz good := by
  obtain ⟨a, cap, hv, h1, h2, h3⟩ := h.reads
  refine ⟨a, cap, hv, h1, h2, fun h0 => ?_⟩
  obtain ⟨b, off, ha, hb, hc⟩ := h3 h0
  refine ⟨b, off, ha, hb, fun i x hx => ⟨hg x (List.mem_of_getElem? hx), fun j u hu => hc _ u ?_⟩⟩
  have hj : j < sz := by rw [← he x]; exact (List.getElem?_eq_some_iff.1 hu).1
  rw [flat_at he hx j hj, hu]

/-- 'append(out, x)', x a struct of one-cell fields, which lies in the block that was made last. -/
theorem wpList_append_elem {P : Program} (wr : World) (o1 : Obj) {ops : Array Oper} {rest : List Oper} {o : Oper} {a : Act} {Q : Exit → Act → World → Prop}
    (hg : o.guard = none) (s x : Operand) (t : TypeId) (hop : o.op = Op.call { callee := Callee.builtin Builtin.append, args := #[s, x], argTypes := #[t, t] })
    (e : TypeId) (z : Value) (size bytes : Nat) (h1 : P.underlying t = some (.slice e)) (hinfo : (P.info? e).map (fun i => (i.zero, i.size, i.bytes)) = some (some z, size, bytes)) (hzs : z.cells.size = size) (hsz : 0 < size)
    (v : Value) (n : Nat) (xs : List Value) (us : List Value) (t1 : TypeId) (ho1 : o1 = .cells us.toArray t1 (0, 0)) (hus : us.length = size) (hu : ∀ u ∈ us, u.oneCell' = true) (hs : a.eval s = v) (hx : a.eval x = .slice (some ⟨wr.heap.size, 0, none⟩) 1 1)
    (hown : Own wr e size v n xs) (hn : n < 1000000000) (hby : bytes ≤ 1000)
    (hK : ∀ v' w', Own w' e size v' (n + 1) (xs ++ us) → Keep (fun k => v.ownBlock = some k) wr w' → (∀ g, v'.ownBlock = some g → v.ownBlock = some g ∨ wr.heap.size ≤ g) → wpList P ops Q rest (a.put o.dst v') w') :
    wpList P ops Q (o :: rest) a (wr.alloc o1) := by
  subst ho1
  have hown' := hown.below (below_alloc wr (.cells us.toArray t1 (0, 0)))
  refine wpList_append_keep _ hg s x t hop e z size bytes h1 hinfo hzs hsz v n _ hs hown' ⟨wr.heap.size, 0, none⟩ 1 1 us hx (by omega) ?_ hu ?_ ?_ ?_
  · intro j u hj
    rw [add_flat, Nat.zero_add]
    exact (Blk.new wr us t1).cell hj
  · unfold maxLen; omega
  · exact Nat.le_trans (Nat.mul_le_mul (show n + 1 ≤ 1000000000 by omega) hby) (by decide)
  · intro v' w' h k hf
    refine hK v' w' h ?_ ?_
    · exact (Keep.of_below (below_alloc wr _) _).trans k
    · intro g hg
      rcases hf g hg with h | h
      · exact .inl h
      · exact .inr (by simp at h; omega)
end Go.Proofs.Ytmgjmpmcadjemaa

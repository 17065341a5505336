/- Words shared by all proofs of this seat: what a slice reads as, what is kept of memory, what a block holds. No program is named here. -/
import Derived.Test.YtmgjmpmcadjemaaRows
import Derived.WalkKit
import Derived.WalkLawsBesides
import Derived.WalkSpells
import Derived.ProofKit
import Derived.OpenShut
import Derived.ShutString
import Derived.ChangeOld
import Derived.Below
import Derived.BigQuiet
import Derived.Deep.QuietTactic
import Derived.Deep.RegionWith
import Derived.Lib.Hide
namespace Go.Proofs.Ytmgjmpmcadjemaa
open Go.RowKit

/-- What is kept: blocks outside S are as they were. -/
structure Keep (S : Nat → Prop) (w w' : World) : Prop where
  os : w'.os = w.os
  tape : w'.tape = w.tape
  output : w'.output = w.output
  size : w.heap.size ≤ w'.heap.size
  block : ∀ k, k < w.heap.size → ¬ S k → w'.heap[k]? = w.heap[k]?

theorem Keep.refl (S : Nat → Prop) (w : World) : Keep S w w := ⟨rfl, rfl, rfl, Nat.le_refl _, fun _ _ _ => rfl⟩
theorem Keep.trans {S : Nat → Prop} {a b c : World} (h : Keep S a b) (k : Keep S b c) : Keep S a c :=
  ⟨k.os.trans h.os, k.tape.trans h.tape, k.output.trans h.output, Nat.le_trans h.size k.size,
   fun i hi hs => (k.block i (Nat.lt_of_lt_of_le hi h.size) hs).trans (h.block i hi hs)⟩
theorem Keep.mono {S T : Nat → Prop} {w w' : World} (h : Keep S w w') (hst : ∀ k, k < w.heap.size → S k → T k) : Keep T w w' :=
  ⟨h.os, h.tape, h.output, h.size, fun k hk ht => h.block k hk (fun hs => ht (hst k hk hs))⟩
theorem Keep.of_below {w w' : World} (h : Below w.heap.size w w') (S : Nat → Prop) : Keep S w w' :=
  ⟨h.os, h.tape, h.output, h.size, fun k hk _ => h.block k hk⟩
theorem Keep.below {S : Nat → Prop} {B : Nat} {w w' : World} (h : Keep S w w') (hB : B ≤ w.heap.size) (hs : ∀ k, k < B → ¬ S k) : Below B w w' :=
  ⟨h.os, h.tape, h.output, h.size, fun k hk => h.block k (by omega) (hs k hk)⟩

theorem below_of {B : Nat} {w w' : World} (h : Below w.heap.size w w') (hB : B ≤ w.heap.size) : Below B w w' := h.mono hB
theorem below_grown {w w' : World} (h : w.grownBy w' none) : Below w.heap.size w w' :=
  ⟨h.os, h.tape, h.output, h.size, fun k hk => h.block k hk (by simp)⟩
theorem below_drawn {w w' : World} (h : ∃ n, w' = w.drewN n) : Below w.heap.size w w' := by
  obtain ⟨n, rfl⟩ := h
  exact below_drewN (Below.refl _ _) n
theorem below_eq {w w' : World} (h : w = w') : Below w.heap.size w w' := by subst h; exact Below.refl _ _
theorem below_alloc (w : World) (o : Obj) : Below w.heap.size w (w.alloc o) := (Below.refl _ _).alloc (Nat.le_refl _) o
/-- two steps, each of which turns nothing that was there -/
theorem below_two {a b c : World} (h : Below a.heap.size a b) (k : Below b.heap.size b c) : Below a.heap.size a c := h.trans (k.mono h.size)

/-- A slice value reads as the cells xs (n elements). -/
def Reads (w : World) (v : Value) (n : Nat) (xs : List Value) : Prop :=
  ∃ a cap, v = .slice a n cap ∧ n ≤ cap ∧ cap ≤ maxLen ∧
    (0 < n → ∃ b off, a = some ⟨b, off, none⟩ ∧ b < w.heap.size ∧ ∀ i x, xs[i]? = some x → w.cell? ⟨b, off + i, none⟩ = some x)

theorem Reads.nil (w : World) : Reads w (.slice none 0 0) 0 [] := ⟨none, 0, rfl, Nat.le_refl _, by simp [maxLen], fun h => absurd h (by omega)⟩

theorem Reads.keep {S : Nat → Prop} {w w' : World} {v : Value} {n : Nat} {xs : List Value} (h : Reads w v n xs) (k : Keep S w w')
    (hs : ∀ b, v.ownBlock = some b → ¬ S b) : Reads w' v n xs := by
  obtain ⟨a, cap, rfl, h1, h2, h3⟩ := h
  refine ⟨a, cap, rfl, h1, h2, fun hn => ?_⟩
  obtain ⟨b, off, rfl, hb, hc⟩ := h3 hn
  refine ⟨b, off, rfl, Nat.lt_of_lt_of_le hb k.size, fun i x hx => ?_⟩
  rw [← hc i x hx]
  exact World.cell?_of_block (k.block b hb (hs b rfl))

theorem Reads.below {w w' : World} {v : Value} {n : Nat} {xs : List Value} (h : Reads w v n xs) (k : Below w.heap.size w w') : Reads w' v n xs :=
  h.keep (Keep.of_below k (fun _ => False)) (fun _ _ h => h)

/-- A slice of int that reads as a list. -/
def RInts (w : World) (v : Value) (l : List Int) : Prop :=
  Reads w v l.length (l.map (Value.int .i64)) ∧ ∀ x ∈ l, -9223372036854775808 ≤ x ∧ x ≤ 9223372036854775807

theorem RInts.nil (w : World) : RInts w (.slice none 0 0) [] := ⟨Reads.nil w, fun x h => by cases h⟩
theorem RInts.below {w w' : World} {v : Value} {l : List Int} (h : RInts w v l) (k : Below w.heap.size w w') : RInts w' v l := ⟨h.1.below k, h.2⟩
theorem RInts.keep {S : Nat → Prop} {w w' : World} {v : Value} {l : List Int} (h : RInts w v l) (k : Keep S w w') (hs : ∀ b, v.ownBlock = some b → ¬ S b) : RInts w' v l :=
  ⟨h.1.keep k hs, h.2⟩

/-- The value's shape, once and for all. -/
theorem RInts.shape {w : World} {v : Value} {l : List Int} (h : RInts w v l) :
    ∃ a cap, v = .slice a l.length cap ∧ l.length ≤ cap ∧ cap ≤ 9223372036854775807 := by
  obtain ⟨⟨a, cap, rfl, h1, h2, _⟩, _⟩ := h
  exact ⟨a, cap, rfl, h1, by unfold maxLen at h2; omega⟩

/-- At an index: the address, the number, the cell. -/
theorem RInts.at {w : World} {a : Option Addr} {n cap : Nat} {l : List Int} (h : RInts w (.slice a n cap) l) {k : Nat} (hk : k < n) :
    ∃ b off x, a = some ⟨b, off, none⟩ ∧ b < w.heap.size ∧ l[k]? = some x ∧ w.cell? ⟨b, off + k, none⟩ = some (.int .i64 x) ∧ -9223372036854775808 ≤ x ∧ x ≤ 9223372036854775807 := by
  obtain ⟨⟨a', cap', hv, h1, h2, h3⟩, hwf⟩ := h
  simp only [Value.slice.injEq] at hv
  obtain ⟨rfl, rfl, rfl⟩ := hv
  obtain ⟨b, off, rfl, hb, hc⟩ := h3 (by omega)
  refine ⟨b, off, l[k], rfl, hb, List.getElem?_eq_getElem hk, hc k _ (by simp [hk]), hwf _ (List.getElem_mem hk)⟩

theorem RInts.len {w : World} {a : Option Addr} {n cap : Nat} {l : List Int} (h : RInts w (.slice a n cap) l) : n = l.length ∧ n ≤ cap ∧ cap ≤ 9223372036854775807 := by
  obtain ⟨⟨a', cap', hv, h1, h2, h3⟩, hwf⟩ := h
  simp only [Value.slice.injEq] at hv
  obtain ⟨rfl, rfl, rfl⟩ := hv
  exact ⟨rfl, h1, by unfold maxLen at h2; omega⟩

/-- A block whose cells are all known. -/
def Blk (w : World) (b : Nat) (xs : List Value) (t : TypeId) : Prop := w.heap[b]? = some (.cells xs.toArray t (0, 0))

theorem Blk.lt {w : World} {b : Nat} {xs : List Value} {t : TypeId} (h : Blk w b xs t) : b < w.heap.size := by
  unfold Blk at h
  exact (Array.getElem?_eq_some_iff.1 h).1
theorem Blk.cell {w : World} {b : Nat} {xs : List Value} {t : TypeId} (h : Blk w b xs t) {i : Nat} {x : Value} (hx : xs[i]? = some x) : w.cell? ⟨b, i, none⟩ = some x := by
  unfold Blk at h
  simp [World.cell?, h, hx]
theorem Blk.free {w : World} {b : Nat} {xs : List Value} {t : TypeId} (h : Blk w b xs t) (i : Nat) : w.frozen? ⟨b, i, none⟩ = false := by
  unfold Blk at h
  simp [World.frozen?, h]
theorem Blk.set {w : World} {b : Nat} {xs : List Value} {t : TypeId} (h : Blk w b xs t) (i : Nat) (u : Value) : Blk (w.setCell ⟨b, i, none⟩ u) b (xs.set i u) t := by
  unfold Blk at h ⊢
  simp [World.setCell, Array.getElem?_modify, h]
theorem Blk.keep {S : Nat → Prop} {w w' : World} {b : Nat} {xs : List Value} {t : TypeId} (h : Blk w b xs t) (k : Keep S w w') (hs : ¬ S b) : Blk w' b xs t :=
  (k.block b h.lt hs).trans h
theorem Blk.below {w w' : World} {b : Nat} {xs : List Value} {t : TypeId} (h : Blk w b xs t) (k : Below w.heap.size w w') : Blk w' b xs t :=
  (k.block b h.lt).trans h
theorem Blk.other {w : World} {b : Nat} {xs : List Value} {t : TypeId} (h : Blk w b xs t) (a : Addr) (u : Value) (hne : b ≠ a.block) : Blk (w.setCell a u) b xs t :=
  (Below.heap_setCell w a u b hne).trans h
theorem Blk.new (w : World) (xs : List Value) (t : TypeId) : Blk (w.alloc (.cells xs.toArray t)) w.heap.size xs t := heap_alloc_new w _
theorem Blk.reads {w : World} {b : Nat} {xs : List Value} {t : TypeId} (h : Blk w b xs t) (n cap : Nat) (hn : n ≤ cap) (hc : cap ≤ maxLen) :
    Reads w (.slice (some ⟨b, 0, none⟩) n cap) n xs :=
  ⟨_, _, rfl, hn, hc, fun _ => ⟨b, 0, rfl, h.lt, fun i x hx => by rw [Nat.zero_add]; exact h.cell hx⟩⟩

theorem keep_setCell {S : Nat → Prop} {w0 w : World} (h : Keep S w0 w) {a : Addr} (ha : S a.block) (u : Value) : Keep S w0 (w.setCell a u) :=
  h.trans ⟨rfl, rfl, rfl, by simp [World.setCell], fun k _ hs => Below.heap_setCell _ _ _ _ (fun e => hs (e ▸ ha))⟩

/-- A row that is owned whole. -/
theorem blk_of_row {w : World} {base : Nat} {e : TypeId} {g n : Nat} {xs : List Value} (h : w.ownsRow base e 1 (.slice (some ⟨g, 0, none⟩) n n) n xs) : Blk w g xs e := by
  obtain ⟨h1, h2⟩ := h
  rcases h2 with ⟨h', _⟩ | ⟨g', cap, cur, h', _, hh, _, _, hs, ht⟩
  · simp at h'
  · simp only [Value.slice.injEq, Option.some.injEq, Addr.mk.injEq, and_true, true_and] at h'
    obtain ⟨rfl, rfl⟩ := h'
    have : cur.toList = xs := by rw [← ht, List.take_of_length_le (by simp at hs ⊢; omega)]
    unfold Blk
    rw [hh, ← this]

/-- A row that is owned reads. -/
theorem reads_of_row {w : World} {base : Nat} {e : TypeId} {size : Nat} {v : Value} {n : Nat} {xs : List Value} (h : w.ownsRow base e size v n xs) : Reads w v n xs := by
  have hc := fun g hg => h.cells (g := g) hg
  obtain ⟨h1, h2⟩ := h
  rcases h2 with ⟨rfl, rfl⟩ | ⟨g', cap, cur, rfl, _, hh, hn, hm, hs, ht⟩
  · exact ⟨none, 0, rfl, Nat.le_refl _, by simp [maxLen], fun h => absurd h (by omega)⟩
  · refine ⟨_, cap, rfl, hn, hm, fun _ => ⟨g', 0, rfl, (Array.getElem?_eq_some_iff.1 hh).1, fun i x hx => ?_⟩⟩
    have := hc g' rfl i x hx
    have hadd : (⟨g', 0, none⟩ : Addr).add i = ⟨g', 0 + i, none⟩ := by unfold Addr.add; split <;> simp_all
    rw [hadd] at this
    exact this

theorem rints_of_row {w : World} {base : Nat} {e : TypeId} {v : Value} {l : List Int} (h : w.ownsRow base e 1 v l.length (l.map (Value.int .i64)))
    (hl : ∀ x ∈ l, -9223372036854775808 ≤ x ∧ x ≤ 9223372036854775807) : RInts w v l := ⟨reads_of_row h, hl⟩

/-- 'make([]T, n)', elements of one cell: the whole block is known. -/
theorem wpList_make_blk {P : Program} (w : World) {ops : Array Oper} {rest : List Oper} {o : Oper} {a : Act} {Q : Exit → Act → World → Prop}
    (hg : o.guard = none) (l c : Operand) (t : TypeId) (hop : o.op = Op.makeSlice t l c)
    (e : TypeId) (z : Value) (bytes : Nat) (h1 : P.underlying t = some (.slice e)) (hinfo : (P.info? e).map (fun i => (i.zero, i.size, i.bytes)) = some (some z, 1, bytes))
    (hz : z.cells = #[z]) (kl kc : IntKind) (L C : Int) (n : Nat) (hl : a.eval l = .int kl L) (hc : a.eval c = .int kc C) (hL : L = (n : Int)) (hC : C = (n : Int)) (b2 : bytes * n ≤ 281474976710656) (b3 : n ≤ maxLen)
    (hK : ∀ w', Blk w' w.heap.size (List.replicate n z) e → Below w.heap.size w w' → wpList P ops Q rest (a.put o.dst (.slice (some ⟨w.heap.size, 0, none⟩) n n)) w') :
    wpList P ops Q (o :: rest) a w := by
  obtain ⟨i0, hi, hz0, hz1, hz2⟩ := info_parts hinfo
  refine wpList_make_full w hg l c t hop w.heap.size e i0 z 1 h1 hi hz0 hz1 kl kc L C n hl hc hL hC (by rw [hz2]; exact b2) b3 (Nat.le_refl _) fun w' h k => hK w' ?_ (below_grown k)
  have := blk_of_row h
  rw [hz, Nat.mul_one, toList_madeCells_one] at this
  exact this

/-- A slice that owns its row: it is nil, or it begins at the head of a block of cells, not frozen, whose first cells are xs. -/
def Own (w : World) (e : TypeId) (size : Nat) (v : Value) (n : Nat) (xs : List Value) : Prop := w.ownsRow 0 e size v n xs

theorem own_of {w : World} {base : Nat} {e : TypeId} {size : Nat} {v : Value} {n : Nat} {xs : List Value} (h : w.ownsRow base e size v n xs) : Own w e size v n xs := by
  obtain ⟨h1, h2⟩ := h
  refine ⟨h1, ?_⟩
  rcases h2 with h2 | ⟨g, cap, cur, hv, _, r⟩
  · exact .inl h2
  · exact .inr ⟨g, cap, cur, hv, Nat.zero_le _, r⟩
theorem Own.nil (w : World) (e : TypeId) (size : Nat) : Own w e size (.slice none 0 0) 0 [] := World.ownsRow_nil _ _ _ _
theorem Own.reads {w : World} {e : TypeId} {size : Nat} {v : Value} {n : Nat} {xs : List Value} (h : Own w e size v n xs) : Reads w v n xs := reads_of_row h
theorem Own.keep {S : Nat → Prop} {w w' : World} {e : TypeId} {size : Nat} {v : Value} {n : Nat} {xs : List Value} (h : Own w e size v n xs) (k : Keep S w w')
    (hs : ∀ b, v.ownBlock = some b → ¬ S b) : Own w' e size v n xs := by
  obtain ⟨h1, h2⟩ := h
  refine ⟨h1, ?_⟩
  rcases h2 with h2 | ⟨g, cap, cur, rfl, hb, hh, r⟩
  · exact .inl h2
  · exact .inr ⟨g, cap, cur, rfl, hb, by rw [k.block g (Array.getElem?_eq_some_iff.1 hh).1 (hs g rfl)]; exact hh, r⟩
theorem Own.below {w w' : World} {e : TypeId} {size : Nat} {v : Value} {n : Nat} {xs : List Value} (h : Own w e size v n xs) (k : Below w.heap.size w w') : Own w' e size v n xs :=
  h.keep (Keep.of_below k (fun _ => False)) (fun _ _ h => h)
theorem Own.lt {w : World} {e : TypeId} {size : Nat} {v : Value} {n : Nat} {xs : List Value} (h : Own w e size v n xs) : ∀ b, v.ownBlock = some b → b < w.heap.size :=
  fun b hb => (World.ownsRow.lt h b hb).2

/-- What an append to an owned row leaves: the row, or a new one. -/
theorem run_append_keep {P : Program} (w : World) (t ty e : TypeId) (z : Value) (size bytes : Nat) (ht : P.underlying t = some (.slice e))
    (hinfo : (P.info? e).map (fun i => (i.zero, i.size, i.bytes)) = some (some z, size, bytes)) (hzs : z.cells.size = size) (hsz : 0 < size)
    (v : Value) (n : Nat) (xs : List Value) (hown : Own w e size v n xs)
    (a : Addr) (m c : Nat) (news : List Value) (hl : news.length = m * size) (hnews : ∀ j u, news[j]? = some u → w.cell? (a.add j) = some u) (h1 : ∀ u ∈ news, u.oneCell' = true)
    (h63 : n + m ≤ maxLen) (hbytes : (n + m) * bytes ≤ 140737488355328) :
    ∃ v' w', (Builtin.append_ #[t, t] ty #[v, .slice (some a) m c]).run P w = .ok v' w' ∧ Own w' e size v' (n + m) (xs ++ news) ∧ Keep (fun k => v.ownBlock = some k) w w' ∧
      (∀ g, v'.ownBlock = some g → v.ownBlock = some g ∨ w.heap.size ≤ g) := by
  obtain ⟨i0, hi, hz0, hz1, hz2⟩ := info_parts hinfo
  have hcase := hown.2
  rcases hcase with ⟨rfl, rfl⟩ | ⟨g, cap, cur, rfl, hbg, hg, hnc, hcm, hcs, htake⟩
  · obtain ⟨v', w', hr, h2, h3, _⟩ := run_append_own (P := P) w w.heap.size t ty e i0 z size bytes ht hi hz0 hz1 hz2 hzs hsz (.slice none 0 0) 0 xs
      ⟨hown.1, .inl ⟨rfl, rfl⟩⟩ a m c news hl hnews h1 h63 hbytes (Nat.le_refl _)
    exact ⟨v', w', hr, own_of h2, ⟨h3.os, h3.tape, h3.output, h3.size, fun k hk hs => h3.block k hk (fun e => hs e.symm)⟩, fun g hg => .inr (h2.lt g hg).1⟩
  · obtain ⟨v', w', hr, h2, h3, _⟩ := run_append_own (P := P) w 0 t ty e i0 z size bytes ht hi hz0 hz1 hz2 hzs hsz (.slice (some ⟨g, 0, none⟩) n cap) n xs
      hown a m c news hl hnews h1 h63 hbytes (Nat.zero_le _)
    refine ⟨v', w', hr, h2, ⟨h3.os, h3.tape, h3.output, h3.size, fun k hk hs => h3.block k hk (fun e => hs e.symm)⟩, fun g' hg' => ?_⟩
    by_cases hroom : n + m ≤ cap
    · obtain ⟨w'', hr', _, _⟩ := run_append_fits (P := P) w 0 t ty e i0 size ht hi hz1 g n cap xs hown a m c news hl hnews h1 hroom
      rw [hr] at hr'
      simp only [Result.ok.injEq] at hr'
      obtain ⟨rfl, rfl⟩ := hr'
      left
      simpa [Value.ownBlock] using hg'
    · have holds : ∀ j u, xs[j]? = some u → w.cell? ((⟨g, 0, none⟩ : Addr).add j) = some u := World.ownsRow.cells hown (g := g) rfl
      subst hz1
      subst hz2
      have hr' := run_append_grow (P := P) w t ty e i0 z ht hi hz0 ⟨g, 0, none⟩ n cap xs hown.1 holds a m c news hl hnews (by omega) (by unfold maxLen at h63; omega) (growslice_fits (by omega) hbytes)
      rw [hr] at hr'
      simp only [Result.ok.injEq] at hr'
      obtain ⟨rfl, rfl⟩ := hr'
      right
      simp [Value.ownBlock] at hg'
      omega

/-- 'append(out, src...)', out a row that is owned. -/
theorem wpList_append_keep {P : Program} (w : World) {ops : Array Oper} {rest : List Oper} {o : Oper} {a : Act} {Q : Exit → Act → World → Prop}
    (hg : o.guard = none) (s x : Operand) (t : TypeId) (hop : o.op = Op.call { callee := Callee.builtin Builtin.append, args := #[s, x], argTypes := #[t, t] })
    (e : TypeId) (z : Value) (size bytes : Nat) (ht : P.underlying t = some (.slice e))
    (hinfo : (P.info? e).map (fun i => (i.zero, i.size, i.bytes)) = some (some z, size, bytes)) (hzs : z.cells.size = size) (hsz : 0 < size)
    (v : Value) (n : Nat) (xs : List Value) (hs : a.eval s = v) (hown : Own w e size v n xs)
    (ad : Addr) (m c : Nat) (news : List Value) (hx : a.eval x = .slice (some ad) m c) (hl : news.length = m * size) (hnews : ∀ j u, news[j]? = some u → w.cell? (ad.add j) = some u) (hone : ∀ u ∈ news, u.oneCell' = true)
    (h63 : n + m ≤ maxLen) (hbytes : (n + m) * bytes ≤ 140737488355328)
    (hK : ∀ v' w', Own w' e size v' (n + m) (xs ++ news) → Keep (fun k => v.ownBlock = some k) w w' → (∀ g, v'.ownBlock = some g → v.ownBlock = some g ∨ w.heap.size ≤ g) → wpList P ops Q rest (a.put o.dst v') w') :
    wpList P ops Q (o :: rest) a w := by
  refine wpList_plain hg fun K hK' => ?_
  obtain ⟨v', w', hrun, r1, r2, r3⟩ := run_append_keep (P := P) w t o.type e z size bytes ht hinfo hzs hsz v n xs hown ad m c news hl hnews hone h63 hbytes
  unfold Oper.wp
  simp [execOp, hop, resolve, invoke, builtin, hs, hx, hrun, Result.andThen]
  exact hK' _ _ (hK v' w' r1 r2 r3)

/-- 'append(out, y)', an element of one cell, which lies in the block that was made last. -/
theorem wpList_append_one {P : Program} (wr : World) (o1 : Obj) {ops : Array Oper} {rest : List Oper} {o : Oper} {a : Act} {Q : Exit → Act → World → Prop}
    (hg : o.guard = none) (s x : Operand) (t : TypeId) (hop : o.op = Op.call { callee := Callee.builtin Builtin.append, args := #[s, x], argTypes := #[t, t] })
    (e : TypeId) (z : Value) (bytes : Nat) (h1 : P.underlying t = some (.slice e)) (hinfo : (P.info? e).map (fun i => (i.zero, i.size, i.bytes)) = some (some z, 1, bytes)) (hzs : z.cells.size = 1)
    (v : Value) (n : Nat) (xs : List Value) (u : Value) (t1 : TypeId) (ho1 : o1 = .cells #[u] t1 (0, 0)) (hu : u.oneCell' = true) (hs : a.eval s = v) (hx : a.eval x = .slice (some ⟨wr.heap.size, 0, none⟩) 1 1)
    (hown : Own wr e 1 v n xs) (hn : n < 1000000000) (hby : bytes ≤ 1000)
    (hK : ∀ v' w', Own w' e 1 v' (n + 1) (xs ++ [u]) → Keep (fun k => v.ownBlock = some k) wr w' → (∀ g, v'.ownBlock = some g → v.ownBlock = some g ∨ wr.heap.size ≤ g) → wpList P ops Q rest (a.put o.dst v') w') :
    wpList P ops Q (o :: rest) a (wr.alloc o1) := by
  subst ho1
  have hown' := hown.below (below_alloc wr (.cells #[u] t1 (0, 0)))
  refine wpList_append_keep _ hg s x t hop e z 1 bytes h1 hinfo hzs (by decide) v n _ hs hown' ⟨wr.heap.size, 0, none⟩ 1 1 [u] hx rfl ?_ ?_ ?_ ?_ ?_
  · intro j u hj
    match j, hj with
    | 0, hj => simp at hj; subst hj; simp [Addr.add]
  · intro u' hu'
    simp at hu'
    subst hu'
    exact hu
  · unfold maxLen; omega
  · exact Nat.le_trans (Nat.mul_le_mul (show n + 1 ≤ 1000000000 by omega) hby) (by decide)
  · intro v' w' h k hf
    refine hK v' w' h ?_ ?_
    · exact (Keep.of_below (below_alloc wr _) _).trans k
    · intro g hg
      rcases hf g hg with h | h
      · exact .inl h
      · exact .inr (by simp at h; omega)

/-- A slice of int of the call's own. -/
def OwnI (w : World) (e : TypeId) (v : Value) (l : List Int) : Prop := Own w e 1 v l.length (l.map (Value.int .i64))
theorem OwnI.nil (w : World) (e : TypeId) : OwnI w e (.slice none 0 0) [] := Own.nil _ _ _
theorem OwnI.reads {w : World} {e : TypeId} {v : Value} {l : List Int} (h : OwnI w e v l)
    (hl : ∀ x ∈ l, -9223372036854775808 ≤ x ∧ x ≤ 9223372036854775807) : RInts w v l := ⟨Own.reads h, hl⟩
theorem OwnI.below {w w' : World} {e : TypeId} {v : Value} {l : List Int} (h : OwnI w e v l) (k : Below w.heap.size w w') : OwnI w' e v l := Own.below h k
theorem OwnI.keep {S : Nat → Prop} {w w' : World} {e : TypeId} {v : Value} {l : List Int} (h : OwnI w e v l) (k : Keep S w w')
    (hs : ∀ b, v.ownBlock = some b → ¬ S b) : OwnI w' e v l := Own.keep h k hs

theorem wpList_append_int {P : Program} (wr : World) (o1 : Obj) {ops : Array Oper} {rest : List Oper} {o : Oper} {a : Act} {Q : Exit → Act → World → Prop}
    (hg : o.guard = none) (s x : Operand) (t : TypeId) (hop : o.op = Op.call { callee := Callee.builtin Builtin.append, args := #[s, x], argTypes := #[t, t] })
    (e : TypeId) (h1 : P.underlying t = some (.slice e)) (hinfo : (P.info? e).map (fun i => (i.zero, i.size, i.bytes)) = some (some (.int .i64 0), 1, 8))
    (v : Value) (l : List Int) (y : Int) (t1 : TypeId) (ho1 : o1 = .cells #[.int .i64 y] t1 (0, 0)) (hs : a.eval s = v) (hx : a.eval x = .slice (some ⟨wr.heap.size, 0, none⟩) 1 1)
    (hown : OwnI wr e v l) (hl : l.length < 1000000000)
    (hK : ∀ v' w', OwnI w' e v' (l ++ [y]) → Keep (fun k => v.ownBlock = some k) wr w' → (∀ g, v'.ownBlock = some g → v.ownBlock = some g ∨ wr.heap.size ≤ g) → wpList P ops Q rest (a.put o.dst v') w') :
    wpList P ops Q (o :: rest) a (wr.alloc o1) := by
  refine wpList_append_one wr o1 hg s x t hop e (.int .i64 0) 8 h1 hinfo rfl v l.length _ (.int .i64 y) t1 ho1 rfl hs hx hown hl (by decide) fun v' w' h k hf => hK v' w' ?_ k hf
  unfold OwnI
  simpa using h

/-- blocks at B or beyond -/
def FreshV (B : Nat) (v : Value) : Prop := ∀ g, v.ownBlock = some g → B ≤ g
theorem FreshV.nil (B : Nat) : FreshV B (.slice none 0 0) := fun g h => by simp [Value.ownBlock] at h
theorem FreshV.step {B : Nat} {v v' : Value} {w : World} (h : FreshV B v) (hB : B ≤ w.heap.size) (hf : ∀ g, v'.ownBlock = some g → v.ownBlock = some g ∨ w.heap.size ≤ g) : FreshV B v' := by
  intro g hg
  rcases hf g hg with h' | h'
  · exact h g h'
  · omega
/-- an append to a row of the call's own, in the call's own terms -/
theorem below_append {B : Nat} {w0 w w' : World} {v : Value} (h : Below B w0 w) (k : Keep (fun k => v.ownBlock = some k) w w') (hf : FreshV B v) (hB : B ≤ w.heap.size) : Below B w0 w' :=
  h.trans (k.below hB fun i hi hs => by have := hf i hs; omega)

/-- A slice of numbers that was written out. -/
theorem rints_new (w : World) (l : List Int) (t : TypeId) (n b : Nat) (o : Obj) (hb : b = w.heap.size) (hn : l.length = n) (ho : o = .cells (l.map (Value.int .i64)).toArray t (0, 0)) (hl : ∀ x ∈ l, -9223372036854775808 ≤ x ∧ x ≤ 9223372036854775807) (hlen : n < 1000000000) :
    RInts (w.alloc o) (.slice (some ⟨b, 0, none⟩) n n) l := by
  subst ho
  subst hn
  subst hb
  exact ⟨(Blk.new w _ t).reads _ _ (Nat.le_refl _) (by unfold maxLen; omega), hl⟩

theorem wf64 {n : Int} (h : (Lit.int .i64 n).wf = true) : -9223372036854775808 ≤ n ∧ n ≤ 9223372036854775807 := by
  have h1 : IntKind.i64.min = -9223372036854775808 := rfl
  have h2 : IntKind.i64.max = 9223372036854775807 := rfl
  simp only [Lit.wf, Bool.and_eq_true, decide_eq_true_eq] at h
  omega

/-- The reading of an argument, a slice of int, in this page's own words. -/
theorem rints_of_open {w : World} {x : Addr} {len cap : Nat} {zs : List Int} (hl : len ≤ cap) (hm : cap ≤ maxLen) (hz : zs.length = cap)
    (hcell : ∀ i, i < zs.length → w.cell? (x.add i) = some (.int .i64 (zs.getD i 0))) (hwz : ∀ n ∈ zs, (Lit.int .i64 n).wf = true) :
    RInts w (.slice (some x) len cap) (zs.take len) := by
  have hlen : (zs.take len).length = len := by simp; omega
  refine ⟨?_, fun y hy => ?_⟩
  · rw [hlen]
    refine ⟨_, cap, rfl, hl, hm, fun hn => ?_⟩
    obtain ⟨b, off, spot⟩ := x
    have hc := hcell 0 (by omega)
    have hspot : spot = none := by simpa [Addr.add] using World.cell?_spot hc
    subst hspot
    refine ⟨b, off, rfl, ?_, fun i u hu => ?_⟩
    · have := World.block_lt_of_cell? w _ hc
      simpa [Addr.add] using this
    · rw [List.getElem?_map] at hu
      have hi : i < len := by
        by_cases h : i < len
        · exact h
        · rw [List.getElem?_eq_none (by omega)] at hu
          simp at hu
      have h2 := hcell i (by omega)
      have hadd : (⟨b, off, none⟩ : Addr).add i = ⟨b, off + i, none⟩ := by unfold Addr.add; split <;> simp_all
      rw [hadd] at h2
      rw [h2, ← hu, List.getElem?_take, if_pos hi, List.getD_eq_getElem?_getD, List.getElem?_eq_getElem (by omega)]
      rfl
  · have := hwz y (List.mem_of_mem_take hy)
    exact wf64 this

/-- the cells of a slice that is appended -/
theorem Reads.news {w : World} {ad : Addr} {n cap : Nat} {xs : List Value} (h : Reads w (.slice (some ad) n cap) n xs) (hn : xs.length = n) :
    ∀ j u, xs[j]? = some u → w.cell? (ad.add j) = some u := by
  intro j u hu
  have hj : j < n := by have := (List.getElem?_eq_some_iff.1 hu).1; omega
  obtain ⟨a, c, hv, h1, h2, h3⟩ := h
  simp only [Value.slice.injEq] at hv
  obtain ⟨rfl, _, rfl⟩ := hv
  obtain ⟨b, off, e, hb, hc⟩ := h3 (by omega)
  cases e
  have hadd : (⟨b, off, none⟩ : Addr).add j = ⟨b, off + j, none⟩ := by unfold Addr.add; split <;> simp_all
  rw [hadd]
  exact hc j u hu
theorem one_ints (k : IntKind) (l : List Int) : ∀ u ∈ l.map (Value.int k), u.oneCell' = true := ints_oneCell k l
/-- an empty row that was made just now -/
theorem own_empty (w : World) (e : TypeId) (size : Nat) : Own (w.alloc (.cells #[] e (0, 0))) e size (.slice (some ⟨w.heap.size, 0, none⟩) 0 0) 0 [] :=
  World.ownsRow_made w #[] 0 (Nat.zero_le _) (by simp [maxLen]) (by simp)

/-- a function that has a body is entered -/
theorem enter_of {P : Program} {f : FuncId} {fn : Func} {c : Code} (hf : P.funcs[f]? = some fn) (hname : (fn.name == "runtime.NumGoroutine") = false) (hb : fn.body = some c) (args : Array Value) (w : World) :
    (callFunc f args).run P w = .ok (.enter f args) w := by
  have h1 : fn.name ≠ "runtime.NumGoroutine" := by simpa using hname
  simp [callFunc, hf, h1, hb]

/-- 'make([]T, n)' as an equation on the run: for a region that draws its order. -/
theorem run_make_zeros {P : Program} (w : World) (t e : TypeId) (z : Value) (bytes : Nat) (h1 : P.underlying t = some (.slice e)) (hinfo : (P.info? e).map (fun i => (i.zero, i.size, i.bytes)) = some (some z, 1, bytes))
    (hz : z.cells = #[z]) (kl kc : IntKind) (n : Nat) (b2 : bytes * n ≤ 281474976710656) (b3 : n ≤ maxLen) :
    (Instr.makeSlice t (.int kl (n : Int)) (.int kc (n : Int))).run P w = .ok (.slice (some ⟨w.heap.size, 0, none⟩) n n) (w.alloc (.cells (List.replicate n z).toArray e)) := by
  obtain ⟨i0, hi, hz0, hz1, hz2⟩ := info_parts hinfo
  subst hz2
  have h63' : (n : Int) ≤ 9223372036854775807 := by have h := b3; simp [maxLen] at h; omega
  have hb' : (i0.bytes : Int) * (n : Int) ≤ 281474976710656 := by
    have h : ((i0.bytes * n : Nat) : Int) ≤ 281474976710656 := by omega
    rwa [Int.natCast_mul] at h
  have hr := run_make (P := P) w t e i0 z h1 hi hz0 kl kc n n (by omega) (Int.le_refl _) hb' h63'
  simp only [Int.toNat_natCast] at hr
  rw [hr, hz, hz1, Nat.mul_one]
  congr 3
  apply Array.ext'
  rw [toList_madeCells_one]

theorem ret_int {k : IntKind} {a b : Int} (h : a = b) : Ending.returned (.int k a) = .returned (.int k b) := by rw [h]
theorem ret_bool {a b : Bool} (h : a = b) : Ending.returned (.bool a) = .returned (.bool b) := by rw [h]

theorem take_snoc {α : Type} {l : List α} {k : Nat} {x : α} (h : l[k]? = some x) : l.take (k + 1) = l.take k ++ [x] := by
  rw [List.take_add_one, h]; rfl
end Go.Proofs.Ytmgjmpmcadjemaa

/- Strings as lists of bytes; rows of bytes in memory. No program is named here. -/
import Derived.Test.YtjpjdecbkekcfaaBase
import Derived.Laws.IdiomStrings
import Derived.Laws.Concat
import Derived.Laws.Strings2
namespace Go.Proofs.Ytjpjdecbkekcfaa
open Go.RowKit

/-- a string of bytes -/
def str (l : List UInt8) : ByteArray := ⟨l.toArray⟩
theorem str_size (l : List UInt8) : (str l).size = l.length := by simp [str, ByteArray.size]
theorem str_toList (l : List UInt8) : (str l).toList = l := by unfold str; exact ByteArray.toList_mk l
theorem str_append (a b : List UInt8) : str a ++ str b = str (a ++ b) := ByteArray.mk_append_mk a b
theorem str_extract (l : List UInt8) (a b : Nat) : (str l).extract a b = str ((l.drop a).take (b - a)) := ByteArray.extract_mk l a b
theorem str_of (s : ByteArray) : s = str s.data.toList := by simp [str]
theorem str_get (l : List UInt8) (i : Nat) (h : i < (str l).size) : (str l)[i] = l[i]'(by rw [str_size] at h; exact h) := by
  rfl
theorem str_inj {a b : List UInt8} (h : str a = str b) : a = b := by rw [← str_toList a, h, str_toList]
theorem str_at {s : ByteArray} {l : List UInt8} (hs : s = str l) {i : Nat} (h : i < s.size) : l[i]? = some s[i] := by
  subst hs
  rw [str_get, List.getElem?_eq_getElem]
theorem data_toList (s : ByteArray) : s.toList = s.data.toList := by rw [ByteArray.toList_eq]
theorem size_list (s : ByteArray) : s.size = s.data.toList.length := rfl

/-- bytes as the cells of a row -/
def u8 (c : UInt8) : Value := .int .u8 (c.toNat : Int)
def bcells (l : List UInt8) : List Value := l.map u8
theorem bcells_len (l : List UInt8) : (bcells l).length = l.length := by simp [bcells]
theorem bcells_at {l : List UInt8} {i : Nat} {c : UInt8} (h : l[i]? = some c) : (bcells l)[i]? = some (.int .u8 (c.toNat : Int)) := by simp [bcells, u8, h]
theorem bcells_one (l : List UInt8) : ∀ u ∈ bcells l, u.oneCell' = true := by
  intro u hu
  obtain ⟨c, _, rfl⟩ := List.mem_map.1 hu
  rfl
theorem bcells_append (a b : List UInt8) : bcells (a ++ b) = bcells a ++ bcells b := by simp [bcells]

/-- a slice of bytes that reads as a list -/
def RBytes (w : World) (v : Value) (l : List UInt8) : Prop := Reads w v l.length (bcells l)
/-- a slice of bytes of the call's own -/
def OwnB (w : World) (e : TypeId) (v : Value) (l : List UInt8) : Prop := Own w e 1 v l.length (bcells l)
theorem OwnB.nil (w : World) (e : TypeId) : OwnB w e (.slice none 0 0) [] := Own.nil _ _ _
theorem OwnB.reads {w : World} {e : TypeId} {v : Value} {l : List UInt8} (h : OwnB w e v l) : RBytes w v l := Own.reads h
theorem OwnB.below {w w' : World} {e : TypeId} {v : Value} {l : List UInt8} (h : OwnB w e v l) (k : Below w.heap.size w w') : OwnB w' e v l := Own.below h k
theorem OwnB.keep {S : Nat → Prop} {w w' : World} {e : TypeId} {v : Value} {l : List UInt8} (h : OwnB w e v l) (k : Keep S w w')
    (hs : ∀ b, v.ownBlock = some b → ¬ S b) : OwnB w' e v l := Own.keep h k hs
theorem RBytes.below {w w' : World} {v : Value} {l : List UInt8} (h : RBytes w v l) (k : Below w.heap.size w w') : RBytes w' v l := Reads.below h k
theorem RBytes.shape {w : World} {v : Value} {l : List UInt8} (h : RBytes w v l) :
    ∃ a cap, v = .slice a l.length cap ∧ l.length ≤ cap ∧ cap ≤ 9223372036854775807 := by
  obtain ⟨a, cap, rfl, h1, h2, _⟩ := h
  exact ⟨a, cap, rfl, h1, by unfold maxLen at h2; omega⟩
theorem RBytes.at {w : World} {a : Option Addr} {n cap : Nat} {l : List UInt8} (h : RBytes w (.slice a n cap) l) {k : Nat} (hk : k < n) :
    ∃ b off c, a = some ⟨b, off, none⟩ ∧ b < w.heap.size ∧ l[k]? = some c ∧ w.cell? ⟨b, off + k, none⟩ = some (.int .u8 (c.toNat : Int)) := by
  obtain ⟨a', cap', hv, h1, h2, h3⟩ := h
  simp only [Value.slice.injEq] at hv
  obtain ⟨rfl, rfl, rfl⟩ := hv
  obtain ⟨b, off, rfl, hb, hc⟩ := h3 (by omega)
  have hx : l[k]? = some l[k] := List.getElem?_eq_getElem hk
  exact ⟨b, off, l[k], rfl, hb, hx, hc k _ (bcells_at hx)⟩

/-- 'append(out, c)', c a byte -/
theorem wpList_append_byte {P : Program} (wr : World) (o1 : Obj) {ops : Array Oper} {rest : List Oper} {o : Oper} {a : Act} {Q : Exit → Act → World → Prop}
    (hg : o.guard = none) (s x : Operand) (t : TypeId) (hop : o.op = Op.call { callee := Callee.builtin Builtin.append, args := #[s, x], argTypes := #[t, t] })
    (e : TypeId) (h1 : P.underlying t = some (.slice e)) (hinfo : (P.info? e).map (fun i => (i.zero, i.size, i.bytes)) = some (some (.int .u8 0), 1, 1))
    (v : Value) (l : List UInt8) (y : Int) (c : UInt8) (hy : y = (c.toNat : Int)) (t1 : TypeId) (ho1 : o1 = .cells #[.int .u8 y] t1 (0, 0)) (hs : a.eval s = v) (hx : a.eval x = .slice (some ⟨wr.heap.size, 0, none⟩) 1 1)
    (hown : OwnB wr e v l) (hl : l.length < 1000000000)
    (hK : ∀ v' w', OwnB w' e v' (l ++ [c]) → Keep (fun k => v.ownBlock = some k) wr w' → (∀ g, v'.ownBlock = some g → v.ownBlock = some g ∨ wr.heap.size ≤ g) → wpList P ops Q rest (a.put o.dst v') w') :
    wpList P ops Q (o :: rest) a (wr.alloc o1) := by
  refine wpList_append_one wr o1 hg s x t hop e (.int .u8 0) 1 h1 hinfo rfl v l.length _ (.int .u8 y) t1 ho1 rfl hs hx hown hl (by decide) fun v' w' h k hf => hK v' w' ?_ k hf
  unfold OwnB
  rw [bcells_append, List.length_append]
  subst hy
  exact h

/-- 'string(b)' of a slice of bytes, nil too -/
theorem run_string_of {P : Program} {w : World} {v : Value} {l : List UInt8} (h : RBytes w v l) (src dst e : TypeId) (hs : P.underlying src = some (.slice e)) (he : P.underlying e = some (.int .u8)) (hd : P.underlying dst = some .string) :
    (convert src dst v).run P w = .ok (.string (str l)) w := by
  obtain ⟨a, cap, rfl, h1, h2, h3⟩ := h
  cases l with
  | nil =>
    cases a with
    | none =>
      rw [run_convert_bytes_string w src dst e none _ cap hs he hd]
      rfl
    | some ad => exact run_convert_bytes_back w src dst e ad cap [] hs he hd (fun j hj => absurd hj (by simp))
  | cons c l =>
    obtain ⟨b, off, rfl, hb, hc⟩ := h3 (by simp)
    refine run_convert_bytes_back w src dst e _ cap (c :: l) hs he hd fun j hj => ?_
    rw [show (⟨b, off, none⟩ : Addr).add j = ⟨b, off + j, none⟩ by unfold Addr.add; split <;> simp_all]
    exact hc j _ (bcells_at (List.getElem?_eq_getElem hj))
end Go.Proofs.Ytjpjdecbkekcfaa

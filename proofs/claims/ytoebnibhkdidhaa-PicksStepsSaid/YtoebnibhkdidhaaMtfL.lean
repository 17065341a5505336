/- Package mtf: places and touches, plain. -/
import Derived.Test.YtoebnibhkdidhaaBase
namespace Go.Proofs.Ytoebnibhkdidhaa
/-- the place of the first one -/
def plc (l : List UInt8) (b : UInt8) : Option Nat := l.findIdx? (fun x => x == b)
def plcI (l : List UInt8) (b : UInt8) : Int := match plc l b with | some k => (k : Int) | none => -1
/-- an order with the symbol at a place in front -/
def touchL (l : List UInt8) (i : Nat) : List UInt8 := (l.drop i).take 1 ++ (l.take i ++ l.drop (i + 1))
theorem touchL_len {l : List UInt8} {i : Nat} (h : i < l.length) : (touchL l i).length = l.length := by
  unfold touchL
  simp
  omega
theorem touchL_eq {l : List UInt8} {i : Nat} {c : UInt8} (h : l[i]? = some c) : touchL l i = c :: (l.take i ++ l.drop (i + 1)) := by
  obtain ⟨hi, rfl⟩ := List.getElem?_eq_some_iff.1 h
  unfold touchL
  rw [List.drop_eq_getElem_cons hi]
  rfl
theorem touchL_perm {l : List UInt8} {i : Nat} (h : i < l.length) : (touchL l i).Perm l := by
  rw [touchL_eq (List.getElem?_eq_getElem h)]
  refine List.Perm.trans ?_ (List.Perm.of_eq (List.take_append_drop i l))
  rw [List.drop_eq_getElem_cons h]
  exact List.perm_middle.symm
theorem plc_some {l : List UInt8} {b : UInt8} {k : Nat} (h : plc l b = some k) : l[k]? = some b ∧ k < l.length := by
  unfold plc at h
  rw [List.findIdx?_eq_some_iff_getElem] at h
  obtain ⟨hk, hp, _⟩ := h
  have : l[k] = b := by simpa using hp
  exact ⟨by rw [List.getElem?_eq_getElem hk, this], hk⟩
theorem plc_of {l : List UInt8} {k : Nat} {b : UInt8} (hx : l[k]? = some b) (hno : ∀ (i : Nat) (y : UInt8), i < k → l[i]? = some y → y ≠ b) : plc l b = some k := by
  obtain ⟨hk, he⟩ := List.getElem?_eq_some_iff.1 hx
  unfold plc
  rw [List.findIdx?_eq_some_iff_getElem]
  refine ⟨hk, by rw [he]; simp, fun j hj => ?_⟩
  have := hno j l[j] hj (List.getElem?_eq_getElem (by omega))
  simpa using this
theorem plc_none {l : List UInt8} {b : UInt8} (hno : ∀ (i : Nat) (y : UInt8), l[i]? = some y → y ≠ b) : plc l b = none := by
  unfold plc
  rw [List.findIdx?_eq_none_iff]
  intro x hx
  obtain ⟨i, hi⟩ := List.getElem?_of_mem hx
  simpa using hno i x hi
theorem plc_nodup {l : List UInt8} {k : Nat} {b : UInt8} (hd : l.Nodup) (hx : l[k]? = some b) : plc l b = some k := by
  refine plc_of hx fun i y hi hy e => ?_
  subst e
  obtain ⟨h1, e1⟩ := List.getElem?_eq_some_iff.1 hx
  obtain ⟨h2, e2⟩ := List.getElem?_eq_some_iff.1 hy
  have := (List.getElem_inj (h₀ := h2) (h₁ := h1) hd).1 (e2.trans e1.symm)
  omega

/-- places of a text's bytes -/
def encL : List UInt8 → List UInt8 → Option (List Nat)
  | _, [] => some []
  | o, c :: s => match plc o c with
    | none => none
    | some k => (encL (touchL o k) s).map (k :: ·)
/-- the order behind a text -/
def encO : List UInt8 → List UInt8 → List UInt8
  | o, [] => o
  | o, c :: s => match plc o c with
    | none => o
    | some k => encO (touchL o k) s
/-- a text of places -/
def decL : List UInt8 → List Int → Option (List UInt8)
  | _, [] => some []
  | o, i :: l => if i < 0 ∨ (o.length : Int) ≤ i then none else (decL (touchL o i.toNat) l).map (o.getD i.toNat 0 :: ·)

theorem encL_len {o s : List UInt8} {l : List Nat} (h : encL o s = some l) : l.length = s.length := by
  induction s generalizing o l with
  | nil => simp [encL] at h; subst h; rfl
  | cons c s ih =>
    rw [encL] at h
    cases hp : plc o c with
    | none => rw [hp] at h; cases h
    | some k =>
      rw [hp] at h
      obtain ⟨l', hl', rfl⟩ := Option.map_eq_some_iff.1 h
      simp [ih hl']
theorem encL_lt {o s : List UInt8} {l : List Nat} (h : encL o s = some l) : ∀ k ∈ l, k < o.length := by
  induction s generalizing o l with
  | nil => simp [encL] at h; subst h; simp
  | cons c s ih =>
    rw [encL] at h
    cases hp : plc o c with
    | none => rw [hp] at h; cases h
    | some k =>
      rw [hp] at h
      obtain ⟨l', hl', rfl⟩ := Option.map_eq_some_iff.1 h
      have hk := (plc_some hp).2
      intro x hx
      rcases List.mem_cons.1 hx with e | e
      · subst e; exact hk
      · have := ih hl' x e
        rwa [touchL_len hk] at this
/-- of symbols that are there, there is a place -/
theorem encL_some {o s : List UInt8} (h : ∀ c ∈ s, c ∈ o) : ∃ l, encL o s = some l := by
  induction s generalizing o with
  | nil => exact ⟨[], rfl⟩
  | cons c s ih =>
    rw [encL]
    cases hp : plc o c with
    | none =>
      unfold plc at hp
      rw [List.findIdx?_eq_none_iff] at hp
      have := hp c (h c (by simp))
      simp at this
    | some k =>
      have hk := (plc_some hp).2
      obtain ⟨l, hl⟩ := ih (o := touchL o k) (fun x hx => (touchL_perm hk).mem_iff.2 (h x (by simp [hx])))
      exact ⟨k :: l, by simp [hl]⟩
theorem dec_enc {o s : List UInt8} {l : List Nat} (h : encL o s = some l) : decL o (l.map (fun (k : Nat) => (k : Int))) = some s := by
  induction s generalizing o l with
  | nil => simp [encL] at h; subst h; rfl
  | cons c s ih =>
    rw [encL] at h
    cases hp : plc o c with
    | none => rw [hp] at h; cases h
    | some k =>
      rw [hp] at h
      obtain ⟨l', hl', rfl⟩ := Option.map_eq_some_iff.1 h
      obtain ⟨hc, hk⟩ := plc_some hp
      rw [List.map_cons, decL, if_neg (by omega), Int.toNat_natCast, ih hl', List.getD_eq_getElem?_getD, hc]
      rfl
theorem enc_dec {o s : List UInt8} {l : List Int} (hd : o.Nodup) (h : decL o l = some s) : ∃ m : List Nat, encL o s = some m ∧ m.map (fun (k : Nat) => (k : Int)) = l := by
  induction l generalizing o s with
  | nil => simp [decL] at h; subst h; exact ⟨[], rfl, rfl⟩
  | cons i l ih =>
    rw [decL] at h
    split at h
    · cases h
    · rename_i hi
      obtain ⟨k, rfl⟩ : ∃ k : Nat, i = k := ⟨i.toNat, by omega⟩
      rw [Int.toNat_natCast] at h
      obtain ⟨s', hs', rfl⟩ := Option.map_eq_some_iff.1 h
      have hk : k < o.length := by omega
      have hc : o[k]? = some o[k] := List.getElem?_eq_getElem hk
      obtain ⟨m, hm, rfl⟩ := ih ((touchL_perm hk).nodup_iff.2 hd) hs'
      refine ⟨k :: m, ?_, rfl⟩
      rw [List.getD_eq_getElem?_getD, hc, Option.getD_some, encL, plc_nodup hd hc]
      simp [hm]
/-- a byte that was told just ahead has the place 0 -/
theorem plc_head (c : UInt8) (o : List UInt8) (d : UInt8) : (plc (c :: o) d = some 0) ↔ c = d := by
  unfold plc
  rw [List.findIdx?_cons]
  by_cases h : c = d
  · simp [h]
  · simp [h]
theorem enc_zero {o s : List UInt8} {l : List Nat} (h : encL o s = some l) : ∀ i c d k, s[i]? = some c → s[i + 1]? = some d → l[i + 1]? = some k → (k = 0 ↔ c = d) := by
  induction s generalizing o l with
  | nil => intro i c d k hc; simp at hc
  | cons a s ih =>
    rw [encL] at h
    cases hp : plc o a with
    | none => rw [hp] at h; cases h
    | some j =>
      rw [hp] at h
      obtain ⟨l', hl', rfl⟩ := Option.map_eq_some_iff.1 h
      intro i c d k hc hd hk
      cases i with
      | zero =>
        simp at hc hd hk
        subst hc
        cases s with
        | nil => simp at hd
        | cons b s =>
          simp at hd
          subst hd
          rw [encL, touchL_eq (plc_some hp).1] at hl'
          cases hq : plc (a :: (o.take j ++ o.drop (j + 1))) b with
          | none => rw [hq] at hl'; cases hl'
          | some m =>
            rw [hq] at hl'
            obtain ⟨l'', _, rfl⟩ := Option.map_eq_some_iff.1 hl'
            simp at hk
            subst hk
            rw [← plc_head a (o.take j ++ o.drop (j + 1)) b, hq]
            simp
      | succ i =>
        simp at hc hd hk
        exact ih hl' i c d k hc (by simpa using hd) (by simpa using hk)

theorem encO_perm (o s : List UInt8) : (encO o s).Perm o := by
  induction s generalizing o with
  | nil => exact List.Perm.refl _
  | cons c s ih =>
    rw [encO]
    cases hp : plc o c with
    | none => exact List.Perm.refl _
    | some k => exact (ih _).trans (touchL_perm (plc_some hp).2)
theorem encO_len (o s : List UInt8) : (encO o s).length = o.length := (encO_perm o s).length_eq
theorem encL_snoc {o s : List UInt8} {L : List Nat} (c : UInt8) (h : encL o s = some L) : encL o (s ++ [c]) = (plc (encO o s) c).map (fun k => L ++ [k]) := by
  induction s generalizing o L with
  | nil =>
    simp [encL] at h
    subst h
    rw [List.nil_append, encL, encO]
    cases plc o c <;> simp [encL]
  | cons d s ih =>
    rw [List.cons_append, encL, encO]
    rw [encL] at h
    cases hp : plc o d with
    | none => rw [hp] at h; cases h
    | some k =>
      rw [hp] at h
      obtain ⟨l', hl', rfl⟩ := Option.map_eq_some_iff.1 h
      dsimp only
      rw [ih hl']
      cases plc (encO (touchL o k) s) c <;> simp
theorem encO_snoc {o s : List UInt8} {L : List Nat} (c : UInt8) (k : Nat) (h : encL o s = some L) (hp : plc (encO o s) c = some k) : encO o (s ++ [c]) = touchL (encO o s) k := by
  induction s generalizing o L with
  | nil =>
    rw [encO] at hp
    show encO o [c] = touchL o k
    rw [encO, hp]
    rfl
  | cons d s ih =>
    rw [List.cons_append, encO]
    rw [encL] at h
    cases hq : plc o d with
    | none => rw [hq] at h; cases h
    | some m =>
      rw [hq] at h
      obtain ⟨l', hl', rfl⟩ := Option.map_eq_some_iff.1 h
      have e : encO o (d :: s) = encO (touchL o m) s := by rw [encO, hq]
      rw [e] at hp ⊢
      exact ih hl' hp
theorem encL_stop {o s t : List UInt8} (h : encL o s = none) : encL o (s ++ t) = none := by
  induction s generalizing o with
  | nil => simp [encL] at h
  | cons d s ih =>
    rw [List.cons_append, encL]
    rw [encL] at h
    cases hp : plc o d with
    | none => rfl
    | some k =>
      rw [hp] at h
      dsimp only at h ⊢
      rw [ih (by simpa using h)]
      rfl
theorem encL_none {o s : List UInt8} {L : List Nat} {k : Nat} {c : UInt8} (h : encL o (s.take k) = some L) (hc : s[k]? = some c) (hp : plc (encO o (s.take k)) c = none) : encL o s = none := by
  rw [← List.take_append_drop (k + 1) s]
  apply encL_stop
  rw [List.take_add_one, hc]
  show encL o (s.take k ++ [c]) = none
  rw [encL_snoc c h, hp]
  rfl

/-- the order behind places -/
def decO : List UInt8 → List Int → List UInt8
  | o, [] => o
  | o, i :: l => if i < 0 ∨ (o.length : Int) ≤ i then o else decO (touchL o i.toNat) l
theorem decL_len {o s : List UInt8} {l : List Int} (h : decL o l = some s) : s.length = l.length := by
  induction l generalizing o s with
  | nil => simp [decL] at h; subst h; rfl
  | cons i l ih =>
    rw [decL] at h
    split at h
    · cases h
    · obtain ⟨s', hs', rfl⟩ := Option.map_eq_some_iff.1 h
      simp [ih hs']
theorem decO_len (o : List UInt8) (l : List Int) : (decO o l).length = o.length := by
  induction l generalizing o with
  | nil => rfl
  | cons i l ih =>
    rw [decO]
    split
    · rfl
    · rw [ih, touchL_len (by omega)]
theorem decL_snoc {o s : List UInt8} {l : List Int} (i : Int) (h : decL o l = some s) :
    decL o (l ++ [i]) = if i < 0 ∨ (o.length : Int) ≤ i then none else some (s ++ [(decO o l).getD i.toNat 0]) := by
  induction l generalizing o s with
  | nil =>
    simp [decL] at h
    subst h
    rw [List.nil_append, decL, decO]
    split <;> simp [decL]
  | cons j l ih =>
    rw [List.cons_append, decL, decO]
    rw [decL] at h
    split at h
    · cases h
    · rename_i hj
      obtain ⟨s', hs', rfl⟩ := Option.map_eq_some_iff.1 h
      rw [if_neg hj, if_neg hj, ih hs', touchL_len (by omega)]
      split <;> simp
theorem decO_snoc {o s : List UInt8} {l : List Int} (i : Nat) (h : decL o l = some s) (hi : i < o.length) : decO o (l ++ [(i : Int)]) = touchL (decO o l) i := by
  induction l generalizing o s with
  | nil =>
    show decO o [(i : Int)] = touchL o i
    rw [decO, if_neg (by omega), decO]
    rfl
  | cons j l ih =>
    rw [List.cons_append, decO]
    rw [decL] at h
    split at h
    · cases h
    · rename_i hj
      obtain ⟨s', hs', rfl⟩ := Option.map_eq_some_iff.1 h
      rw [if_neg hj, ih hs' (by rw [touchL_len (by omega)]; exact hi)]
      congr 1
      rw [decO, if_neg hj]
theorem decL_stop {o : List UInt8} {l m : List Int} (h : decL o l = none) : decL o (l ++ m) = none := by
  induction l generalizing o with
  | nil => simp [decL] at h
  | cons j l ih =>
    rw [List.cons_append, decL]
    rw [decL] at h
    split
    · rfl
    · rename_i hj
      rw [if_neg hj] at h
      rw [ih (by simpa using h)]
      rfl
theorem decL_none {o s : List UInt8} {l : List Int} {k : Nat} {i : Int} (h : decL o (l.take k) = some s) (hc : l[k]? = some i) (hi : i < 0 ∨ (o.length : Int) ≤ i) : decL o l = none := by
  rw [← List.take_append_drop (k + 1) l]
  apply decL_stop
  rw [List.take_add_one, hc]
  show decL o (l.take k ++ [i]) = none
  rw [decL_snoc i h, if_pos hi]

/-- what the document tells -/
def encE (o s : List UInt8) : Int := match encL o s with | some _ => 0 | none => 6
def encV (o s : List UInt8) : List Int := match encL o s with | some L => L.map (fun (k : Nat) => (k : Int)) | none => []
def decE (o : List UInt8) (l : List Int) : Int := match decL o l with | some _ => 0 | none => 1
def decV (o : List UInt8) (l : List Int) : List UInt8 := match decL o l with | some s => s | none => []
theorem enc_yes {o s : List UInt8} {L : List Nat} (h : encL o s = some L) : encE o s = 0 ∧ encV o s = L.map (fun (k : Nat) => (k : Int)) := by unfold encE encV; rw [h]; exact ⟨rfl, rfl⟩
theorem enc_no {o s : List UInt8} (h : encL o s = none) : encE o s = 6 ∧ encV o s = [] := by unfold encE encV; rw [h]; exact ⟨rfl, rfl⟩
theorem dec_yes {o s : List UInt8} {l : List Int} (h : decL o l = some s) : decE o l = 0 ∧ decV o l = s := by unfold decE decV; rw [h]; exact ⟨rfl, rfl⟩
theorem dec_no {o : List UInt8} {l : List Int} (h : decL o l = none) : decE o l = 1 ∧ decV o l = [] := by unfold decE decV; rw [h]; exact ⟨rfl, rfl⟩
theorem natI_len (L : List Nat) : (L.map (fun (k : Nat) => (k : Int))).length = L.length := List.length_map _
end Go.Proofs.Ytoebnibhkdidhaa

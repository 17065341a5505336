/- Package queue: a queue beside a row that is read; QueueOrder and QueueRound. -/
import Derived.Test.YtfphdcfbkknpbaaQueD
namespace Go.Proofs.Ytfphdcfbkknpbaa
open Go.RowKit

/-- what is known of memory and hangs on one block at most -/
def Stays (P : World → Prop) (ov : Option Nat) : Prop := ∀ (S : Nat → Prop) (w w' : World), P w → Keep S w w' → (∀ g, ov = some g → ¬ S g) → P w'

structure QSep (P : World → Prop) (B b : Nat) (lim : Int) (l : List Int) (ov : Option Nat) (w : World) : Prop where
  q : ∃ vq, QueueAt w b lim vq l ∧ FreshV B vq ∧ (∀ g, ov = some g → vq.ownBlock ≠ some g)
  nb : ov ≠ some b
  lt : ∀ g, ov = some g → g < w.heap.size
  hb : B ≤ b
  p : P w
  sz : B ≤ w.heap.size

theorem QSep.did {P : World → Prop} {B b : Nat} {lim : Int} {l l' : List Int} {ov : Option Nat} {vq : Value} {w w' : World} (st : Stays P ov) (h : QSep P B b lim l ov w) (hf : FreshV B vq) (hn : ∀ g, ov = some g → vq.ownBlock ≠ some g)
    (hd : QDid b lim vq l' w w') : QSep P B b lim l' ov w' ∧ Below B w w' := by
  obtain ⟨vq', q, k, f⟩ := hd
  refine ⟨⟨⟨vq', q, fun g hg => ?_, fun g hg hv => ?_⟩, h.nb, fun g hg => Nat.lt_of_lt_of_le (h.lt g hg) k.size, h.hb, st _ _ _ h.p k (fun g hg hs => ?_), Nat.le_trans h.sz k.size⟩, k.below h.sz fun j hj hs => ?_⟩
  · rcases f g hg with h1 | h1
    · exact hf g h1
    · exact Nat.le_trans h.sz h1
  · rcases f g hv with h1 | h1
    · exact hn g hg h1
    · have := h.lt g hg; omega
  · rcases hs with rfl | hs
    · exact h.nb hg
    · exact hn g hg hs
  · rcases hs with rfl | hs
    · have := h.hb; omega
    · have := hf j hs; omega
theorem QSep.below {P : World → Prop} {B b : Nat} {lim : Int} {l : List Int} {ov : Option Nat} {w w' : World} (st : Stays P ov) (h : QSep P B b lim l ov w) (k : Below w.heap.size w w') : QSep P B b lim l ov w' ∧ Below B w w' := by
  obtain ⟨vq, q, hf, hn⟩ := h.q
  exact QSep.did st h hf hn (QDid.same q k)

theorem spush_any (P : World → Prop) (B b : Nat) (lim : Int) (l : List Int) (ov : Option Nat) (n : Int) (w : World) (st : Stays P ov) (h : QSep P B b lim l ov w) (hl : l.length ≤ 1000) (hn1 : -9223372036854775808 ≤ n) (hn2 : n ≤ 9223372036854775807) :
    Calls Try.prog 32 #[.pointer (some ⟨b, 0, none⟩), .int .i64 n] w fun e w' => e = .returned (.int .i64 (pushE lim l n)) ∧ QSep P B b lim (pushL lim l n) ov w' ∧ Below B w w' := by
  obtain ⟨vq, q, f, hn⟩ := h.q
  cases hh : hasI l n with
  | true =>
    refine (qpush_same b lim vq l n w q hh).mono ?_
    rintro e w' ⟨rfl, rfl⟩
    rw [pushL, pushE_has hh, if_neg (by decide)]
    exact ⟨rfl, h, Below.refl _ _⟩
  | false =>
    by_cases h2 : (l.length : Int) = lim
    · refine (qpush_full b lim vq l n w q hh h2).mono ?_
      rintro e w' ⟨rfl, hb⟩
      rw [pushL, pushE_full hh h2, if_neg (by decide)]
      exact ⟨rfl, QSep.below st h hb⟩
    · refine (qpush_ok b lim vq l n w q (by omega) hn1 hn2 hh h2).mono ?_
      rintro e w' ⟨rfl, hd⟩
      rw [pushL, pushE_ok hh h2, if_pos rfl]
      exact ⟨rfl, QSep.did st h f hn hd⟩

theorem spop_any (P : World → Prop) (B b : Nat) (lim : Int) (l : List Int) (ov : Option Nat) (w : World) (st : Stays P ov) (h : QSep P B b lim l ov w) (hl : l.length ≤ 1000) :
    Calls Try.prog 34 #[.pointer (some ⟨b, 0, none⟩)] w fun e w' => e = .returned (.tuple #[.int .i64 (l.headD 0), .int .i64 (popE l)]) ∧ QSep P B b lim l.tail ov w' ∧ Below B w w' := by
  obtain ⟨vq, q, f, hn⟩ := h.q
  cases l with
  | nil =>
    refine (qpop_none b lim vq w q).mono ?_
    rintro e w' ⟨rfl, rfl⟩
    exact ⟨rfl, h, Below.refl _ _⟩
  | cons x l =>
    refine (qpop_ok b lim vq x l w q (by simp at hl; omega)).mono ?_
    rintro e w' ⟨rfl, hd⟩
    exact ⟨rfl, QSep.did st h f hn hd⟩

theorem srot_any (P : World → Prop) (B b : Nat) (lim : Int) (l : List Int) (ov : Option Nat) (w : World) (st : Stays P ov) (h : QSep P B b lim l ov w) (hl : l.length ≤ 1000) :
    Calls Try.prog 37 #[.pointer (some ⟨b, 0, none⟩)] w fun e w' => e = .returned (.tuple #[]) ∧ QSep P B b lim (rotL l) ov w' ∧ Below B w w' := by
  obtain ⟨vq, q, f, hn⟩ := h.q
  cases l with
  | nil =>
    refine (qrot_none b lim vq w q).mono ?_
    rintro e w' ⟨rfl, rfl⟩
    exact ⟨rfl, h, Below.refl _ _⟩
  | cons x l =>
    refine (qrot_ok b lim vq x l w q (by simp at hl; omega)).mono ?_
    rintro e w' ⟨rfl, hd⟩
    exact ⟨rfl, QSep.did st h f hn hd⟩

theorem QSep.live {P : World → Prop} {B b : Nat} {lim : Int} {l : List Int} {ov : Option Nat} {w : World} (h : QSep P B b lim l ov w) : QLive B b lim l w := by
  obtain ⟨vq, q, f, hn⟩ := h.q
  exact ⟨⟨vq, q, f⟩, h.hb⟩

/-- an append to the row beside the queue -/
theorem QSep.app {B b : Nat} {lim : Int} {l m : List Int} {n : Int} {v v' : Value} {w w' : World} (h : QSep (fun w => OwnI w 3 v m) B b lim l v.ownBlock w) (hfr : FreshV B v)
    (ho : OwnI w' 3 v' (m ++ [n])) (k : Keep (fun k => v.ownBlock = some k) w w') (f : ∀ g, v'.ownBlock = some g → v.ownBlock = some g ∨ w.heap.size ≤ g) :
    QSep (fun w => OwnI w 3 v' (m ++ [n])) B b lim l v'.ownBlock w' ∧ Below B w w' ∧ FreshV B v' := by
  obtain ⟨vq, q, hf, hn⟩ := h.q
  have hq := q.keep k (fun e => h.nb e) (fun g hg e => hn g e hg)
  refine ⟨⟨⟨vq, hq, hf, fun g hg hv => ?_⟩, fun e => ?_, fun g hg => Own.lt ho g hg, h.hb, ho, Nat.le_trans h.sz k.size⟩, k.below h.sz (fun j hj hs => ?_), hfr.step h.sz f⟩
  · rcases f g hg with h1 | h1
    · exact hn g h1 hv
    · have := Own.lt q.row g hv; omega
  · rcases f b e with h1 | h1
    · exact h.nb h1
    · have := q.box.lt; omega
  · have := hfr j hs; omega

theorem stays_own (v : Value) (m : List Int) : Stays (fun w => OwnI w 3 v m) v.ownBlock := fun S w w' h k hs => OwnI.keep h k hs

/-- what is pushed, one behind the other -/
def pushAll (l : List Int) : List Int := l.foldl (pushL 1000) []
theorem pushAll_take {l : List Int} {k : Nat} {x : Int} (hx : l[k]? = some x) : pushAll (l.take (k + 1)) = pushL 1000 (pushAll (l.take k)) x := by
  unfold pushAll
  rw [take_snoc hx, List.foldl_append]
  rfl
theorem pushL_len (lim : Int) (l : List Int) (x : Int) : (pushL lim l x).length ≤ l.length + 1 := by
  unfold pushL
  split
  · simp
  · omega
theorem pushAll_len (l : List Int) (k : Nat) (h : l.length ≤ 100) : (pushAll (l.take k)).length ≤ 100 := by
  have : ∀ (m a : List Int), (m.foldl (pushL 1000) a).length ≤ a.length + m.length := by
    intro m
    induction m with
    | nil => intro a; simp
    | cons x m ih => intro a; have := ih (pushL 1000 a x); have := pushL_len 1000 a x; simp only [List.foldl_cons, List.length_cons]; omega
  have := this (l.take k) []
  simp at this
  unfold pushAll
  omega
theorem pushAll_bd {l : List Int} (hb : ∀ x ∈ l, -9223372036854775808 ≤ x ∧ x ≤ 9223372036854775807) (k : Nat) : ∀ x ∈ pushAll (l.take k), -9223372036854775808 ≤ x ∧ x ≤ 9223372036854775807 := by
  have : ∀ (m a : List Int), (∀ x ∈ m.foldl (pushL 1000) a, x ∈ a ∨ x ∈ m) := by
    intro m
    induction m with
    | nil => intro a x hx; exact .inl hx
    | cons y m ih =>
      intro a x hx
      rcases ih _ x hx with h | h
      · unfold pushL at h
        split at h
        · rcases List.mem_append.1 h with h | h
          · exact .inl h
          · simp at h; subst h; exact .inr (by simp)
        · exact .inl h
      · exact .inr (by simp [h])
  intro x hx
  rcases this (l.take k) [] x hx with h | h
  · cases h
  · exact hb x (List.mem_of_mem_take h)
theorem pushE_short {l : List Int} {n : Int} (h : hasI l n = false) (hl : l.length ≤ 100) : pushE 1000 l n = 0 := pushE_ok h (by omega)
theorem pushL_short {l : List Int} {n : Int} (h : hasI l n = false) (hl : l.length ≤ 100) : pushL 1000 l n = l ++ [n] := by unfold pushL; rw [if_pos (pushE_short h hl)]
theorem pushL_has {lim : Int} {l : List Int} {n : Int} (h : hasI l n = true) : pushL lim l n = l := by unfold pushL; rw [pushE_has h]; rfl

theorem headD_drop {l : List Int} {k : Nat} {x : Int} (hx : l[k]? = some x) : (l.drop k).headD 0 = x := by
  obtain ⟨hk, rfl⟩ := List.getElem?_eq_some_iff.1 hx
  rw [List.drop_eq_getElem_cons hk]
  rfl
theorem popE_drop {l : List Int} {k : Nat} (h : k < l.length) : popE (l.drop k) = 0 := by unfold popE; rw [if_neg (by simp; omega)]

set_option maxRecDepth 100000 in
set_option maxHeartbeats 4000000 in
theorem lawQueueOrder {v : Value} {L : List Int} {w : World} (hv : RInts w v L) :
    Calls Try.prog 7 #[v] w fun e w' => e = .returned (.bool true) ∧ Below w.heap.size w w' := by
  have HV := Lib.hid hv
  obtain ⟨a, cap, rfl, hc1, hc2⟩ := hv.shape
  clear hv
  by_cases hbig : 100 < L.length
  · go_enter Try.func7, Try.ntmps7
    go_wp2_with fail
    refine (qthree_any _).mono ?_
    rintro e w1 ⟨rfl, hb⟩
    go_wp2
    go_ret
    exact ⟨rfl, hb⟩
  · have HL := Lib.hid (show L.length ≤ 100 by omega)
    have hbig2 : ¬ ((100 : Int) < (L.length : Int)) := by omega
    clear hbig
    go_enter Try.func7, Try.ntmps7
    go_wp2_with fail
    refine (qnew_ok 1000 _ (by decide) (by decide)).mono ?_
    rintro e w1 ⟨b, rfl, q0, hb0, hs0⟩
    have HQ := Lib.hid (show QSep (fun w => OwnI w 3 (.slice none 0 0) []) w.heap.size b 1000 [] (Value.slice none 0 0).ownBlock w1 from ⟨⟨_, q0, FreshV.nil _, fun g hg => by simp [Value.ownBlock] at hg⟩, by simp [Value.ownBlock], fun g hg => by simp [Value.ownBlock] at hg, hs0, OwnI.nil _ _, hb0.size⟩)
    clear q0
    go_wp2
    go_loopw [5, 7, 8, 25] (fun v' x f i wr => ∃ k : Nat, k ≤ L.length ∧ i = .int .i64 k ∧ Hid (QSep (fun w => OwnI w 3 v' (pushAll (L.take k))) w.heap.size b 1000 (pushAll (L.take k)) v'.ownBlock wr) ∧ Hid (FreshV w.heap.size v') ∧ Below w.heap.size w wr) (fun _ _ _ i _ => L.length - (intOf i).toNat)
    case atStart => exact ⟨0, Nat.zero_le _, rfl, HQ.out, FreshV.nil _, hb0⟩
    case round =>
      obtain ⟨k, hk, rfl, HQ, HFR, hbel⟩ := hrel
      have hsz := hbel.size
      by_cases hlt : k < L.length
      · obtain ⟨b2, off, x, rfl, hbb, hx, hcx, hx1, hx2⟩ := (HV.out.below hbel).at hlt
        have HS := Lib.hid (pushAll_take hx)
        have HLEN := Lib.hid (pushAll_len L k HL.out)
        have HBD := Lib.hid (pushAll_bd HV.out.2 k)
        clear hx
        obtain ⟨Wk, hWk⟩ : ∃ W, pushAll (L.take k) = W := ⟨_, rfl⟩
        rw [hWk] at HS HLEN HQ HBD
        clear hWk
        go_wp2_with fail
        refine (spush_any _ _ b 1000 Wk _ x _ (stays_own _ _) HQ.out (by have := HLEN.out; omega) hx1 hx2).mono ?_
        rintro e w2 ⟨rfl, hq2, hb2⟩
        have hbel2 := hbel.trans hb2
        cases hh : hasI Wk x with
        | true =>
          rw [pushE_has hh]
          rw [pushL_has hh] at hq2 HS
          have HQ2 := Lib.hid hq2
          have hp := (placeI_has Wk x).2 hh
          have HPL := Lib.hid (place_any _ Wk x w2 (OwnI.reads hq2.p HBD.out))
          obtain ⟨r, hr⟩ : ∃ r, placeI Wk x = r := ⟨_, rfl⟩
          rw [hr] at HPL hp
          clear hq2 hh hb2 hr
          go_wp2_with fail
          refine HPL.out.mono ?_
          rintro e w3 ⟨rfl, rfl⟩
          clear HPL
          go_wp2
          go_roundw
          case rel => exact ⟨k + 1, by omega, by go_num, by rw [HS.out]; exact HQ2.out, HFR.out, hbel2⟩
          case measure => simp [intOf]; omega
        | false =>
          rw [pushE_short hh HLEN.out]
          rw [pushL_short hh HLEN.out] at hq2 HS
          have HQ2 := Lib.hid hq2
          have hp : placeI Wk x < 0 := by
            have := placeI_has Wk x
            rw [hh] at this
            simp at this
            exact this
          have HPL := Lib.hid (place_any _ Wk x w2 (OwnI.reads hq2.p HBD.out))
          obtain ⟨r, hr⟩ : ∃ r, placeI Wk x = r := ⟨_, rfl⟩
          rw [hr] at HPL hp
          have hown : OwnI w2 3 _ Wk := hq2.p
          clear hq2 hh hb2 hr
          go_wp2_with fail
          refine HPL.out.mono ?_
          rintro e w3 ⟨rfl, rfl⟩
          clear HPL
          go_wp2_with (at_builtin; refine wpList_append_int _ _ rfl _ _ 22 rfl 3 Try.underlying22 intinfo _ Wk _ _ rfl rfl rfl hown (by have := HLEN.out; omega) ?_)
          intro v2 w4 ho4 hk4 hf4
          have hA := QSep.app HQ2.out HFR.out ho4 hk4 hf4
          have HQ4 := Lib.hid hA.1
          have HF4 := Lib.hid hA.2.2
          have hbel4 := hbel2.trans hA.2.1
          clear hown ho4 hk4 hf4 hA hbel2
          go_wp2
          go_roundw
          case rel => exact ⟨k + 1, by omega, by go_num, by rw [HS.out]; exact HQ4.out, HF4.out, hbel4⟩
          case measure => simp [intOf]; omega
      · obtain rfl : k = L.length := by omega
        have HLEN := Lib.hid (pushAll_len L L.length HL.out)
        have HBD := Lib.hid (pushAll_bd HV.out.2 L.length)
        obtain ⟨m, hm⟩ : ∃ W, pushAll (L.take L.length) = W := ⟨_, rfl⟩
        rw [hm] at HLEN HQ HBD
        clear hm
        obtain ⟨a2, cap2, hve, hca, hcb⟩ := (OwnI.reads HQ.out.p HBD.out).shape
        subst hve
        go_wp2
        go_loopw [10, 11, 12, 56] (fun x y f i wr => ∃ j : Nat, j ≤ m.length ∧ i = .int .i64 j ∧ Hid (QSep (fun w => OwnI w 3 (.slice a2 m.length cap2) m) w.heap.size b 1000 (m.drop j) (Value.slice a2 m.length cap2).ownBlock wr) ∧ Below w.heap.size w wr) (fun _ _ _ i _ => m.length - (intOf i).toNat)
        case atStart => exact ⟨0, Nat.zero_le _, rfl, HQ.out, hbel⟩
        case round =>
          obtain ⟨j, hj, rfl, HQ2, hbel2⟩ := hrel
          have hsz2 := hbel2.size
          by_cases hlt2 : j < m.length
          · obtain ⟨b2, off, x, rfl, hbb, hx, hcx, hx1, hx2⟩ := (OwnI.reads HQ2.out.p HBD.out).at hlt2
            have hhd := headD_drop hx
            have hpe := popE_drop hlt2
            clear hx
            go_wp2_with fail
            refine (spop_any _ _ b 1000 _ _ _ (stays_own _ _) HQ2.out (by have := HLEN.out; simp; omega)).mono ?_
            rintro e w3 ⟨rfl, hq3, hb3⟩
            rw [hhd, hpe]
            have hbel3 := hbel2.trans hb3
            rw [List.tail_drop] at hq3
            have HQ3 := Lib.hid hq3
            clear hq3 hb3 hhd hpe hbel2
            go_wp2
            go_roundw
            case rel => exact ⟨j + 1, by omega, by go_num, HQ3.out, hbel3⟩
            case measure => simp [intOf]; omega
          · obtain rfl : j = m.length := by omega
            have hq3 := HQ2.out
            rw [List.drop_length] at hq3
            have HQ3 := Lib.hid hq3
            clear hq3
            go_wp2_with fail
            refine (spop_any _ _ b 1000 _ _ _ (stays_own _ _) HQ3.out (by decide)).mono ?_
            rintro e w3 ⟨rfl, hq3, hb3⟩
            have hbel3 := hbel2.trans hb3
            rw [show popE [] = 6 by decide, show ([] : List Int).headD 0 = 0 from rfl]
            clear hq3 hb3 hbel2
            go_wp2_with fail
            refine (qthree_any _).mono ?_
            rintro e w4 ⟨rfl, hb4⟩
            have hbel4 := hbel3.trans (below_of hb4 hbel3.size)
            clear hb4 hbel3
            go_wp2
            go_ret
            exact ⟨rfl, hbel4⟩

end Go.Proofs.Ytfphdcfbkknpbaa

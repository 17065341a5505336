/- Package queue: Push, Pop, Remove, Rotate. -/
import Derived.Test.YtmgjmpmcadjemaaQueA
namespace Go.Proofs.Ytmgjmpmcadjemaa
open Go.RowKit

theorem QueueAt.put {b : Nat} {lim : Int} {vq v' : Value} {l l' : List Int} {w w' : World} (h : QueueAt w b lim vq l) (k : Keep (fun j => vq.ownBlock = some j) w w')
    (ho : OwnI w' 3 v' l') (hf : ∀ g, v'.ownBlock = some g → vq.ownBlock = some g ∨ w.heap.size ≤ g) (hbd : ∀ x ∈ l', -9223372036854775808 ≤ x ∧ x ≤ 9223372036854775807) :
    QDid b lim vq l' w (w'.setCell ⟨b, 1, none⟩ v') := by
  have hlt := h.box.lt
  have hne : v'.ownBlock ≠ some b := fun e => by
    rcases hf b e with h1 | h1
    · exact h.ne h1
    · omega
  refine ⟨v', ⟨?_, ?_, hbd, hne⟩, ?_, hf⟩
  · exact (h.box.keep k (fun e => h.ne e)).set 1 v'
  · exact ho.keep (keep_setCell (S := fun j => j = b) (Keep.refl _ _) (a := ⟨b, 1, none⟩) rfl v') (fun g hg e => hne (by rw [hg, e]))
  · exact keep_setCell (S := fun j => j = b ∨ vq.ownBlock = some j) (k.mono fun _ _ h => Or.inr h) (a := ⟨b, 1, none⟩) (Or.inl rfl) v'

theorem QDid.trans {b : Nat} {lim : Int} {vq vq1 : Value} {l1 l2 : List Int} {w w1 w2 : World} (h1 : QueueAt w1 b lim vq1 l1) (k1 : Keep (fun j => j = b ∨ vq.ownBlock = some j) w w1)
    (f1 : ∀ g, vq1.ownBlock = some g → vq.ownBlock = some g ∨ w.heap.size ≤ g) (h2 : QDid b lim vq1 l2 w1 w2) : QDid b lim vq l2 w w2 := by
  obtain ⟨vq2, q2, k2, f2⟩ := h2
  refine ⟨vq2, q2, ⟨k2.os.trans k1.os, k2.tape.trans k1.tape, k2.output.trans k1.output, Nat.le_trans k1.size k2.size, fun i hi hs => ?_⟩, fun g hg => ?_⟩
  · rw [k2.block i (Nat.lt_of_lt_of_le hi k1.size) (fun h => hs ?_)]
    · exact k1.block i hi hs
    · rcases h with h | h
      · exact .inl h
      · rcases f1 i h with h | h
        · exact .inr h
        · omega
  · rcases f2 g hg with h | h
    · exact f1 g h
    · exact .inr (Nat.le_trans k1.size h)

set_option maxRecDepth 100000 in
set_option maxHeartbeats 1000000 in
theorem qpush_ok (b : Nat) (lim : Int) (vq : Value) (l : List Int) (n : Int) (w : World) (h : QueueAt w b lim vq l) (hl : l.length ≤ 1000000) (hn1 : -9223372036854775808 ≤ n) (hn2 : n ≤ 9223372036854775807)
    (hno : hasI l n = false) (hlim : (l.length : Int) ≠ lim) :
    Calls Try.prog 59 #[.pointer (some ⟨b, 0, none⟩), .int .i64 n] w fun e w' => e = .returned (.int .i64 0) ∧ QDid b lim vq (l ++ [n]) w w' := by
  have HH := Lib.hid (qhas_any b lim vq l n w h)
  rw [hno] at HH
  have hc1 := h.box.cell (i := 1) (x := vq) rfl
  have hc0 := h.box.cell (i := 0) (x := .int .i64 lim) rfl
  have hf1 := h.box.free 1
  obtain ⟨a, cap, rfl, _, _⟩ := h.reads.shape
  have hll : ((l.length : Int) == lim) = false := beq_eq_false_iff_ne.2 hlim
  have HQ := Lib.hid h
  have hbd2 := Lib.hid (show ∀ x ∈ l ++ [n], -9223372036854775808 ≤ x ∧ x ≤ 9223372036854775807 from fun x hx => by
    rcases List.mem_append.1 hx with hx | hx
    · exact h.bd x hx
    · simp at hx; subst hx; exact ⟨hn1, hn2⟩)
  have HL := Lib.hid hl
  clear h hno hlim hl
  go_enter Try.func59, Try.ntmps59
  go_wp2_with fail
  refine HH.out.mono ?_
  rintro e w' ⟨rfl, rfl⟩
  clear HH
  go_wp2
  go_quiet (fail)
  have hbd : ∀ j, Below w.heap.size w (w.drewN j) := fun j => below_drawn ⟨j, rfl⟩
  have hq1 : ∀ j, QueueAt (w.drewN j) b lim (.slice a l.length cap) l := fun j => HQ.out.below (hbd j)
  have hown : ∀ j, OwnI (w.drewN j) 3 (.slice a l.length cap) l := fun j => (hq1 j).row
  go_wp2_with (at_builtin; refine wpList_append_int _ _ rfl _ _ 28 rfl 3 Try.underlying28 intinfo _ l _ _ rfl rfl rfl (hown _) (by have := HL.out; omega) ?_)
  intro v1 w1 ho1 hk1 hf1
  have hc := ((hq1 _).box.keep hk1 (hq1 0).ne).cell (i := 1) (x := _) rfl
  have hfr := ((hq1 _).box.keep hk1 (hq1 0).ne).free 1
  have HD := Lib.hid (QDid.trans (hq1 _) (Keep.of_below (hbd _) _) (fun g hg => .inl hg) ((hq1 _).put hk1 ho1 hf1 hbd2.out))
  obtain ⟨a1, cap1, hv1, _, _⟩ := (ho1.reads hbd2.out).shape
  subst hv1
  clear hown hq1 ho1 hk1 hf1 hbd
  go_wp2
  go_ret
  exact ⟨rfl, by have := HD.out; rwa [List.length_append] at this⟩

set_option maxHeartbeats 400000 in
theorem qpush_same (b : Nat) (lim : Int) (vq : Value) (l : List Int) (n : Int) (w : World) (h : QueueAt w b lim vq l) (hno : hasI l n = true) :
    Calls Try.prog 59 #[.pointer (some ⟨b, 0, none⟩), .int .i64 n] w fun e w' => e = .returned (.int .i64 8) ∧ w = w' := by
  have HH := Lib.hid (qhas_any b lim vq l n w h)
  rw [hno] at HH
  clear h hno
  go_enter Try.func59, Try.ntmps59
  go_wp2_with fail
  refine HH.out.mono ?_
  rintro e w' ⟨rfl, rfl⟩
  clear HH
  go_wp2
  go_ret
  exact ⟨rfl, rfl⟩

set_option maxRecDepth 100000 in
set_option maxHeartbeats 400000 in
theorem qpush_full (b : Nat) (lim : Int) (vq : Value) (l : List Int) (n : Int) (w : World) (h : QueueAt w b lim vq l) (hno : hasI l n = false) (hlim : (l.length : Int) = lim) :
    Calls Try.prog 59 #[.pointer (some ⟨b, 0, none⟩), .int .i64 n] w fun e w' => e = .returned (.int .i64 5) ∧ Below w.heap.size w w' := by
  have HH := Lib.hid (qhas_any b lim vq l n w h)
  rw [hno] at HH
  have hc1 := h.box.cell (i := 1) (x := vq) rfl
  have hc0 := h.box.cell (i := 0) (x := .int .i64 lim) rfl
  obtain ⟨a, cap, rfl, _, _⟩ := h.reads.shape
  have hll : ((l.length : Int) == lim) = true := by rw [hlim]; exact beq_self_eq_true _
  clear h hno hlim
  go_enter Try.func59, Try.ntmps59
  go_wp2_with fail
  refine HH.out.mono ?_
  rintro e w' ⟨rfl, rfl⟩
  clear HH
  go_wp2
  go_quiet (fail)
  go_wp2
  go_ret
  exact ⟨rfl, below_drawn ⟨_, rfl⟩⟩
theorem qpush_nil (n : Int) (w : World) : Calls Try.prog 59 #[.pointer none, .int .i64 n] w fun e w' => e = .returned (.int .i64 7) ∧ w = w' := by
  go_enter Try.func59, Try.ntmps59
  go_wp2
  go_ret
  exact ⟨rfl, rfl⟩

set_option maxRecDepth 100000 in
set_option maxHeartbeats 1000000 in
theorem qpop_ok (b : Nat) (lim : Int) (vq : Value) (x : Int) (l : List Int) (w : World) (h : QueueAt w b lim vq (x :: l)) (hl : l.length < 1000000) :
    Calls Try.prog 76 #[.pointer (some ⟨b, 0, none⟩)] w fun e w' => e = .returned (.tuple #[.int .i64 x, .int .i64 0]) ∧ QDid b lim vq l w w' := by
  have HF := Lib.hid (qfront_any b lim vq x l w h (by omega))
  have HW := Lib.hid (qwithout_any vq (x :: l) 0 w h.reads (by simp) (by simp; omega))
  have hc1 := h.box.cell (i := 1) (x := vq) rfl
  have HQ := Lib.hid h
  clear h hl
  go_enter Try.func76, Try.ntmps76
  go_wp2_with fail
  refine HF.out.mono ?_
  rintro e w' ⟨rfl, rfl⟩
  clear HF
  go_wp2_with fail
  refine HW.out.mono ?_
  rintro e w1 ⟨v1, rfl, ho1, hf1, hb1⟩
  clear HW
  have hq1 := HQ.out.below hb1
  have hc := hq1.box.cell (i := 1) (x := _) rfl
  have hfr := hq1.box.free 1
  have HD := Lib.hid (HQ.out.put (Keep.of_below hb1 _) ho1 (fun g hg => .inr (hf1 g hg)) (fun y hy => HQ.out.bd y (by simp at hy; simp [hy])))
  obtain ⟨a1, cap1, hv1, _, _⟩ := (ho1.reads (fun y hy => HQ.out.bd y (List.mem_of_mem_eraseIdx hy))).shape
  subst hv1
  clear ho1 hf1 hq1 hc1 hb1
  go_wp2
  go_ret2
  exact ⟨rfl, by simpa using HD.out⟩
set_option maxHeartbeats 400000 in
theorem qpop_none (b : Nat) (lim : Int) (vq : Value) (w : World) (h : QueueAt w b lim vq []) :
    Calls Try.prog 76 #[.pointer (some ⟨b, 0, none⟩)] w fun e w' => e = .returned (.tuple #[.int .i64 0, .int .i64 6]) ∧ w = w' := by
  have HF := Lib.hid (qfront_none b lim vq w h)
  clear h
  go_enter Try.func76, Try.ntmps76
  go_wp2_with fail
  refine HF.out.mono ?_
  rintro e w' ⟨rfl, rfl⟩
  clear HF
  go_wp2
  go_ret2
  exact ⟨rfl, rfl⟩
set_option maxHeartbeats 400000 in
theorem qpop_nil (w : World) : Calls Try.prog 76 #[.pointer none] w fun e w' => e = .returned (.tuple #[.int .i64 0, .int .i64 7]) ∧ w = w' := by
  have HF := Lib.hid (qfront_nil w)
  go_enter Try.func76, Try.ntmps76
  go_wp2_with fail
  refine HF.out.mono ?_
  rintro e w' ⟨rfl, rfl⟩
  clear HF
  go_wp2
  go_ret2
  exact ⟨rfl, rfl⟩

set_option maxRecDepth 100000 in
set_option maxHeartbeats 1000000 in
theorem qrem_ok (b : Nat) (lim : Int) (vq : Value) (l : List Int) (n : Int) (k : Nat) (w : World) (h : QueueAt w b lim vq l) (hp : placeI l n = k) (hk : k < l.length) (hl : l.length ≤ 1000000) :
    Calls Try.prog 77 #[.pointer (some ⟨b, 0, none⟩), .int .i64 n] w fun e w' => e = .returned (.int .i64 0) ∧ QDid b lim vq (l.eraseIdx k) w w' := by
  have HI := Lib.hid (index_any vq l n w h.reads)
  rw [hp] at HI
  have HW := Lib.hid (qwithout_any vq l k w h.reads hk hl)
  have hc1 := h.box.cell (i := 1) (x := vq) rfl
  have HQ := Lib.hid h
  clear h hl hp
  go_enter Try.func77, Try.ntmps77
  go_wp2_with fail
  refine HI.out.mono ?_
  rintro e w' ⟨rfl, rfl⟩
  clear HI
  go_wp2_with fail
  refine HW.out.mono ?_
  rintro e w1 ⟨v1, rfl, ho1, hf1, hb1⟩
  clear HW
  have hq1 := HQ.out.below hb1
  have hc := hq1.box.cell (i := 1) (x := _) rfl
  have hfr := hq1.box.free 1
  have HD := Lib.hid (HQ.out.put (Keep.of_below hb1 _) ho1 (fun g hg => .inr (hf1 g hg)) (fun y hy => HQ.out.bd y (List.mem_of_mem_eraseIdx hy)))
  obtain ⟨a1, cap1, hv1, _, _⟩ := (ho1.reads (fun y hy => HQ.out.bd y (List.mem_of_mem_eraseIdx hy))).shape
  subst hv1
  clear ho1 hf1 hq1 hc1 hb1
  go_wp2
  go_ret
  exact ⟨rfl, HD.out⟩
set_option maxHeartbeats 400000 in
theorem qrem_none (b : Nat) (lim : Int) (vq : Value) (l : List Int) (n : Int) (w : World) (h : QueueAt w b lim vq l) (hp : hasI l n = false) :
    Calls Try.prog 77 #[.pointer (some ⟨b, 0, none⟩), .int .i64 n] w fun e w' => e = .returned (.int .i64 6) ∧ w = w' := by
  have HI := Lib.hid (index_any vq l n w h.reads)
  have hneg : placeI l n < 0 := by
    have := placeI_has l n
    rw [hp] at this
    simp at this
    exact this
  obtain ⟨r, hr⟩ : ∃ r, placeI l n = r := ⟨_, rfl⟩
  rw [hr] at HI hneg
  have hc1 := h.box.cell (i := 1) (x := vq) rfl
  clear h hp hr
  go_enter Try.func77, Try.ntmps77
  go_wp2_with fail
  refine HI.out.mono ?_
  rintro e w' ⟨rfl, rfl⟩
  clear HI
  go_wp2
  go_ret
  exact ⟨rfl, rfl⟩
theorem qrem_nil (n : Int) (w : World) : Calls Try.prog 77 #[.pointer none, .int .i64 n] w fun e w' => e = .returned (.int .i64 7) ∧ w = w' := by
  go_enter Try.func77, Try.ntmps77
  go_wp2
  go_ret
  exact ⟨rfl, rfl⟩

set_option maxRecDepth 100000 in
set_option maxHeartbeats 1000000 in
theorem qrot_ok (b : Nat) (lim : Int) (vq : Value) (x : Int) (l : List Int) (w : World) (h : QueueAt w b lim vq (x :: l)) (hl : l.length < 1000000) :
    Calls Try.prog 62 #[.pointer (some ⟨b, 0, none⟩)] w fun e w' => e = .returned (.tuple #[]) ∧ QDid b lim vq (l ++ [x]) w w' := by
  have HP := Lib.hid (qpop_ok b lim vq x l w h hl)
  have HB := Lib.hid h.bd
  have HL := Lib.hid hl
  clear h hl
  go_enter Try.func62, Try.ntmps62
  go_wp2_with fail
  refine HP.out.mono ?_
  rintro e w1 ⟨rfl, vq1, hq1, hk1, hf1⟩
  clear HP
  have HQ1 := Lib.hid hq1
  have HK1 := Lib.hid hk1
  have HF1 := Lib.hid hf1
  have hc1 := hq1.box.cell (i := 1) (x := vq1) rfl
  have hown := hq1.row
  clear hq1 hk1 hf1
  go_wp2_with (at_builtin; refine wpList_append_int _ _ rfl _ _ 28 rfl 3 Try.underlying28 intinfo _ l _ _ rfl rfl rfl hown (by have := HL.out; omega) ?_)
  intro v2 w2 ho2 hk2 hf2
  have hc := (HQ1.out.box.keep hk2 (fun e => HQ1.out.ne e)).cell (i := 1) (x := _) rfl
  have hfr := (HQ1.out.box.keep hk2 (fun e => HQ1.out.ne e)).free 1
  have HD := Lib.hid (QDid.trans HQ1.out HK1.out HF1.out (HQ1.out.put hk2 ho2 hf2 (fun y hy => by
    rcases List.mem_append.1 hy with hy | hy
    · exact HQ1.out.bd y hy
    · simp at hy; subst hy; exact HB.out y (by simp))))
  obtain ⟨a1, cap1, hv1, _, _⟩ := (ho2.reads (fun y hy => by
    rcases List.mem_append.1 hy with hy | hy
    · exact HQ1.out.bd y hy
    · simp at hy; subst hy; exact HB.out y (by simp))).shape
  subst hv1
  clear hown ho2 hk2 hf2 hc1
  go_wp2
  first | go_end0 | refine bodyPost_ret (results_none rfl _ _ _) rfl ?_
  exact ⟨rfl, by have := HD.out; rwa [List.length_append] at this⟩
set_option maxHeartbeats 400000 in
theorem qrot_none (b : Nat) (lim : Int) (vq : Value) (w : World) (h : QueueAt w b lim vq []) :
    Calls Try.prog 62 #[.pointer (some ⟨b, 0, none⟩)] w fun e w' => e = .returned (.tuple #[]) ∧ w = w' := by
  have HP := Lib.hid (qpop_none b lim vq w h)
  clear h
  go_enter Try.func62, Try.ntmps62
  go_wp2_with fail
  refine HP.out.mono ?_
  rintro e w1 ⟨rfl, rfl⟩
  clear HP
  go_wp2
  first | go_end0 | refine bodyPost_ret (results_none rfl _ _ _) rfl ?_
  exact ⟨rfl, rfl⟩
set_option maxHeartbeats 400000 in
theorem qrot_nil (w : World) : Calls Try.prog 62 #[.pointer none] w fun e w' => e = .returned (.tuple #[]) ∧ w = w' := by
  have HP := Lib.hid (qpop_nil w)
  go_enter Try.func62, Try.ntmps62
  go_wp2_with fail
  refine HP.out.mono ?_
  rintro e w1 ⟨rfl, rfl⟩
  clear HP
  go_wp2
  first | go_end0 | refine bodyPost_ret (results_none rfl _ _ _) rfl ?_
  exact ⟨rfl, rfl⟩

end Go.Proofs.Ytmgjmpmcadjemaa

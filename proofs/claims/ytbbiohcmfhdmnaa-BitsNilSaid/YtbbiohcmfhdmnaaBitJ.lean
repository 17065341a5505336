/- Package bits: BitsReads. -/
import Derived.Test.YtbbiohcmfhdmnaaBitI
namespace Go.Proofs.Ytbbiohcmfhdmnaa
open Go.RowKit

/-- a state's value -/
def stV (s : ByteArray) (at_ d : Nat) : Value := .agg #[.string s, .int .i64 (at_ : Int), .int .i64 (d : Int)]

theorem on_any (s : ByteArray) (at_ d : Nat) (a2 : Int) (w : World) :
    Calls Try.prog 55 #[.agg #[.string s, .int .i64 (at_ : Int), .int .i64 (d : Int)], .int .i64 a2] w fun e w' => e = .returned (.agg #[.string s, .int .i64 a2, .int .i64 (d : Int)]) ∧ Below w.heap.size w w' := by
  go_enter Try.func55, Try.ntmps55
  go_wp2
  exact bodyPost_ret (v := .agg #[.string s, .int .i64 a2, .int .i64 (d : Int)]) (by simp [results, Try.results55, go_sem]) rfl ⟨rfl, ((Below.refl _ _).alloc (Nat.le_refl _) _).alloc (by simp) _⟩

set_option maxRecDepth 100000 in
set_option maxHeartbeats 1000000 in
theorem fit_any (br : Nat) (S : List UInt8) (s : ByteArray) (d at_ : Nat) (w : World) (h : ReaderAt w br S d at_) (hs : s = stx (bitsL S)) (hl : S.length ≤ 1000) :
    Calls Try.prog 34 #[.agg #[.string s, .int .i64 (at_ : Int), .int .i64 (d : Int)], .pointer (some ⟨br, 0, none⟩)] w fun e w' => e = .returned (.bool true) ∧ Below w.heap.size w w' := by
  have hlo := h.lo
  have hhi := h.hi
  have hsz : s.size = 8 * S.length := by rw [hs, stx_size, bitsL_len]
  have hal := below_alloc w (.cells #[.string s, .int .i64 (at_ : Int), .int .i64 (d : Int)] 44 (0, 0))
  have HR := Lib.hid (h.below hal)
  have HAL := Lib.hid hal
  have HA := Lib.hid (fun w (h : ReaderAt w br S d at_) => rat_any br S d at_ w h)
  have HL := Lib.hid (fun w (h : ReaderAt w br S d at_) => rleft_any br S d at_ w h)
  have HH := Lib.hid (fun w (h : ReaderAt w br S d at_) => rheld_any br S d at_ w h)
  obtain ⟨lf, hlf⟩ : ∃ z, 8 * S.length - at_ = z := ⟨_, rfl⟩
  obtain ⟨hd, hhd⟩ : ∃ z, S.length - d = z := ⟨_, rfl⟩
  rw [hlf] at HL
  rw [hhd] at HH
  have e1 : IntKind.i64.wrap ((s.size : Int) - (at_ : Int)) = (lf : Int) := by rw [IntWalk.i64_in _ (by omega)]; omega
  have e2 : IntKind.i64.wrap ((s.size : Int) / 8 - (d : Int)) = (hd : Int) := by rw [IntWalk.i64_in _ (by omega)]; omega
  have t1 : ((at_ : Int) == (at_ : Int)) = true := by simp
  have t2 : ((lf : Int) == (lf : Int)) = true := by simp
  have t3 : ((hd : Int) == (hd : Int)) = true := by simp
  have t4 : ((hd : Int) == (s.size : Int) / 8 - (d : Int)) = true := by rw [beq_iff_eq]; omega
  have t5 : ((lf : Int) == (s.size : Int) - (at_ : Int)) = true := by rw [beq_iff_eq]; omega
  have b1 : s.size ≤ 8000 := by omega
  have b2 : d ≤ 1000 := by omega
  have b3 : at_ ≤ 8000 := by omega
  clear h hs hsz hlf hhd hal
  go_enter Try.func34, Try.ntmps34
  go_wp2
  go_quiet ((first | (go_at_call 23; exact Calls.quiet_of ((HA.out _ (HR.out.below (below_drewN (Below.refl _ _) _))).mono fun _ _ ⟨he, hw⟩ => ⟨he, 0, hw.symm⟩)) | (go_at_call 24; exact Calls.quiet_of (HL.out _ (HR.out.below (below_drewN (Below.refl _ _) _)))) | (go_at_call 37; exact Calls.quiet_of ((HH.out _ (HR.out.below (below_drewN (Below.refl _ _) _))).mono fun _ _ ⟨he, hw⟩ => ⟨he, 0, hw.symm⟩))))
  go_wp2
  go_ret
  exact ⟨rfl, below_drewN HAL.out _⟩

/-- a state behind a step -/
def Stepped (br : Nat) (S : List UInt8) (d at_ : Nat) (w : World) (e : Ending) (w' : World) : Prop :=
  ∃ s : ByteArray, e = .returned (.tuple #[.agg #[.string s, .int .i64 (at_ : Int), .int .i64 (d : Int)], .bool true]) ∧ s = stx (bitsL S) ∧ RDid br S d at_ w w'

theorem RDid.around {br : Nat} {S2 : List UInt8} {d2 a2 : Nat} {w w0 w1 w2 : World} (h0 : Below w.heap.size w w0) (hb : br < w.heap.size) (h1 : RDid br S2 d2 a2 w0 w1) (h2 : Below w.heap.size w1 w2) : RDid br S2 d2 a2 w w2 := by
  obtain ⟨r, k⟩ := h1
  have k2 : Keep (fun j => w.heap.size ≤ j) w1 w2 := ⟨h2.os, h2.tape, h2.output, h2.size, fun j _ hs => h2.block j (by omega)⟩
  refine ⟨r.keep k2 (by omega), ⟨h2.os.trans (k.os.trans h0.os), h2.tape.trans (k.tape.trans h0.tape), h2.output.trans (k.output.trans h0.output), ?_, fun j hj hs => ?_⟩⟩
  · have := h0.size; have := k.size; have := h2.size; omega
  · rw [h2.block j hj, k.block j (by have := h0.size; omega) hs, h0.block j hj]

theorem keep_far {w1 : World} {B2 : Nat} {u0 u1 u2 : Value} {b o : Nat} {x : Value} (h : w1.cell? ⟨b, o, none⟩ = some x) (n : ¬ b = B2) :
    (((w1.setCell ⟨B2, 0, none⟩ u0).setCell ⟨B2, 1, none⟩ u1).setCell ⟨B2, 2, none⟩ u2).drew.cell? ⟨b, o, none⟩ = some x := by
  have k : Keep (fun j => j = B2) w1 (((w1.setCell ⟨B2, 0, none⟩ u0).setCell ⟨B2, 1, none⟩ u1).setCell ⟨B2, 2, none⟩ u2).drew :=
    (keep_setCell (S := fun j => j = B2) (keep_setCell (S := fun j => j = B2) (keep_setCell (S := fun j => j = B2) (Keep.refl _ _) rfl _) rfl _) rfl _).trans (Keep.of_below (Below.drew (Below.refl _ _)) _)
  rw [← h]
  exact World.cell?_of_block (k.block b (World.block_lt_of_cell? w1 _ h) n)

set_option maxRecDepth 100000 in
set_option maxHeartbeats 1000000 in
theorem step_more (br : Nat) (S : List UInt8) (s : ByteArray) (d at_ : Nat) (x : OpB) (w : World) (h : ReaderAt w br S d at_) (hs : s = stx (bitsL S)) (hl : S.length + x.s.size ≤ 1000) (hk : x.k = 1) :
    Calls Try.prog 33 #[.agg #[.string s, .int .i64 (at_ : Int), .int .i64 (d : Int)], .pointer (some ⟨br, 0, none⟩), .agg (encO x).toArray] w (Stepped br (S ++ x.s.data.toList) d at_ w) := by
  obtain ⟨xk, xn, xv, xs⟩ := x
  dsimp only at hk hl ⊢
  subst hk
  have hlo := h.lo
  have hhi := h.hi
  have hsz : s.size = 8 * S.length := by rw [hs, stx_size, bitsL_len]
  have hxz : xs.size = xs.data.toList.length := rfl
  have h0 : Below w.heap.size w (((w.alloc (.cells #[.string s, .int .i64 (at_ : Int), .int .i64 (d : Int)] 44 (0, 0))).alloc (.cells #[.int .i64 1, .int .i64 xn, .int .u32 (xv : Int), .string xs] 29 (0, 0))).alloc (.cells #[.string ⟨#[]⟩, .int .i64 0, .int .i64 0] 44 (0, 0))) :=
    ((((Below.refl _ _).alloc (Nat.le_refl _) _).alloc (by simp) _).alloc (by simp; omega) _)
  have HM := Lib.hid (rmore_any br S xs.data.toList d at_ xs _ (h.below h0) (str_of xs) (by omega))
  have B0 := ((Blk.new w [.string s, .int .i64 (at_ : Int), .int .i64 (d : Int)] 44).below (below_alloc _ (.cells #[.int .i64 1, .int .i64 xn, .int .u32 (xv : Int), .string xs] 29 (0, 0)))).below (below_alloc _ (.cells #[.string ⟨#[]⟩, .int .i64 0, .int .i64 0] 44 (0, 0)))
  have B1 := (Blk.new (w.alloc (.cells #[.string s, .int .i64 (at_ : Int), .int .i64 (d : Int)] 44 (0, 0))) [.int .i64 1, .int .i64 xn, .int .u32 (xv : Int), .string xs] 29).below (below_alloc _ (.cells #[.string ⟨#[]⟩, .int .i64 0, .int .i64 0] 44 (0, 0)))
  have B2 := Blk.new ((w.alloc (.cells #[.string s, .int .i64 (at_ : Int), .int .i64 (d : Int)] 44 (0, 0))).alloc (.cells #[.int .i64 1, .int .i64 xn, .int .u32 (xv : Int), .string xs] 29 (0, 0))) [.string ⟨#[]⟩, .int .i64 0, .int .i64 0] 44
  simp only [World.size_alloc] at B1 B2
  have HB := Lib.hid (fun w => refbits_any xs xs.data.toList w (str_of xs) (by omega))
  obtain ⟨f, hf⟩ : ∃ f, stx (bitsL xs.data.toList) = f := ⟨_, rfl⟩
  have hfz : f.size ≤ 8000 := by rw [← hf, stx_size, bitsL_len]; omega
  have hsz2 : s.size ≤ 8000 := by omega
  have hcc : ¬ 9223372036854775807 < s.size + f.size := by omega
  have HSF := Lib.hid (show s ++ f = stx (bitsL (S ++ xs.data.toList)) by rw [hs, ← hf, stx_append, bitsL_append])
  rw [hf] at HB
  have HBR := Lib.hid h.box.lt
  have H0 := Lib.hid h0
  have HB0 := Lib.hid B0
  have HB1 := Lib.hid B1
  have HB2 := Lib.hid B2
  unfold encO
  clear h hs h0 B0 B1 B2 hf hsz hxz
  go_enter Try.func33, Try.ntmps33
  go_wp2_with fail
  refine HM.out.mono ?_
  rintro e w1 ⟨rfl, hd⟩
  have HD := Lib.hid hd
  have C0 := HB0.out.keep hd.2 (fun e => by have h : w.heap.size = br := e; have := HBR.out; omega)
  have C1 := HB1.out.keep hd.2 (fun e => by have h : w.heap.size + 1 = br := e; have := HBR.out; omega)
  have C2 := HB2.out.keep hd.2 (fun e => by have h : w.heap.size + 1 + 1 = br := e; have := HBR.out; omega)
  have c00 := C0.cell (i := 0) (x := .string s) rfl
  have c01 := C0.cell (i := 1) (x := .int .i64 (at_ : Int)) rfl
  have c02 := C0.cell (i := 2) (x := .int .i64 (d : Int)) rfl
  have c13 := C1.cell (i := 3) (x := .string xs) rfl
  have c20 := C2.cell (i := 0) rfl
  have c21 := C2.cell (i := 1) rfl
  have c22 := C2.cell (i := 2) rfl
  have f20 := C2.free 0
  have f21 := C2.free 1
  have f22 := C2.free 2
  have hb2 := C2.lt
  clear hd HM HB0 HB1 HB2 C0 C1 C2
  go_wp2
  have n2 : ¬ w.heap.size = w.heap.size + 1 + 1 := by omega
  have n3 : ¬ w.heap.size + 1 = w.heap.size + 1 + 1 := by omega
  go_region_held3 (fun w' => w'.cell? ⟨w.heap.size, 0, none⟩ = some (.string s) ∧ w'.cell? ⟨w.heap.size, 1, none⟩ = some (.int .i64 (at_ : Int)) ∧ w'.cell? ⟨w.heap.size, 2, none⟩ = some (.int .i64 (d : Int)) ∧ w'.cell? ⟨w.heap.size + 1, 3, none⟩ = some (.string xs)) (first | (with_reducible exact ⟨keep_far c00 n2, keep_far c01 n2, keep_far c02 n2, keep_far c13 n3⟩) | go_keep) ((go_at_call 32; refine (HB.out _).mono ?_; rintro e w9 ⟨rfl, rfl⟩))
  have HEND := Lib.hid (RDid.around H0.out HBR.out HD.out ((((Below.refl w.heap.size w1).setCell (p := ⟨w.heap.size + 1 + 1, 0, none⟩) (by simp; omega) (.string (s ++ f))).setCell (p := ⟨w.heap.size + 1 + 1, 1, none⟩) (by simp; omega) (.int .i64 (at_ : Int))).setCell (p := ⟨w.heap.size + 1 + 1, 2, none⟩) (by simp; omega) (.int .i64 (d : Int))).drew)
  all_goals
    clear c00 c01 c02 c13
    go_wp2
    refine bodyPost_ret (v := .tuple #[.agg #[.string (s ++ f), .int .i64 (at_ : Int), .int .i64 (d : Int)], .bool true]) (by simp [results, Try.results33, go_sem, hb2, c20, c21, c22, f20, f21, f22]) rfl ?_
    exact ⟨_, rfl, HSF.out, HEND.out⟩
end Go.Proofs.Ytbbiohcmfhdmnaa

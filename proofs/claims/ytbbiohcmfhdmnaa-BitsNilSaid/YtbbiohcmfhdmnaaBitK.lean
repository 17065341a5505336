/- Package bits: the other steps of a reader. -/
import Derived.Test.YtbbiohcmfhdmnaaBitJ
namespace Go.Proofs.Ytbbiohcmfhdmnaa
open Go.RowKit

set_option maxRecDepth 100000 in
set_option maxHeartbeats 1000000 in
theorem step_seek_ok (br : Nat) (S : List UInt8) (s : ByteArray) (d at_ : Nat) (x : OpB) (w : World) (h : ReaderAt w br S d at_) (hs : s = stx (bitsL S)) (hl : S.length ≤ 1000) (hk : x.k = 2) (hn : 8 * (d : Int) ≤ x.n ∧ x.n ≤ 8 * (S.length : Int)) :
    Calls Try.prog 33 #[.agg #[.string s, .int .i64 (at_ : Int), .int .i64 (d : Int)], .pointer (some ⟨br, 0, none⟩), .agg (encO x).toArray] w (Stepped br S d x.n.toNat w) := by
  obtain ⟨xk, xn, xv, xs⟩ := x
  dsimp only at *
  subst hk
  obtain ⟨m, rfl⟩ : ∃ m : Nat, xn = m := ⟨xn.toNat, by omega⟩
  have hlo := h.lo
  have hhi := h.hi
  have hsz : s.size = 8 * S.length := by rw [hs, stx_size, bitsL_len]
  have h0 : Below w.heap.size w (((w.alloc (.cells #[.string s, .int .i64 (at_ : Int), .int .i64 (d : Int)] 44 (0, 0))).alloc (.cells #[.int .i64 2, .int .i64 (m : Int), .int .u32 (xv : Int), .string xs] 29 (0, 0))).alloc (.cells #[.string ⟨#[]⟩, .int .i64 0, .int .i64 0] 44 (0, 0))) :=
    ((((Below.refl _ _).alloc (Nat.le_refl _) _).alloc (by simp) _).alloc (by simp; omega) _)
  have HM := Lib.hid (rseek_ok br S d at_ m _ (h.below h0) (by omega) (by omega))
  have B0 := ((Blk.new w [.string s, .int .i64 (at_ : Int), .int .i64 (d : Int)] 44).below (below_alloc _ (.cells #[.int .i64 2, .int .i64 (m : Int), .int .u32 (xv : Int), .string xs] 29 (0, 0)))).below (below_alloc _ (.cells #[.string ⟨#[]⟩, .int .i64 0, .int .i64 0] 44 (0, 0)))
  have B1 := (Blk.new (w.alloc (.cells #[.string s, .int .i64 (at_ : Int), .int .i64 (d : Int)] 44 (0, 0))) [.int .i64 2, .int .i64 (m : Int), .int .u32 (xv : Int), .string xs] 29).below (below_alloc _ (.cells #[.string ⟨#[]⟩, .int .i64 0, .int .i64 0] 44 (0, 0)))
  have B2 := Blk.new ((w.alloc (.cells #[.string s, .int .i64 (at_ : Int), .int .i64 (d : Int)] 44 (0, 0))).alloc (.cells #[.int .i64 2, .int .i64 (m : Int), .int .u32 (xv : Int), .string xs] 29 (0, 0))) [.string ⟨#[]⟩, .int .i64 0, .int .i64 0] 44
  simp only [World.size_alloc] at B1 B2
  have hsz2 : s.size ≤ 8000 := by omega
  have hat : at_ ≤ 8000 := by omega
  have hdd : d ≤ 1000 := by omega
  have HS := Lib.hid hs
  have HSZ := Lib.hid hsz
  have HBR := Lib.hid h.box.lt
  have H0 := Lib.hid h0
  have HB0 := Lib.hid B0
  have HB1 := Lib.hid B1
  have HB2 := Lib.hid B2
  have t1 : decide ((m : Int) < 8 * (d : Int)) = false := decide_eq_false (by omega)
  have t2 : decide (s.size < m) = false := decide_eq_false (by omega)
  have hm : m ≤ 8000 := by omega
  unfold encO
  clear h hs h0 B0 B1 B2 hsz
  go_enter Try.func33, Try.ntmps33
  go_wp2_with fail

  refine HM.out.mono ?_
  rintro e w1 ⟨rfl, hd⟩
  have HD := Lib.hid hd
  have C0 := HB0.out.keep hd.2 (fun e => by have h : w.heap.size = br := e; have := HBR.out; omega)
  have C1 := HB1.out.keep hd.2 (fun e => by have h : w.heap.size + 1 = br := e; have := HBR.out; omega)
  have C2 := HB2.out.keep hd.2 (fun e => by have h : w.heap.size + 1 + 1 = br := e; have := HBR.out; omega)
  have c00 := C0.cell (i := 0) (x := .string s) rfl
  have c01 := C0.cell (i := 1) (x := .int .i64 (at_ : Int)) rfl
  have c02 := C0.cell (i := 2) (x := .int .i64 (d : Int)) rfl
  have c11 := C1.cell (i := 1) (x := .int .i64 (m : Int)) rfl
  have c20 := C2.cell (i := 0) rfl
  have c21 := C2.cell (i := 1) rfl
  have c22 := C2.cell (i := 2) rfl
  have f20 := C2.free 0
  have f21 := C2.free 1
  have f22 := C2.free 2
  have hb2 := C2.lt
  have HC2 := Lib.hid C2
  have HC0 := Lib.hid C0
  have HC1 := Lib.hid C1
  have n2 : ¬ w.heap.size = w.heap.size + 1 + 1 := by omega
  have n3 : ¬ w.heap.size + 1 = w.heap.size + 1 + 1 := by omega
  clear hd HM HB0 HB1 HB2 C0 C1 C2
  go_wp2_with fail
  refine (on_any s at_ d _ _).mono ?_
  rintro e w2 ⟨rfl, hb2o⟩
  have C2 := HC2.out.below hb2o
  have c20 := C2.cell (i := 0) rfl
  have c21 := C2.cell (i := 1) rfl
  have c22 := C2.cell (i := 2) rfl
  have f20 := C2.free 0
  have f21 := C2.free 1
  have f22 := C2.free 2
  have hb2 := C2.lt
  have q00 := (HC0.out.below hb2o).cell (i := 0) (x := .string s) rfl
  have q01 := (HC0.out.below hb2o).cell (i := 1) (x := .int .i64 (at_ : Int)) rfl
  have q11 := (HC1.out.below hb2o).cell (i := 1) (x := .int .i64 (m : Int)) rfl
  have HB2O := Lib.hid (below_of hb2o (show w.heap.size ≤ w1.heap.size by omega))
  clear hb2o C2 HC2
  go_wp2
  refine bodyPost_ret (v := .tuple #[.agg #[.string s, .int .i64 (m : Int), .int .i64 (d : Int)], .bool true]) (by simp [results, Try.results33, go_sem, hb2, c20, c21, c22, f20, f21, f22]) rfl ?_
  refine ⟨s, by rw [Int.toNat_natCast], HS.out, RDid.around H0.out HBR.out HD.out (HB2O.out.trans ?_)⟩
  exact ((((Below.refl w.heap.size w2).setCell (p := ⟨w.heap.size + 1 + 1, 0, none⟩) (by simp; omega) (.string s)).setCell (p := ⟨w.heap.size + 1 + 1, 1, none⟩) (by simp; omega) _).setCell (p := ⟨w.heap.size + 1 + 1, 2, none⟩) (by simp; omega) (.int .i64 (d : Int)))

set_option maxRecDepth 100000 in
set_option maxHeartbeats 1000000 in
theorem step_seek_no (br : Nat) (S : List UInt8) (s : ByteArray) (d at_ : Nat) (x : OpB) (w : World) (h : ReaderAt w br S d at_) (hs : s = stx (bitsL S)) (hl : S.length ≤ 1000) (hk : x.k = 2) (hn : x.n < 8 * (d : Int) ∨ 8 * (S.length : Int) < x.n) :
    Calls Try.prog 33 #[.agg #[.string s, .int .i64 (at_ : Int), .int .i64 (d : Int)], .pointer (some ⟨br, 0, none⟩), .agg (encO x).toArray] w (Stepped br S d at_ w) := by
  obtain ⟨xk, xn, xv, xs⟩ := x
  dsimp only at *
  subst hk
  have hlo := h.lo
  have hhi := h.hi
  have hsz : s.size = 8 * S.length := by rw [hs, stx_size, bitsL_len]
  have h0 : Below w.heap.size w (((w.alloc (.cells #[.string s, .int .i64 (at_ : Int), .int .i64 (d : Int)] 44 (0, 0))).alloc (.cells #[.int .i64 2, .int .i64 xn, .int .u32 (xv : Int), .string xs] 29 (0, 0))).alloc (.cells #[.string ⟨#[]⟩, .int .i64 0, .int .i64 0] 44 (0, 0))) :=
    ((((Below.refl _ _).alloc (Nat.le_refl _) _).alloc (by simp) _).alloc (by simp; omega) _)
  have HM := Lib.hid (rseek_any br S d at_ xn _ (h.below h0))
  have B0 := ((Blk.new w [.string s, .int .i64 (at_ : Int), .int .i64 (d : Int)] 44).below (below_alloc _ (.cells #[.int .i64 2, .int .i64 xn, .int .u32 (xv : Int), .string xs] 29 (0, 0)))).below (below_alloc _ (.cells #[.string ⟨#[]⟩, .int .i64 0, .int .i64 0] 44 (0, 0)))
  have B1 := (Blk.new (w.alloc (.cells #[.string s, .int .i64 (at_ : Int), .int .i64 (d : Int)] 44 (0, 0))) [.int .i64 2, .int .i64 xn, .int .u32 (xv : Int), .string xs] 29).below (below_alloc _ (.cells #[.string ⟨#[]⟩, .int .i64 0, .int .i64 0] 44 (0, 0)))
  have B2 := Blk.new ((w.alloc (.cells #[.string s, .int .i64 (at_ : Int), .int .i64 (d : Int)] 44 (0, 0))).alloc (.cells #[.int .i64 2, .int .i64 xn, .int .u32 (xv : Int), .string xs] 29 (0, 0))) [.string ⟨#[]⟩, .int .i64 0, .int .i64 0] 44
  simp only [World.size_alloc] at B1 B2
  have hsz2 : s.size ≤ 8000 := by omega
  have hat : at_ ≤ 8000 := by omega
  have hdd : d ≤ 1000 := by omega
  have HS := Lib.hid hs
  have HSZ := Lib.hid hsz
  have HBR := Lib.hid h.box.lt
  have H0 := Lib.hid h0
  have HB0 := Lib.hid B0
  have HB1 := Lib.hid B1
  have HB2 := Lib.hid B2
  have hsk : seekE S d xn = 1 := by unfold seekE; rw [if_pos hn]
  rw [show seekAt S d at_ xn = at_ by unfold seekAt; rw [hsk]; rfl, hsk] at HM
  clear hsk
  unfold encO
  clear h hs h0 B0 B1 B2 hsz
  go_enter Try.func33, Try.ntmps33
  go_wp2_with fail

  refine HM.out.mono ?_
  rintro e w1 ⟨rfl, hd⟩
  have HD := Lib.hid hd
  have C0 := HB0.out.keep hd.2 (fun e => by have h : w.heap.size = br := e; have := HBR.out; omega)
  have C1 := HB1.out.keep hd.2 (fun e => by have h : w.heap.size + 1 = br := e; have := HBR.out; omega)
  have C2 := HB2.out.keep hd.2 (fun e => by have h : w.heap.size + 1 + 1 = br := e; have := HBR.out; omega)
  have c00 := C0.cell (i := 0) (x := .string s) rfl
  have c01 := C0.cell (i := 1) (x := .int .i64 (at_ : Int)) rfl
  have c02 := C0.cell (i := 2) (x := .int .i64 (d : Int)) rfl
  have c11 := C1.cell (i := 1) (x := .int .i64 xn) rfl
  have c20 := C2.cell (i := 0) rfl
  have c21 := C2.cell (i := 1) rfl
  have c22 := C2.cell (i := 2) rfl
  have f20 := C2.free 0
  have f21 := C2.free 1
  have f22 := C2.free 2
  have hb2 := C2.lt
  have HC2 := Lib.hid C2
  have HC0 := Lib.hid C0
  have HC1 := Lib.hid C1
  have n2 : ¬ w.heap.size = w.heap.size + 1 + 1 := by omega
  have n3 : ¬ w.heap.size + 1 = w.heap.size + 1 + 1 := by omega
  clear hd HM HB0 HB1 HB2 C0 C1 C2
  rcases (show xn < 8 * (d : Int) ∨ (¬ xn < 8 * (d : Int) ∧ (s.size : Int) < xn) by have := HSZ.out; omega) with t | ⟨t, t2⟩
  · have t1 : decide (xn < 8 * (d : Int)) = true := decide_eq_true t
    clear hn t
    go_wp2
    refine bodyPost_ret (v := .tuple #[.agg #[.string s, .int .i64 (at_ : Int), .int .i64 (d : Int)], .bool true]) (by simp [results, Try.results33, go_sem, hb2, c20, c21, c22, f20, f21, f22]) rfl ?_
    refine ⟨s, rfl, HS.out, RDid.around H0.out HBR.out HD.out ?_⟩
    exact ((((Below.refl w.heap.size w1).setCell (p := ⟨w.heap.size + 1 + 1, 0, none⟩) (by simp; omega) (.string s)).setCell (p := ⟨w.heap.size + 1 + 1, 1, none⟩) (by simp; omega) (.int .i64 (at_ : Int))).setCell (p := ⟨w.heap.size + 1 + 1, 2, none⟩) (by simp; omega) (.int .i64 (d : Int)))
  · have t1 : decide (xn < 8 * (d : Int)) = false := decide_eq_false t
    have t3 : decide ((s.size : Int) < xn) = true := decide_eq_true t2
    clear hn t t2
    go_wp2
    refine bodyPost_ret (v := .tuple #[.agg #[.string s, .int .i64 (at_ : Int), .int .i64 (d : Int)], .bool true]) (by simp [results, Try.results33, go_sem, hb2, c20, c21, c22, f20, f21, f22]) rfl ?_
    refine ⟨s, rfl, HS.out, RDid.around H0.out HBR.out HD.out ?_⟩
    exact ((((Below.refl w.heap.size w1).setCell (p := ⟨w.heap.size + 1 + 1, 0, none⟩) (by simp; omega) (.string s)).setCell (p := ⟨w.heap.size + 1 + 1, 1, none⟩) (by simp; omega) (.int .i64 (at_ : Int))).setCell (p := ⟨w.heap.size + 1 + 1, 2, none⟩) (by simp; omega) (.int .i64 (d : Int)))

set_option maxRecDepth 100000 in
set_option maxHeartbeats 1000000 in
theorem step_align (br : Nat) (S : List UInt8) (s : ByteArray) (d at_ : Nat) (x : OpB) (w : World) (h : ReaderAt w br S d at_) (hs : s = stx (bitsL S)) (hl : S.length ≤ 1000) (hk : x.k = 3) :
    Calls Try.prog 33 #[.agg #[.string s, .int .i64 (at_ : Int), .int .i64 (d : Int)], .pointer (some ⟨br, 0, none⟩), .agg (encO x).toArray] w (Stepped br S d ((at_ + 7) / 8 * 8) w) := by
  obtain ⟨xk, xn, xv, xs⟩ := x
  dsimp only at *
  subst hk
  have hlo := h.lo
  have hhi := h.hi
  have hsz : s.size = 8 * S.length := by rw [hs, stx_size, bitsL_len]
  have h0 : Below w.heap.size w (((w.alloc (.cells #[.string s, .int .i64 (at_ : Int), .int .i64 (d : Int)] 44 (0, 0))).alloc (.cells #[.int .i64 3, .int .i64 xn, .int .u32 (xv : Int), .string xs] 29 (0, 0))).alloc (.cells #[.string ⟨#[]⟩, .int .i64 0, .int .i64 0] 44 (0, 0))) :=
    ((((Below.refl _ _).alloc (Nat.le_refl _) _).alloc (by simp) _).alloc (by simp; omega) _)
  have HM := Lib.hid (ralign_any br S d at_ _ (h.below h0))
  have B0 := ((Blk.new w [.string s, .int .i64 (at_ : Int), .int .i64 (d : Int)] 44).below (below_alloc _ (.cells #[.int .i64 3, .int .i64 xn, .int .u32 (xv : Int), .string xs] 29 (0, 0)))).below (below_alloc _ (.cells #[.string ⟨#[]⟩, .int .i64 0, .int .i64 0] 44 (0, 0)))
  have B1 := (Blk.new (w.alloc (.cells #[.string s, .int .i64 (at_ : Int), .int .i64 (d : Int)] 44 (0, 0))) [.int .i64 3, .int .i64 xn, .int .u32 (xv : Int), .string xs] 29).below (below_alloc _ (.cells #[.string ⟨#[]⟩, .int .i64 0, .int .i64 0] 44 (0, 0)))
  have B2 := Blk.new ((w.alloc (.cells #[.string s, .int .i64 (at_ : Int), .int .i64 (d : Int)] 44 (0, 0))).alloc (.cells #[.int .i64 3, .int .i64 xn, .int .u32 (xv : Int), .string xs] 29 (0, 0))) [.string ⟨#[]⟩, .int .i64 0, .int .i64 0] 44
  simp only [World.size_alloc] at B1 B2
  have hsz2 : s.size ≤ 8000 := by omega
  have hat : at_ ≤ 8000 := by omega
  have hdd : d ≤ 1000 := by omega
  have HS := Lib.hid hs
  have HSZ := Lib.hid hsz
  have HBR := Lib.hid h.box.lt
  have H0 := Lib.hid h0
  have HB0 := Lib.hid B0
  have HB1 := Lib.hid B1
  have HB2 := Lib.hid B2

  unfold encO
  clear h hs h0 B0 B1 B2 hsz
  go_enter Try.func33, Try.ntmps33
  go_wp2_with fail

  refine HM.out.mono ?_
  rintro e w1 ⟨rfl, hd⟩
  have HD := Lib.hid hd
  have C0 := HB0.out.keep hd.2 (fun e => by have h : w.heap.size = br := e; have := HBR.out; omega)
  have C1 := HB1.out.keep hd.2 (fun e => by have h : w.heap.size + 1 = br := e; have := HBR.out; omega)
  have C2 := HB2.out.keep hd.2 (fun e => by have h : w.heap.size + 1 + 1 = br := e; have := HBR.out; omega)
  have c00 := C0.cell (i := 0) (x := .string s) rfl
  have c01 := C0.cell (i := 1) (x := .int .i64 (at_ : Int)) rfl
  have c02 := C0.cell (i := 2) (x := .int .i64 (d : Int)) rfl
  have c11 := C1.cell (i := 1) (x := .int .i64 xn) rfl
  have c20 := C2.cell (i := 0) rfl
  have c21 := C2.cell (i := 1) rfl
  have c22 := C2.cell (i := 2) rfl
  have f20 := C2.free 0
  have f21 := C2.free 1
  have f22 := C2.free 2
  have hb2 := C2.lt
  have HC2 := Lib.hid C2
  have HC0 := Lib.hid C0
  have HC1 := Lib.hid C1
  have n2 : ¬ w.heap.size = w.heap.size + 1 + 1 := by omega
  have n3 : ¬ w.heap.size + 1 = w.heap.size + 1 + 1 := by omega
  clear hd HM HB0 HB1 HB2 C0 C1 C2
  go_wp2_with fail
  refine (on_any s at_ d _ _).mono ?_
  rintro e w2 ⟨rfl, hb2o⟩
  have C2 := HC2.out.below hb2o
  have c20 := C2.cell (i := 0) rfl
  have c21 := C2.cell (i := 1) rfl
  have c22 := C2.cell (i := 2) rfl
  have f20 := C2.free 0
  have f21 := C2.free 1
  have f22 := C2.free 2
  have hb2 := C2.lt
  have q00 := (HC0.out.below hb2o).cell (i := 0) (x := .string s) rfl
  have q01 := (HC0.out.below hb2o).cell (i := 1) (x := .int .i64 (at_ : Int)) rfl
  have q11 := (HC1.out.below hb2o).cell (i := 1) (x := .int .i64 xn) rfl
  have HB2O := Lib.hid (below_of hb2o (show w.heap.size ≤ w1.heap.size by omega))
  clear hb2o C2 HC2
  go_wp2
  refine bodyPost_ret (v := .tuple #[.agg #[.string s, .int .i64 ((((at_ : Int) + 7) / 8) * 8), .int .i64 (d : Int)], .bool true]) (by simp [results, Try.results33, go_sem, hb2, c20, c21, c22, f20, f21, f22]) rfl ?_
  refine ⟨s, by rw [show ((((at_ : Int) + 7) / 8) * 8) = (((at_ + 7) / 8 * 8 : Nat) : Int) by omega], HS.out, RDid.around H0.out HBR.out HD.out (HB2O.out.trans ?_)⟩
  exact ((((Below.refl w.heap.size w2).setCell (p := ⟨w.heap.size + 1 + 1, 0, none⟩) (by simp; omega) (.string s)).setCell (p := ⟨w.heap.size + 1 + 1, 1, none⟩) (by simp; omega) _).setCell (p := ⟨w.heap.size + 1 + 1, 2, none⟩) (by simp; omega) (.int .i64 (d : Int)))

set_option maxRecDepth 100000 in
set_option maxHeartbeats 1000000 in
theorem step_drop (br : Nat) (S : List UInt8) (s : ByteArray) (d at_ : Nat) (x : OpB) (w : World) (h : ReaderAt w br S d at_) (hs : s = stx (bitsL S)) (hl : S.length ≤ 1000) (hk : x.k = 4) :
    Calls Try.prog 33 #[.agg #[.string s, .int .i64 (at_ : Int), .int .i64 (d : Int)], .pointer (some ⟨br, 0, none⟩), .agg (encO x).toArray] w (Stepped br S (at_ / 8) at_ w) := by
  obtain ⟨xk, xn, xv, xs⟩ := x
  dsimp only at *
  subst hk
  have hlo := h.lo
  have hhi := h.hi
  have hsz : s.size = 8 * S.length := by rw [hs, stx_size, bitsL_len]
  have h0 : Below w.heap.size w (((w.alloc (.cells #[.string s, .int .i64 (at_ : Int), .int .i64 (d : Int)] 44 (0, 0))).alloc (.cells #[.int .i64 4, .int .i64 xn, .int .u32 (xv : Int), .string xs] 29 (0, 0))).alloc (.cells #[.string ⟨#[]⟩, .int .i64 0, .int .i64 0] 44 (0, 0))) :=
    ((((Below.refl _ _).alloc (Nat.le_refl _) _).alloc (by simp) _).alloc (by simp; omega) _)
  have HM := Lib.hid (rdrop_any br S d at_ _ (h.below h0))
  have B0 := ((Blk.new w [.string s, .int .i64 (at_ : Int), .int .i64 (d : Int)] 44).below (below_alloc _ (.cells #[.int .i64 4, .int .i64 xn, .int .u32 (xv : Int), .string xs] 29 (0, 0)))).below (below_alloc _ (.cells #[.string ⟨#[]⟩, .int .i64 0, .int .i64 0] 44 (0, 0)))
  have B1 := (Blk.new (w.alloc (.cells #[.string s, .int .i64 (at_ : Int), .int .i64 (d : Int)] 44 (0, 0))) [.int .i64 4, .int .i64 xn, .int .u32 (xv : Int), .string xs] 29).below (below_alloc _ (.cells #[.string ⟨#[]⟩, .int .i64 0, .int .i64 0] 44 (0, 0)))
  have B2 := Blk.new ((w.alloc (.cells #[.string s, .int .i64 (at_ : Int), .int .i64 (d : Int)] 44 (0, 0))).alloc (.cells #[.int .i64 4, .int .i64 xn, .int .u32 (xv : Int), .string xs] 29 (0, 0))) [.string ⟨#[]⟩, .int .i64 0, .int .i64 0] 44
  simp only [World.size_alloc] at B1 B2
  have hsz2 : s.size ≤ 8000 := by omega
  have hat : at_ ≤ 8000 := by omega
  have hdd : d ≤ 1000 := by omega
  have HS := Lib.hid hs
  have HSZ := Lib.hid hsz
  have HBR := Lib.hid h.box.lt
  have H0 := Lib.hid h0
  have HB0 := Lib.hid B0
  have HB1 := Lib.hid B1
  have HB2 := Lib.hid B2
  obtain ⟨n, hn⟩ : ∃ z, at_ / 8 - d = z := ⟨_, rfl⟩
  rw [hn] at HM
  have e1 : IntKind.i64.wrap ((at_ : Int) / 8 - (d : Int)) = (n : Int) := by rw [IntWalk.i64_in _ (by omega)]; omega
  have e0 : IntKind.i64.wrap ((at_ : Int) / 8) = (at_ : Int) / 8 := by rw [IntWalk.i64_in _ (by omega)]
  have t1 : ((n : Int) == (n : Int)) = true := by simp
  clear hn
  unfold encO
  clear h hs h0 B0 B1 B2 hsz
  go_enter Try.func33, Try.ntmps33
  go_wp2_with fail

  refine HM.out.mono ?_
  rintro e w1 ⟨rfl, hd⟩
  have HD := Lib.hid hd
  have C0 := HB0.out.keep hd.2 (fun e => by have h : w.heap.size = br := e; have := HBR.out; omega)
  have C1 := HB1.out.keep hd.2 (fun e => by have h : w.heap.size + 1 = br := e; have := HBR.out; omega)
  have C2 := HB2.out.keep hd.2 (fun e => by have h : w.heap.size + 1 + 1 = br := e; have := HBR.out; omega)
  have c00 := C0.cell (i := 0) (x := .string s) rfl
  have c01 := C0.cell (i := 1) (x := .int .i64 (at_ : Int)) rfl
  have c02 := C0.cell (i := 2) (x := .int .i64 (d : Int)) rfl
  have c11 := C1.cell (i := 1) (x := .int .i64 xn) rfl
  have c20 := C2.cell (i := 0) rfl
  have c21 := C2.cell (i := 1) rfl
  have c22 := C2.cell (i := 2) rfl
  have f20 := C2.free 0
  have f21 := C2.free 1
  have f22 := C2.free 2
  have hb2 := C2.lt
  have HC2 := Lib.hid C2
  have HC0 := Lib.hid C0
  have HC1 := Lib.hid C1
  have n2 : ¬ w.heap.size = w.heap.size + 1 + 1 := by omega
  have n3 : ¬ w.heap.size + 1 = w.heap.size + 1 + 1 := by omega
  clear hd HM HB0 HB1 HB2 C0 C1 C2
  go_wp2
  go_region_held3 (fun w' => w'.cell? ⟨w.heap.size, 0, none⟩ = some (.string s) ∧ w'.cell? ⟨w.heap.size, 1, none⟩ = some (.int .i64 (at_ : Int)) ∧ w'.cell? ⟨w.heap.size, 2, none⟩ = some (.int .i64 (d : Int))) (first | (with_reducible exact ⟨keep_far c00 n2, keep_far c01 n2, keep_far c02 n2⟩) | go_keep) ((first | fail))
  have HEND := Lib.hid (RDid.around H0.out HBR.out HD.out ((((Below.refl w.heap.size w1).setCell (p := ⟨w.heap.size + 1 + 1, 0, none⟩) (by simp; omega) (.string s)).setCell (p := ⟨w.heap.size + 1 + 1, 1, none⟩) (by simp; omega) (.int .i64 (at_ : Int))).setCell (p := ⟨w.heap.size + 1 + 1, 2, none⟩) (by simp; omega) (.int .i64 ((at_ : Int) / 8))).drew)
  all_goals
    clear c00 c01 c02
    go_wp2
    refine bodyPost_ret (v := .tuple #[.agg #[.string s, .int .i64 (at_ : Int), .int .i64 ((at_ : Int) / 8)], .bool true]) (by simp [results, Try.results33, go_sem, hb2, c20, c21, c22, f20, f21, f22]) rfl ?_
    exact ⟨s, by rw [show ((at_ : Int) / 8) = ((at_ / 8 : Nat) : Int) by omega], HS.out, HEND.out⟩

set_option maxRecDepth 100000 in
set_option maxHeartbeats 1000000 in
theorem step_get_arg (br : Nat) (S : List UInt8) (s : ByteArray) (d at_ : Nat) (x : OpB) (w : World) (h : ReaderAt w br S d at_) (hs : s = stx (bitsL S)) (hl : S.length ≤ 1000) (h1 : x.k ≠ 1) (h2 : x.k ≠ 2) (h3 : x.k ≠ 3) (h4 : x.k ≠ 4) (hn : x.n < 0 ∨ 32 < x.n) :
    Calls Try.prog 33 #[.agg #[.string s, .int .i64 (at_ : Int), .int .i64 (d : Int)], .pointer (some ⟨br, 0, none⟩), .agg (encO x).toArray] w (Stepped br S d at_ w) := by
  obtain ⟨xk, xn, xv, xs⟩ := x
  dsimp only at *

  have hlo := h.lo
  have hhi := h.hi
  have hsz : s.size = 8 * S.length := by rw [hs, stx_size, bitsL_len]
  have h0 : Below w.heap.size w (((w.alloc (.cells #[.string s, .int .i64 (at_ : Int), .int .i64 (d : Int)] 44 (0, 0))).alloc (.cells #[.int .i64 xk, .int .i64 xn, .int .u32 (xv : Int), .string xs] 29 (0, 0))).alloc (.cells #[.string ⟨#[]⟩, .int .i64 0, .int .i64 0] 44 (0, 0))) :=
    ((((Below.refl _ _).alloc (Nat.le_refl _) _).alloc (by simp) _).alloc (by simp; omega) _)
  have HM := Lib.hid (rget_any br S d at_ xn _ (h.below h0))
  have B0 := ((Blk.new w [.string s, .int .i64 (at_ : Int), .int .i64 (d : Int)] 44).below (below_alloc _ (.cells #[.int .i64 xk, .int .i64 xn, .int .u32 (xv : Int), .string xs] 29 (0, 0)))).below (below_alloc _ (.cells #[.string ⟨#[]⟩, .int .i64 0, .int .i64 0] 44 (0, 0)))
  have B1 := (Blk.new (w.alloc (.cells #[.string s, .int .i64 (at_ : Int), .int .i64 (d : Int)] 44 (0, 0))) [.int .i64 xk, .int .i64 xn, .int .u32 (xv : Int), .string xs] 29).below (below_alloc _ (.cells #[.string ⟨#[]⟩, .int .i64 0, .int .i64 0] 44 (0, 0)))
  have B2 := Blk.new ((w.alloc (.cells #[.string s, .int .i64 (at_ : Int), .int .i64 (d : Int)] 44 (0, 0))).alloc (.cells #[.int .i64 xk, .int .i64 xn, .int .u32 (xv : Int), .string xs] 29 (0, 0))) [.string ⟨#[]⟩, .int .i64 0, .int .i64 0] 44
  simp only [World.size_alloc] at B1 B2
  have hsz2 : s.size ≤ 8000 := by omega
  have hat : at_ ≤ 8000 := by omega
  have hdd : d ≤ 1000 := by omega
  have HS := Lib.hid hs
  have HSZ := Lib.hid hsz
  have HBR := Lib.hid h.box.lt
  have H0 := Lib.hid h0
  have HB0 := Lib.hid B0
  have HB1 := Lib.hid B1
  have HB2 := Lib.hid B2
  have k1 : (xk == 1) = false := beq_eq_false_iff_ne.2 h1
  have k2 : (xk == 2) = false := beq_eq_false_iff_ne.2 h2
  have k3 : (xk == 3) = false := beq_eq_false_iff_ne.2 h3
  have k4 : (xk == 4) = false := beq_eq_false_iff_ne.2 h4
  clear h1 h2 h3 h4
  have hsk : getE S at_ xn = 1 := by unfold getE; rw [if_pos hn]
  rw [show getAt S at_ xn = at_ by unfold getAt; rw [hsk]; rfl, show getV S at_ xn = 0 by unfold getV; rw [hsk]; rfl, hsk] at HM
  clear hsk
  unfold encO
  clear h hs h0 B0 B1 B2 hsz
  go_enter Try.func33, Try.ntmps33
  go_wp2_with fail

  refine HM.out.mono ?_
  rintro e w1 ⟨rfl, hd⟩
  have HD := Lib.hid hd
  have C0 := HB0.out.keep hd.2 (fun e => by have h : w.heap.size = br := e; have := HBR.out; omega)
  have C1 := HB1.out.keep hd.2 (fun e => by have h : w.heap.size + 1 = br := e; have := HBR.out; omega)
  have C2 := HB2.out.keep hd.2 (fun e => by have h : w.heap.size + 1 + 1 = br := e; have := HBR.out; omega)
  have c00 := C0.cell (i := 0) (x := .string s) rfl
  have c01 := C0.cell (i := 1) (x := .int .i64 (at_ : Int)) rfl
  have c02 := C0.cell (i := 2) (x := .int .i64 (d : Int)) rfl
  have c11 := C1.cell (i := 1) (x := .int .i64 xn) rfl
  have c20 := C2.cell (i := 0) rfl
  have c21 := C2.cell (i := 1) rfl
  have c22 := C2.cell (i := 2) rfl
  have f20 := C2.free 0
  have f21 := C2.free 1
  have f22 := C2.free 2
  have hb2 := C2.lt
  have HC2 := Lib.hid C2
  have HC0 := Lib.hid C0
  have HC1 := Lib.hid C1
  have n2 : ¬ w.heap.size = w.heap.size + 1 + 1 := by omega
  have n3 : ¬ w.heap.size + 1 = w.heap.size + 1 + 1 := by omega
  clear hd HM HB0 HB1 HB2 C0 C1 C2
  rcases hn with t | t
  · have t1 : decide (xn < 0) = true := decide_eq_true t
    clear t
    go_wp2
    refine bodyPost_ret (v := .tuple #[.agg #[.string s, .int .i64 (at_ : Int), .int .i64 (d : Int)], .bool true]) (by simp [results, Try.results33, go_sem, hb2, c20, c21, c22, f20, f21, f22]) rfl ?_
    refine ⟨s, rfl, HS.out, RDid.around H0.out HBR.out HD.out ?_⟩
    exact ((((Below.refl w.heap.size w1).setCell (p := ⟨w.heap.size + 1 + 1, 0, none⟩) (by simp; omega) (.string s)).setCell (p := ⟨w.heap.size + 1 + 1, 1, none⟩) (by simp; omega) (.int .i64 (at_ : Int))).setCell (p := ⟨w.heap.size + 1 + 1, 2, none⟩) (by simp; omega) (.int .i64 (d : Int)))
  · have t1 : decide (xn < 0) = false := decide_eq_false (by omega)
    have t3 : decide ((32 : Int) < xn) = true := decide_eq_true t
    clear t
    go_wp2
    refine bodyPost_ret (v := .tuple #[.agg #[.string s, .int .i64 (at_ : Int), .int .i64 (d : Int)], .bool true]) (by simp [results, Try.results33, go_sem, hb2, c20, c21, c22, f20, f21, f22]) rfl ?_
    refine ⟨s, rfl, HS.out, RDid.around H0.out HBR.out HD.out ?_⟩
    exact ((((Below.refl w.heap.size w1).setCell (p := ⟨w.heap.size + 1 + 1, 0, none⟩) (by simp; omega) (.string s)).setCell (p := ⟨w.heap.size + 1 + 1, 1, none⟩) (by simp; omega) (.int .i64 (at_ : Int))).setCell (p := ⟨w.heap.size + 1 + 1, 2, none⟩) (by simp; omega) (.int .i64 (d : Int)))

set_option maxRecDepth 100000 in
set_option maxHeartbeats 1000000 in
theorem step_get_short (br : Nat) (S : List UInt8) (s : ByteArray) (d at_ : Nat) (x : OpB) (w : World) (h : ReaderAt w br S d at_) (hs : s = stx (bitsL S)) (hl : S.length ≤ 1000) (h1 : x.k ≠ 1) (h2 : x.k ≠ 2) (h3 : x.k ≠ 3) (h4 : x.k ≠ 4) (hn : 0 ≤ x.n ∧ x.n ≤ 32 ∧ 8 * (S.length : Int) < (at_ : Int) + x.n) :
    Calls Try.prog 33 #[.agg #[.string s, .int .i64 (at_ : Int), .int .i64 (d : Int)], .pointer (some ⟨br, 0, none⟩), .agg (encO x).toArray] w (Stepped br S d at_ w) := by
  obtain ⟨xk, xn, xv, xs⟩ := x
  dsimp only at *
  obtain ⟨m, rfl⟩ : ∃ m : Nat, xn = m := ⟨xn.toNat, by omega⟩
  have hlo := h.lo
  have hhi := h.hi
  have hsz : s.size = 8 * S.length := by rw [hs, stx_size, bitsL_len]
  have h0 : Below w.heap.size w (((w.alloc (.cells #[.string s, .int .i64 (at_ : Int), .int .i64 (d : Int)] 44 (0, 0))).alloc (.cells #[.int .i64 xk, .int .i64 (m : Int), .int .u32 (xv : Int), .string xs] 29 (0, 0))).alloc (.cells #[.string ⟨#[]⟩, .int .i64 0, .int .i64 0] 44 (0, 0))) :=
    ((((Below.refl _ _).alloc (Nat.le_refl _) _).alloc (by simp) _).alloc (by simp; omega) _)
  have HM := Lib.hid (rget_any br S d at_ (m : Int) _ (h.below h0))
  have B0 := ((Blk.new w [.string s, .int .i64 (at_ : Int), .int .i64 (d : Int)] 44).below (below_alloc _ (.cells #[.int .i64 xk, .int .i64 (m : Int), .int .u32 (xv : Int), .string xs] 29 (0, 0)))).below (below_alloc _ (.cells #[.string ⟨#[]⟩, .int .i64 0, .int .i64 0] 44 (0, 0)))
  have B1 := (Blk.new (w.alloc (.cells #[.string s, .int .i64 (at_ : Int), .int .i64 (d : Int)] 44 (0, 0))) [.int .i64 xk, .int .i64 (m : Int), .int .u32 (xv : Int), .string xs] 29).below (below_alloc _ (.cells #[.string ⟨#[]⟩, .int .i64 0, .int .i64 0] 44 (0, 0)))
  have B2 := Blk.new ((w.alloc (.cells #[.string s, .int .i64 (at_ : Int), .int .i64 (d : Int)] 44 (0, 0))).alloc (.cells #[.int .i64 xk, .int .i64 (m : Int), .int .u32 (xv : Int), .string xs] 29 (0, 0))) [.string ⟨#[]⟩, .int .i64 0, .int .i64 0] 44
  simp only [World.size_alloc] at B1 B2
  have hsz2 : s.size ≤ 8000 := by omega
  have hat : at_ ≤ 8000 := by omega
  have hdd : d ≤ 1000 := by omega
  have HS := Lib.hid hs
  have HSZ := Lib.hid hsz
  have HBR := Lib.hid h.box.lt
  have H0 := Lib.hid h0
  have HB0 := Lib.hid B0
  have HB1 := Lib.hid B1
  have HB2 := Lib.hid B2
  have k1 : (xk == 1) = false := beq_eq_false_iff_ne.2 h1
  have k2 : (xk == 2) = false := beq_eq_false_iff_ne.2 h2
  have k3 : (xk == 3) = false := beq_eq_false_iff_ne.2 h3
  have k4 : (xk == 4) = false := beq_eq_false_iff_ne.2 h4
  clear h1 h2 h3 h4
  have hsk : getE S at_ (m : Int) = 3 := by unfold getE; rw [if_neg (by omega), if_pos hn.2.2]
  rw [show getAt S at_ (m : Int) = at_ by unfold getAt; rw [hsk]; rfl, show getV S at_ (m : Int) = 0 by unfold getV; rw [hsk]; rfl, hsk] at HM
  clear hsk
  have d1 : decide ((m : Int) < 0) = false := decide_eq_false (by omega)
  have d2 : decide ((32 : Int) < (m : Int)) = false := decide_eq_false (by omega)
  obtain ⟨lf, hlf⟩ : ∃ z, 8 * S.length - at_ = z := ⟨_, rfl⟩
  have e1 : (s.size : Int) - (at_ : Int) = (lf : Int) := by omega
  have d3 : decide ((s.size : Int) - (at_ : Int) < (m : Int)) = true := decide_eq_true (by omega)
  have d4 : decide (lf < m) = true := decide_eq_true (by omega)
  clear hn hlf e1
  unfold encO
  clear h hs h0 B0 B1 B2 hsz
  go_enter Try.func33, Try.ntmps33
  go_wp2_with fail

  refine HM.out.mono ?_
  rintro e w1 ⟨rfl, hd⟩
  have HD := Lib.hid hd
  have C0 := HB0.out.keep hd.2 (fun e => by have h : w.heap.size = br := e; have := HBR.out; omega)
  have C1 := HB1.out.keep hd.2 (fun e => by have h : w.heap.size + 1 = br := e; have := HBR.out; omega)
  have C2 := HB2.out.keep hd.2 (fun e => by have h : w.heap.size + 1 + 1 = br := e; have := HBR.out; omega)
  have c00 := C0.cell (i := 0) (x := .string s) rfl
  have c01 := C0.cell (i := 1) (x := .int .i64 (at_ : Int)) rfl
  have c02 := C0.cell (i := 2) (x := .int .i64 (d : Int)) rfl
  have c11 := C1.cell (i := 1) (x := .int .i64 (m : Int)) rfl
  have c20 := C2.cell (i := 0) rfl
  have c21 := C2.cell (i := 1) rfl
  have c22 := C2.cell (i := 2) rfl
  have f20 := C2.free 0
  have f21 := C2.free 1
  have f22 := C2.free 2
  have hb2 := C2.lt
  have HC2 := Lib.hid C2
  have HC0 := Lib.hid C0
  have HC1 := Lib.hid C1
  have n2 : ¬ w.heap.size = w.heap.size + 1 + 1 := by omega
  have n3 : ¬ w.heap.size + 1 = w.heap.size + 1 + 1 := by omega
  clear hd HM HB0 HB1 HB2 C0 C1 C2
  go_wp2
  refine bodyPost_ret (v := .tuple #[.agg #[.string s, .int .i64 (at_ : Int), .int .i64 (d : Int)], .bool true]) (by simp [results, Try.results33, go_sem, hb2, c20, c21, c22, f20, f21, f22]) rfl ?_
  refine ⟨s, rfl, HS.out, RDid.around H0.out HBR.out HD.out ?_⟩
  exact ((((Below.refl w.heap.size w1).setCell (p := ⟨w.heap.size + 1 + 1, 0, none⟩) (by simp; omega) (.string s)).setCell (p := ⟨w.heap.size + 1 + 1, 1, none⟩) (by simp; omega) (.int .i64 (at_ : Int))).setCell (p := ⟨w.heap.size + 1 + 1, 2, none⟩) (by simp; omega) (.int .i64 (d : Int)))

set_option maxRecDepth 100000 in
set_option maxHeartbeats 1000000 in
theorem step_get_ok (br : Nat) (S : List UInt8) (s : ByteArray) (d at_ : Nat) (x : OpB) (w : World) (h : ReaderAt w br S d at_) (hs : s = stx (bitsL S)) (hl : S.length ≤ 1000) (h1 : x.k ≠ 1) (h2 : x.k ≠ 2) (h3 : x.k ≠ 3) (h4 : x.k ≠ 4) (hn : 0 ≤ x.n ∧ x.n ≤ 32 ∧ (at_ : Int) + x.n ≤ 8 * (S.length : Int)) :
    Calls Try.prog 33 #[.agg #[.string s, .int .i64 (at_ : Int), .int .i64 (d : Int)], .pointer (some ⟨br, 0, none⟩), .agg (encO x).toArray] w (Stepped br S d (at_ + x.n.toNat) w) := by
  obtain ⟨xk, xn, xv, xs⟩ := x
  dsimp only at *
  obtain ⟨m, rfl⟩ : ∃ m : Nat, xn = m := ⟨xn.toNat, by omega⟩
  have hlo := h.lo
  have hhi := h.hi
  have hsz : s.size = 8 * S.length := by rw [hs, stx_size, bitsL_len]
  have h0 : Below w.heap.size w (((w.alloc (.cells #[.string s, .int .i64 (at_ : Int), .int .i64 (d : Int)] 44 (0, 0))).alloc (.cells #[.int .i64 xk, .int .i64 (m : Int), .int .u32 (xv : Int), .string xs] 29 (0, 0))).alloc (.cells #[.string ⟨#[]⟩, .int .i64 0, .int .i64 0] 44 (0, 0))) :=
    ((((Below.refl _ _).alloc (Nat.le_refl _) _).alloc (by simp) _).alloc (by simp; omega) _)
  have HM := Lib.hid (rget_ok br S d at_ m _ (h.below h0) (by omega) (by omega))
  have B0 := ((Blk.new w [.string s, .int .i64 (at_ : Int), .int .i64 (d : Int)] 44).below (below_alloc _ (.cells #[.int .i64 xk, .int .i64 (m : Int), .int .u32 (xv : Int), .string xs] 29 (0, 0)))).below (below_alloc _ (.cells #[.string ⟨#[]⟩, .int .i64 0, .int .i64 0] 44 (0, 0)))
  have B1 := (Blk.new (w.alloc (.cells #[.string s, .int .i64 (at_ : Int), .int .i64 (d : Int)] 44 (0, 0))) [.int .i64 xk, .int .i64 (m : Int), .int .u32 (xv : Int), .string xs] 29).below (below_alloc _ (.cells #[.string ⟨#[]⟩, .int .i64 0, .int .i64 0] 44 (0, 0)))
  have B2 := Blk.new ((w.alloc (.cells #[.string s, .int .i64 (at_ : Int), .int .i64 (d : Int)] 44 (0, 0))).alloc (.cells #[.int .i64 xk, .int .i64 (m : Int), .int .u32 (xv : Int), .string xs] 29 (0, 0))) [.string ⟨#[]⟩, .int .i64 0, .int .i64 0] 44
  simp only [World.size_alloc] at B1 B2
  have hsz2 : s.size ≤ 8000 := by omega
  have hat : at_ ≤ 8000 := by omega
  have hdd : d ≤ 1000 := by omega
  have HS := Lib.hid hs
  have HSZ := Lib.hid hsz
  have HBR := Lib.hid h.box.lt
  have H0 := Lib.hid h0
  have HB0 := Lib.hid B0
  have HB1 := Lib.hid B1
  have HB2 := Lib.hid B2
  have k1 : (xk == 1) = false := beq_eq_false_iff_ne.2 h1
  have k2 : (xk == 2) = false := beq_eq_false_iff_ne.2 h2
  have k3 : (xk == 3) = false := beq_eq_false_iff_ne.2 h3
  have k4 : (xk == 4) = false := beq_eq_false_iff_ne.2 h4
  clear h1 h2 h3 h4
  rw [Int.toNat_natCast]
  have HXT := Lib.hid (show s.extract at_ (at_ + m) = stx (getBits S at_ m) by rw [hs, stx_extract, Nat.add_sub_cancel_left]; rfl)
  have HNU := Lib.hid (fun w => refnum_any _ (getBits S at_ m) w HXT.out (by rw [getBits_len (by omega)]; omega))
  obtain ⟨V, hV⟩ : ∃ z, numL (getBits S at_ m) = z := ⟨_, rfl⟩
  rw [hV] at HM HNU
  have tv : ((V : Int) == (V : Int)) = true := by simp
  have d1 : decide ((m : Int) < 0) = false := decide_eq_false (by omega)
  have d2 : decide ((32 : Int) < (m : Int)) = false := decide_eq_false (by omega)
  obtain ⟨lf, hlf⟩ : ∃ z, 8 * S.length - at_ = z := ⟨_, rfl⟩
  have e1 : (s.size : Int) - (at_ : Int) = (lf : Int) := by omega
  have d3 : decide ((s.size : Int) - (at_ : Int) < (m : Int)) = false := decide_eq_false (by omega)
  have hmm : m ≤ 32 := by omega
  have hme : (at_ : Int) + (m : Int) ≤ (s.size : Int) := by omega
  clear hn hlf e1 hV
  unfold encO
  clear h hs h0 B0 B1 B2 hsz
  go_enter Try.func33, Try.ntmps33
  go_wp2_with fail

  refine HM.out.mono ?_
  rintro e w1 ⟨rfl, hd⟩
  have HD := Lib.hid hd
  have C0 := HB0.out.keep hd.2 (fun e => by have h : w.heap.size = br := e; have := HBR.out; omega)
  have C1 := HB1.out.keep hd.2 (fun e => by have h : w.heap.size + 1 = br := e; have := HBR.out; omega)
  have C2 := HB2.out.keep hd.2 (fun e => by have h : w.heap.size + 1 + 1 = br := e; have := HBR.out; omega)
  have c00 := C0.cell (i := 0) (x := .string s) rfl
  have c01 := C0.cell (i := 1) (x := .int .i64 (at_ : Int)) rfl
  have c02 := C0.cell (i := 2) (x := .int .i64 (d : Int)) rfl
  have c11 := C1.cell (i := 1) (x := .int .i64 (m : Int)) rfl
  have c20 := C2.cell (i := 0) rfl
  have c21 := C2.cell (i := 1) rfl
  have c22 := C2.cell (i := 2) rfl
  have f20 := C2.free 0
  have f21 := C2.free 1
  have f22 := C2.free 2
  have hb2 := C2.lt
  have HC2 := Lib.hid C2
  have HC0 := Lib.hid C0
  have HC1 := Lib.hid C1
  have n2 : ¬ w.heap.size = w.heap.size + 1 + 1 := by omega
  have n3 : ¬ w.heap.size + 1 = w.heap.size + 1 + 1 := by omega
  clear hd HM HB0 HB1 HB2 C0 C1 C2
  go_wp2_with fail
  refine (on_any s at_ d _ _).mono ?_
  rintro e w2 ⟨rfl, hb2o⟩
  have C2 := HC2.out.below hb2o
  have c20 := C2.cell (i := 0) rfl
  have c21 := C2.cell (i := 1) rfl
  have c22 := C2.cell (i := 2) rfl
  have f20 := C2.free 0
  have f21 := C2.free 1
  have f22 := C2.free 2
  have hb2 := C2.lt
  have q00 := (HC0.out.below hb2o).cell (i := 0) (x := .string s) rfl
  have q01 := (HC0.out.below hb2o).cell (i := 1) (x := .int .i64 (at_ : Int)) rfl
  have q11 := (HC1.out.below hb2o).cell (i := 1) (x := .int .i64 (m : Int)) rfl
  have HB2O := Lib.hid (below_of hb2o (show w.heap.size ≤ w1.heap.size by omega))
  clear hb2o C2 HC2
  go_wp2_with fail
  refine (HNU.out _).mono ?_
  rintro e w3 ⟨rfl, rfl⟩
  clear HNU
  go_wp2
  refine bodyPost_ret (v := .tuple #[.agg #[.string s, .int .i64 ((at_ : Int) + (m : Int)), .int .i64 (d : Int)], .bool true]) (by simp [results, Try.results33, go_sem, hb2, c20, c21, c22, f20, f21, f22]) rfl ?_
  refine ⟨s, by rw [show ((at_ : Int) + (m : Int)) = ((at_ + m : Nat) : Int) by omega], HS.out, RDid.around H0.out HBR.out HD.out (HB2O.out.trans ?_)⟩
  exact ((((Below.refl w.heap.size w2).setCell (p := ⟨w.heap.size + 1 + 1, 0, none⟩) (by simp; omega) (.string s)).setCell (p := ⟨w.heap.size + 1 + 1, 1, none⟩) (by simp; omega) _).setCell (p := ⟨w.heap.size + 1 + 1, 2, none⟩) (by simp; omega) (.int .i64 (d : Int)))
end Go.Proofs.Ytbbiohcmfhdmnaa

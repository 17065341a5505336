/- Package bits: a writer's puts, paddings and takings. -/
import Derived.Test.YtjpjdecbkekcfaaBitA
import Derived.Deep.LoopGhost
namespace Go.Proofs.Ytjpjdecbkekcfaa
open Go.RowKit

theorem wbit_any (b : Nat) (vw : Value) (all : List Bool) (k : Nat) (x : Bool) (w : World) (h : WriterAt w b vw all k) (hl : all.length ≤ 1000000000) :
    Calls Try.prog 60 #[.pointer (some ⟨b, 0, none⟩), .int .u8 (x.toNat : Nat)] w fun e w' => e = .returned (.tuple #[]) ∧ WDid b vw (all ++ [x]) k w w' := by
  by_cases hm : all.length % 8 = 7
  · exact wbit_full b vw all k x w h hl hm
  · exact wbit_mid b vw all k x w h hl hm

theorem WDid.next {b : Nat} {vw vw1 : Value} {a2 : List Bool} {k2 : Nat} {w w1 w2 : World} (kp1 : Keep (WF b vw) w w1) (f1 : ∀ g, vw1.ownBlock = some g → vw.ownBlock = some g ∨ w.heap.size ≤ g) (h2 : WDid b vw1 a2 k2 w1 w2) : WDid b vw a2 k2 w w2 := by
  obtain ⟨vw2, h2, kp2, f2⟩ := h2
  refine ⟨vw2, h2, ⟨kp2.os.trans kp1.os, kp2.tape.trans kp1.tape, kp2.output.trans kp1.output, Nat.le_trans kp1.size kp2.size, fun i hi hs => ?_⟩, fun g hg => ?_⟩
  · rw [kp2.block i (Nat.lt_of_lt_of_le hi kp1.size) (fun h => hs ?_)]
    · exact kp1.block i hi hs
    · rcases h with h | h
      · exact .inl h
      · rcases f1 i h with h | h
        · exact .inr h
        · omega
  · rcases f2 g hg with h | h
    · exact f1 g h
    · exact .inr (Nat.le_trans kp1.size h)
theorem WDid.trans {b : Nat} {vw : Value} {a1 a2 : List Bool} {k1 k2 : Nat} {w w1 w2 : World} (h : WDid b vw a1 k1 w w1) (hk : ∀ vw1, WriterAt w1 b vw1 a1 k1 → WDid b vw1 a2 k2 w1 w2) : WDid b vw a2 k2 w w2 := by
  obtain ⟨vw1, h1, kp1, f1⟩ := h
  exact WDid.next kp1 f1 (hk vw1 h1)
theorem WDid.below {b : Nat} {vw : Value} {a1 : List Bool} {k1 : Nat} {w w1 w2 : World} (h : WDid b vw a1 k1 w w1) (hb : Below w1.heap.size w1 w2) : WDid b vw a1 k1 w w2 :=
  h.trans fun _ h1 => WDid.same h1 hb

def fitsB (v : Nat) (n : Int) : Bool := decide (0 ≤ n) && (decide (n ≤ 32) && decide (v < 2 ^ n.toNat))
theorem fitsB_yes {v : Nat} {n : Int} (h : fitsB v n = true) : ∃ m : Nat, n = m ∧ m ≤ 32 ∧ v < 2 ^ m := by
  unfold fitsB at h
  simp at h
  obtain ⟨h0, h1, h2⟩ := h
  exact ⟨n.toNat, by omega, by omega, h2⟩

theorem shr_zero (v m : Nat) : ((((v : Int) / 2 ^ m) : Int) == 0) = decide (v < 2 ^ m) := by
  have e : ((v : Int) / 2 ^ m) = ((v / 2 ^ m : Nat) : Int) := by simp
  rw [e]
  by_cases h : v < 2 ^ m
  · rw [Nat.div_eq_of_lt h]; simp [h]
  · have : 0 < v / 2 ^ m := Nat.div_pos (by omega) (Nat.two_pow_pos _)
    rw [decide_eq_false h]
    exact beq_eq_false_iff_ne.2 (by omega)

set_option maxHeartbeats 400000 in
theorem fits_any (v : Nat) (n : Int) (w : World) (hv : v < 4294967296) :
    Calls Try.prog 69 #[.int .u32 (v : Nat), .int .i64 n] w fun e w' => e = .returned (.bool (fitsB v n)) ∧ w = w' := by
  by_cases h0 : 0 ≤ n
  · by_cases h1 : n ≤ 32
    · obtain ⟨m, rfl⟩ : ∃ m : Nat, n = m := ⟨n.toNat, by omega⟩
      have hz := shr_zero v m
      have hm : m ≤ 64 := by omega
      have hwr : IntKind.u64.wrap (v : Int) = (v : Int) := IntWalk.u64_in _ (by omega)
      have hres : fitsB v (m : Int) = decide (v < 2 ^ m) := by unfold fitsB; simp; omega
      rw [hres]
      obtain ⟨R, hR⟩ : ∃ R, decide (v < 2 ^ m) = R := ⟨_, rfl⟩
      rw [hR] at hz ⊢
      clear hres hR
      go_enter Try.func69, Try.ntmps69
      go_wp2
      go_ret
      exact ⟨rfl, rfl⟩
    · go_enter Try.func69, Try.ntmps69
      go_wp2
      go_ret
      exact ⟨ret_bool (by unfold fitsB; simp; omega), rfl⟩
  · go_enter Try.func69, Try.ntmps69
    go_wp2
    go_ret
    exact ⟨ret_bool (by unfold fitsB; simp; omega), rfl⟩

theorem field_at {v n i : Nat} (hi : i < n) : (fieldL v n)[i]? = some (v.testBit (n - 1 - i)) := by
  induction n generalizing i with
  | zero => omega
  | succ n ih =>
    cases i with
    | zero => simp [fieldL]
    | succ i =>
      rw [fieldL, List.getElem?_cons_succ, ih (by omega)]
      congr 2
      omega
theorem field_take {v n i : Nat} (hi : i < n) : (fieldL v n).take (i + 1) = (fieldL v n).take i ++ [v.testBit (n - 1 - i)] := take_snoc (field_at hi)

theorem and_one (v j : Nat) (hv : v < 4294967296) : bits BinOp.and .u32 ((v : Int) / 2 ^ j) 1 = (((v.testBit j).toNat : Nat) : Int) := by
  have e : ((v : Int) / 2 ^ j) = ((v / 2 ^ j : Nat) : Int) := by simp
  have hle : v / 2 ^ j ≤ v := Nat.div_le_self _ _
  rw [e, show (1 : Int) = ((1 : Nat) : Int) from rfl, u32_and_nat _ _ (by omega) (by decide), nat_mask1, Nat.testBit_eq_decide_div_mod_eq]
  have := Nat.mod_two_eq_zero_or_one (v / 2 ^ j)
  rcases this with h | h <;> rw [h] <;> rfl

set_option maxHeartbeats 1000000 in
set_option maxRecDepth 100000 in
theorem wput_yes (b : Nat) (vw : Value) (all : List Bool) (k v : Nat) (n : Int) (w : World) (h : WriterAt w b vw all k) (hl : all.length ≤ 900000000) (hv : v < 4294967296) (hf : fitsB v n = true) :
    Calls Try.prog 49 #[.pointer (some ⟨b, 0, none⟩), .int .u32 (v : Nat), .int .i64 n] w fun e w' => e = .returned (.int .i64 0) ∧ WDid b vw (all ++ fieldL v n.toNat) k w w' := by
  obtain ⟨m, rfl, hm, hlt⟩ := fitsB_yes hf
  have HF := Lib.hid (fits_any v m w hv)
  rw [hf] at HF
  rw [Int.toNat_natCast]
  have HD := Lib.hid (WDid.same h (Below.refl _ w))
  clear h hf
  go_enter Try.func49, Try.ntmps49
  go_wp2_with fail
  refine HF.out.mono ?_
  rintro e w' ⟨rfl, rfl⟩
  clear HF
  go_wp2
  go_loopw [7, 17] (fun x i wr => ∃ j : Nat, j ≤ m ∧ i = .int .i64 j ∧ Hid (WDid b vw (all ++ (fieldL v m).take j) k w wr)) (fun _ i _ => m - (intOf i).toNat)
  case atStart => exact ⟨0, Nat.zero_le _, rfl, by show WDid _ _ _ _ _ _; rw [List.take_zero, List.append_nil]; exact HD.out⟩
  case round =>
    obtain ⟨j, hj, rfl, HW⟩ := hrel
    by_cases hlt2 : j < m
    · have HS := Lib.hid (field_take (v := v) hlt2)
      have ha := and_one v (m - 1 - j) hv
      obtain ⟨x, hx⟩ : ∃ x, v.testBit (m - 1 - j) = x := ⟨_, rfl⟩
      rw [hx] at ha HS
      obtain ⟨vw1, h1, kp1, f1⟩ := HW.out
      have HB := Lib.hid (wbit_any b vw1 _ k x wr h1 (by simp; omega))
      have hx8 : ((x.toNat : Nat) : Int) % 256 = ((x.toNat : Nat) : Int) := by cases x <;> rfl
      have HKP := Lib.hid kp1
      have HFR := Lib.hid f1
      clear HW h1 kp1 f1 hx
      go_wp2_with fail
      refine HB.out.mono ?_
      rintro e w2 ⟨rfl, hd⟩
      have HD2 := Lib.hid (show WDid b vw (all ++ (fieldL v m).take (j + 1)) k w w2 by
        rw [HS.out, ← List.append_assoc]
        exact WDid.next HKP.out HFR.out hd)
      clear hd HB HKP HFR ha hx8
      go_wp2
      go_roundw
      case rel => exact ⟨j + 1, by omega, by go_num, HD2.out⟩
      case measure => simp [intOf]; omega
    · obtain rfl : j = m := by omega
      go_wp2
      go_ret
      exact ⟨rfl, by have := HW.out; rwa [List.take_of_length_le (by rw [fieldL_len]; omega)] at this⟩

theorem wput_no (b : Nat) (v : Nat) (n : Int) (w : World) (hv : v < 4294967296) (hf : fitsB v n = false) :
    Calls Try.prog 49 #[.pointer (some ⟨b, 0, none⟩), .int .u32 (v : Nat), .int .i64 n] w fun e w' => e = .returned (.int .i64 1) ∧ w = w' := by
  have HF := Lib.hid (fits_any v n w hv)
  rw [hf] at HF
  clear hf
  go_enter Try.func49, Try.ntmps49
  go_wp2_with fail
  refine HF.out.mono ?_
  rintro e w' ⟨rfl, rfl⟩
  clear HF
  go_wp2
  go_ret
  exact ⟨rfl, rfl⟩
theorem wput_nil (v : Nat) (n : Int) (w : World) :
    Calls Try.prog 49 #[.pointer none, .int .u32 (v : Nat), .int .i64 n] w fun e w' => e = .returned (.int .i64 7) ∧ w = w' := by
  go_enter Try.func49, Try.ntmps49
  go_wp2
  go_ret
  exact ⟨rfl, rfl⟩

theorem wlen_any (b : Nat) (vw : Value) (all : List Bool) (k : Nat) (w : World) (h : WriterAt w b vw all k) :
    Calls Try.prog 34 #[.pointer (some ⟨b, 0, none⟩)] w fun e w' => e = .returned (.int .i64 (all.length : Nat)) ∧ w = w' := by
  have hc2 := h.box.cell (i := 2) rfl
  clear h
  go_enter Try.func34, Try.ntmps34
  go_wp2
  go_ret
  exact ⟨rfl, rfl⟩

set_option maxHeartbeats 1000000 in
set_option maxRecDepth 100000 in
theorem wpad_any (b : Nat) (vw : Value) (all : List Bool) (k : Nat) (w : World) (h : WriterAt w b vw all k) (hl : all.length ≤ 900000000) :
    Calls Try.prog 31 #[.pointer (some ⟨b, 0, none⟩)] w fun e w' => e = .returned (.tuple #[]) ∧ WDid b vw (padL all) k w w' := by
  have HD := Lib.hid (WDid.same h (Below.refl _ w))
  clear h
  go_enter Try.func31, Try.ntmps31
  go_wp2
  go_loopg [] ((8 - all.length % 8) % 8) (fun g wr => ∃ a2 : List Bool, Hid (padL a2 = padL all) ∧ (8 - a2.length % 8) % 8 = g ∧ Hid (WDid b vw a2 k w wr))
  case atStart => exact ⟨all, rfl, rfl, HD.out⟩
  case round =>
    obtain ⟨a2, HP, rfl, HW⟩ := hrel
    obtain ⟨vw1, h1, kp1, f1⟩ := HW.out
    have hc2 := h1.box.cell (i := 2) rfl
    have hln : a2.length ≤ 900000007 := by have h1 := padL_len a2; have h2 := padL_len all; rw [HP.out] at h1; omega
    by_cases hz : a2.length % 8 = 0
    · have hp := padL_even hz
      have HPE := Lib.hid (show a2 = padL all by rw [← hp]; exact HP.out)
      have ht : ((a2.length : Int) % 8 != 0) = false := by simp; omega
      clear hp hz h1 kp1 f1 HP
      go_wp2
      go_end0
      exact ⟨rfl, by rw [← HPE.out]; exact HW.out⟩
    · have HPE := Lib.hid (show padL (a2 ++ [false]) = padL all by rw [padL_step hz]; exact HP.out)
      have ht : ((a2.length : Int) % 8 != 0) = true := by simp; omega
      have HLT := Lib.hid (show (8 - (a2 ++ [false]).length % 8) % 8 < (8 - a2.length % 8) % 8 by rw [List.length_append, List.length_singleton]; omega)
      have HB := Lib.hid (wbit_any b vw1 a2 k false wr h1 (by omega))
      have HKP := Lib.hid kp1
      have HFR := Lib.hid f1
      clear hz h1 kp1 f1 HP HW
      go_wp2_with fail
      refine HB.out.mono ?_
      rintro e w2 ⟨rfl, hd⟩
      have HD2 := Lib.hid (WDid.next HKP.out HFR.out hd)
      clear hd HB HKP HFR
      go_wp2
      go_roundg ((8 - (a2 ++ [false]).length % 8) % 8)
      case rel => exact ⟨a2 ++ [false], HPE.out, rfl, HD2.out⟩
      case measure => exact HLT.out

set_option maxHeartbeats 400000 in
theorem wtake_any (b : Nat) (vw : Value) (all : List Bool) (k : Nat) (w : World) (h : WriterAt w b vw all k) :
    Calls Try.prog 32 #[.pointer (some ⟨b, 0, none⟩)] w fun e w' => e = .returned (.string (str ((bytesL all).drop k))) ∧ WDid b vw all (all.length / 8) w w' := by
  have hc0 := h.box.cell (i := 0) (x := vw) rfl
  have hf0 := h.box.free 0
  have hst := run_string_of (P := Try.prog) (w := w) h.row.reads 83 9 5 Try.underlying83 Try.underlying5 Try.underlying9
  obtain ⟨a, cap, hv, _, _⟩ := h.row.reads.shape
  have HD : Hid (WDid b vw all (all.length / 8) w (w.setCell ⟨b, 0, none⟩ (.slice none 0 0))) := by
    have k1 : Keep (WF b vw) w (w.setCell ⟨b, 0, none⟩ (.slice none 0 0)) := keep_setCell (Keep.refl _ _) (.inl rfl) _
    refine ⟨.slice none 0 0, ⟨h.box.set 0 (.slice none 0 0), ?_, Nat.le_refl _, by simp [Value.ownBlock]⟩, k1, fun g hg => by simp [Value.ownBlock] at hg⟩
    rw [List.drop_of_length_le (by rw [bytesL_len]; exact Nat.le_refl _)]
    exact OwnB.nil _ _
  obtain ⟨S, hS⟩ : ∃ S, str ((bytesL all).drop k) = S := ⟨_, rfl⟩
  rw [hS] at hst ⊢
  obtain ⟨n, hn⟩ : ∃ n, ((bytesL all).drop k).length = n := ⟨_, rfl⟩
  rw [hn] at hv
  rw [hv] at hc0 hst
  clear h hS hn
  go_enter Try.func32, Try.ntmps32
  go_wp2
  go_ret
  exact ⟨rfl, HD.out⟩

theorem wpad_nil (w : World) : Calls Try.prog 31 #[.pointer none] w fun e w' => e = .returned (.tuple #[]) ∧ w = w' := by
  go_enter Try.func31, Try.ntmps31
  go_wp2
  go_loopg [] 1 (fun g wr => w = wr)
  case atStart => rfl
  case round =>
    subst hrel
    go_wp2
    go_end0
    exact ⟨rfl, rfl⟩
theorem wtake_nil (w : World) : Calls Try.prog 32 #[.pointer none] w fun e w' => e = .returned (.string (str [])) ∧ w = w' := by
  go_enter Try.func32, Try.ntmps32
  go_wp2
  go_ret
  exact ⟨rfl, rfl⟩
theorem wlen_nil (w : World) : Calls Try.prog 34 #[.pointer none] w fun e w' => e = .returned (.int .i64 0) ∧ w = w' := by
  go_enter Try.func34, Try.ntmps34
  go_wp2
  go_ret
  exact ⟨rfl, rfl⟩
/-- the blocks at B or beyond that are no others' -/
def Zone (B : Nat) (G : Nat → Prop) (j : Nat) : Prop := B ≤ j ∧ ¬ G j
theorem zone_below {B : Nat} {G : Nat → Prop} {w w' : World} (h : Keep (Zone B G) w w') (hB : B ≤ w.heap.size) : Below B w w' := h.below hB fun k hk hz => by have := hz.1; omega

/-- a writer that lives: at B or beyond, off the blocks G -/
structure WLive (G : Nat → Prop) (B b : Nat) (all : List Bool) (k : Nat) (w : World) : Prop where
  ex : ∃ vw, WriterAt w b vw all k ∧ ∀ j, WF b vw j → Zone B G j
  gl : ∀ j, G j → j < w.heap.size
  hb : B ≤ w.heap.size

/-- an act on it -/
def WActs (G : Nat → Prop) (B b : Nat) (all' : List Bool) (k' : Nat) (w w' : World) : Prop := WLive G B b all' k' w' ∧ Keep (Zone B G) w w'

theorem WLive.did {G : Nat → Prop} {B b : Nat} {vw : Value} {all' : List Bool} {k' : Nat} {w w' : World} (hz : ∀ j, WF b vw j → Zone B G j) (gl : ∀ j, G j → j < w.heap.size) (hb : B ≤ w.heap.size) (h : WDid b vw all' k' w w') : WActs G B b all' k' w w' := by
  obtain ⟨vw', h1, kp, f⟩ := h
  refine ⟨⟨⟨vw', h1, fun j hj => ?_⟩, fun j hj => Nat.lt_of_lt_of_le (gl j hj) kp.size, Nat.le_trans hb kp.size⟩, kp.mono fun j _ hj => hz j hj⟩
  rcases hj with rfl | hj
  · exact hz _ (.inl rfl)
  · rcases f j hj with h | h
    · exact hz j (.inr h)
    · exact ⟨Nat.le_trans hb h, fun hg => by have := gl j hg; omega⟩
theorem WLive.keep {G S : Nat → Prop} {B b : Nat} {all : List Bool} {k : Nat} {w w' : World} (h : WLive G B b all k w) (kp : Keep S w w') (hs : ∀ j, S j → ¬ Zone B G j) : WLive G B b all k w' := by
  obtain ⟨vw, h1, h2⟩ := h.ex
  exact ⟨⟨vw, h1.keep kp (fun j hj hS => hs j hS (h2 j hj)), h2⟩, fun j hj => Nat.lt_of_lt_of_le (h.gl j hj) kp.size, Nat.le_trans h.hb kp.size⟩
theorem WLive.below {G : Nat → Prop} {B b : Nat} {all : List Bool} {k : Nat} {w w' : World} (h : WLive G B b all k w) (kp : Below w.heap.size w w') : WLive G B b all k w' :=
  h.keep (Keep.of_below kp (fun _ => False)) (fun _ h => h.elim)
/-- others are made beside it -/
theorem WLive.more {G G' : Nat → Prop} {B b : Nat} {all : List Bool} {k : Nat} {w w' : World} (h : WLive G B b all k w) (kp : Below w.heap.size w w') (hg : ∀ j, G' j → G j ∨ (w.heap.size ≤ j ∧ j < w'.heap.size)) : WLive G' B b all k w' := by
  obtain ⟨vw, h1, h2⟩ := h.ex
  refine ⟨⟨vw, h1.below kp, fun j hj => ⟨(h2 j hj).1, fun hj' => ?_⟩⟩, fun j hj => ?_, Nat.le_trans h.hb kp.size⟩
  · rcases hg j hj' with h3 | h3
    · exact (h2 j hj).2 h3
    · have := h1.lt j hj; omega
  · rcases hg j hj with h3 | h3
    · exact Nat.lt_of_lt_of_le (h.gl j h3) kp.size
    · exact h3.2

/-- fewer others -/
theorem WLive.less {G G' : Nat → Prop} {B b : Nat} {all : List Bool} {k : Nat} {w : World} (h : WLive G B b all k w) (hg : ∀ j, G' j → G j) : WLive G' B b all k w := by
  obtain ⟨vw, h1, h2⟩ := h.ex
  exact ⟨⟨vw, h1, fun j hj => ⟨(h2 j hj).1, fun hj' => (h2 j hj).2 (hg j hj')⟩⟩, fun j hj => h.gl j (hg j hj), h.hb⟩

theorem lwnew_any (w : World) (G : Nat → Prop) (B : Nat) (hB : B ≤ w.heap.size) (hG : ∀ j, G j → j < w.heap.size) :
    Calls Try.prog 29 #[] w fun e w' => ∃ b, e = .returned (.pointer (some ⟨b, 0, none⟩)) ∧ b = w.heap.size ∧ WLive G B b [] 0 w' ∧ Below w.heap.size w w' := by
  refine (wnew_any w).mono ?_
  rintro e w' ⟨rfl, h, hb⟩
  refine ⟨_, rfl, rfl, ⟨⟨_, h, fun j hj => ?_⟩, fun j hj => Nat.lt_of_lt_of_le (hG j hj) hb.size, Nat.le_trans hB hb.size⟩, hb⟩
  rcases hj with rfl | hj
  · exact ⟨hB, fun hg => by have := hG _ hg; omega⟩
  · simp [Value.ownBlock] at hj

def putE (v : Nat) (n : Int) : Int := if fitsB v n then 0 else 1
def putA (all : List Bool) (v : Nat) (n : Int) : List Bool := if fitsB v n then all ++ fieldL v n.toNat else all
theorem lwput_any (G : Nat → Prop) (B b : Nat) (all : List Bool) (k v : Nat) (n : Int) (w : World) (h : WLive G B b all k w) (hl : all.length ≤ 900000000) (hv : v < 4294967296) :
    Calls Try.prog 49 #[.pointer (some ⟨b, 0, none⟩), .int .u32 (v : Nat), .int .i64 n] w fun e w' => e = .returned (.int .i64 (putE v n)) ∧ WActs G B b (putA all v n) k w w' := by
  obtain ⟨vw, h1, h2⟩ := h.ex
  cases hf : fitsB v n with
  | true =>
    refine (wput_yes b vw all k v n w h1 hl hv hf).mono ?_
    rintro e w' ⟨rfl, hd⟩
    rw [putE, putA, hf, if_pos rfl, if_pos rfl]
    exact ⟨rfl, WLive.did h2 h.gl h.hb hd⟩
  | false =>
    refine (wput_no b v n w hv hf).mono ?_
    rintro e w' ⟨rfl, rfl⟩
    rw [putE, putA, hf, if_neg (by decide), if_neg (by decide)]
    exact ⟨rfl, h, Keep.refl _ _⟩
theorem lwpad_any (G : Nat → Prop) (B b : Nat) (all : List Bool) (k : Nat) (w : World) (h : WLive G B b all k w) (hl : all.length ≤ 900000000) :
    Calls Try.prog 31 #[.pointer (some ⟨b, 0, none⟩)] w fun e w' => e = .returned (.tuple #[]) ∧ WActs G B b (padL all) k w w' := by
  obtain ⟨vw, h1, h2⟩ := h.ex
  refine (wpad_any b vw all k w h1 hl).mono ?_
  rintro e w' ⟨rfl, hd⟩
  exact ⟨rfl, WLive.did h2 h.gl h.hb hd⟩
theorem lwtake_any (G : Nat → Prop) (B b : Nat) (all : List Bool) (k : Nat) (w : World) (h : WLive G B b all k w) :
    Calls Try.prog 32 #[.pointer (some ⟨b, 0, none⟩)] w fun e w' => e = .returned (.string (str ((bytesL all).drop k))) ∧ WActs G B b all (all.length / 8) w w' := by
  obtain ⟨vw, h1, h2⟩ := h.ex
  refine (wtake_any b vw all k w h1).mono ?_
  rintro e w' ⟨rfl, hd⟩
  exact ⟨rfl, WLive.did h2 h.gl h.hb hd⟩
theorem lwlen_any (G : Nat → Prop) (B b : Nat) (all : List Bool) (k : Nat) (w : World) (h : WLive G B b all k w) :
    Calls Try.prog 34 #[.pointer (some ⟨b, 0, none⟩)] w fun e w' => e = .returned (.int .i64 (all.length : Nat)) ∧ w = w' := by
  obtain ⟨vw, h1, h2⟩ := h.ex
  exact wlen_any b vw all k w h1
end Go.Proofs.Ytjpjdecbkekcfaa

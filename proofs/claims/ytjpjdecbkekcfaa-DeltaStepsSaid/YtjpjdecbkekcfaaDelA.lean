/- Package delta: what may be written, the steps, Bits, Write. -/
import Derived.Test.YtjpjdecbkekcfaaDelL
import Derived.Test.YtjpjdecbkekcfaaBitB
import Derived.Test.YtjpjdecbkekcfaaSame
namespace Go.Proofs.Ytjpjdecbkekcfaa
open Go.RowKit

theorem cellB {w w' : World} {a : Addr} {v : Value} (h : w.cell? a = some v) (k : Below w.heap.size w w') : w'.cell? a = some v :=
  (World.cell?_of_block (k.block a.block (World.block_lt_of_cell? w _ h))).trans h
theorem hmf : ∀ (fn : Fn) (first cap : Array Value) (w : World), (Instr.makeFunc fn first cap).run Try.prog w = .ok (.func fn first cap) w := fun _ _ _ _ => rfl

theorem dlength_any (n : Int) (w : World) : Calls Try.prog 76 #[.int .i64 n] w fun e w' => e = .returned (.bool (okD n)) ∧ w = w' := by
  unfold okD
  by_cases h1 : 1 ≤ n
  · have d1 : decide (1 ≤ n) = true := decide_eq_true h1
    rw [d1, Bool.true_and]
    cases d2 : decide (n ≤ 20) with
    | true =>
      clear h1
      go_enter Try.func76, Try.ntmps76
      go_wp2
      go_ret
      exact ⟨rfl, rfl⟩
    | false =>
      clear h1
      go_enter Try.func76, Try.ntmps76
      go_wp2
      go_ret
      exact ⟨rfl, rfl⟩
  · have d1 : decide (1 ≤ n) = false := decide_eq_false h1
    rw [d1, Bool.false_and]
    clear h1
    go_enter Try.func76, Try.ntmps76
    go_wp2
    go_ret
    exact ⟨rfl, rfl⟩
theorem dsized_any (n : Int) (w : World) : Calls Try.prog 67 #[.int .i64 n] w fun e w' => e = .returned (.bool (sizD n)) ∧ w = w' := by
  unfold sizD
  by_cases h1 : 3 ≤ n
  · have d1 : decide (3 ≤ n) = true := decide_eq_true h1
    rw [d1, Bool.true_and]
    cases d2 : decide (n ≤ 258) with
    | true =>
      clear h1
      go_enter Try.func67, Try.ntmps67
      go_wp2
      go_ret
      exact ⟨rfl, rfl⟩
    | false =>
      clear h1
      go_enter Try.func67, Try.ntmps67
      go_wp2
      go_ret
      exact ⟨rfl, rfl⟩
  · have d1 : decide (3 ≤ n) = false := decide_eq_false h1
    rw [d1, Bool.false_and]
    clear h1
    go_enter Try.func67, Try.ntmps67
    go_wp2
    go_ret
    exact ⟨rfl, rfl⟩
theorem dmay1_any (n : Int) (w : World) : Calls Try.prog 75 #[.int .i64 n] w fun e w' => e = .returned (.bool (!okD n)) ∧ w = w' := by
  have HL := Lib.hid (dlength_any n w)
  obtain ⟨q, hq⟩ : ∃ z, okD n = z := ⟨_, rfl⟩
  rw [hq] at HL ⊢
  clear hq
  cases q with
  | true =>
    go_enter Try.func75, Try.ntmps75
    go_wp2_with fail
    refine HL.out.mono ?_
    rintro e w1 ⟨rfl, rfl⟩
    go_wp2
    go_ret
    exact ⟨rfl, rfl⟩
  | false =>
    go_enter Try.func75, Try.ntmps75
    go_wp2_with fail
    refine HL.out.mono ?_
    rintro e w1 ⟨rfl, rfl⟩
    go_wp2
    go_ret
    exact ⟨rfl, rfl⟩
theorem dmay_any (v : Value) (l : List Int) (w : World) (hv : RInts w v l) : Calls Try.prog 64 #[v] w fun e w' => e = .returned (.bool (mayD l)) ∧ w = w' := by
  have HS := Lib.hid (dsized_any (l.length : Int) w)
  have HC := Lib.hid (containsfunc_any v l 75 (fun n => !okD n) w hv (fun args w => enter_of Try.func75 (by kernel_rfl) rfl args w) (fun x w => dmay1_any x w))
  have he : (l.any fun n => !okD n) = !(l.all okD) := by rw [List.all_eq_not_any_not, Bool.not_not]
  rw [he] at HC
  obtain ⟨a, cap, rfl, hc1, hc2⟩ := hv.shape
  unfold mayD
  obtain ⟨n, hn⟩ : ∃ z, l.length = z := ⟨_, rfl⟩
  obtain ⟨q, hq⟩ : ∃ z, l.all okD = z := ⟨_, rfl⟩
  rw [hn] at HS HC ⊢
  rw [hq] at HC ⊢
  clear hv he hn hq hc1
  cases hs : sizD (n : Int) with
  | true =>
    rw [hs] at HS
    rw [Bool.true_and]
    clear hs
    cases q with
    | true =>
      go_enter Try.func64, Try.ntmps64
      go_wp2_with fail
      refine HS.out.mono ?_
      rintro e w1 ⟨rfl, rfl⟩
      clear HS
      go_wp2_with fail
      refine HC.out.mono ?_
      rintro e w1 ⟨rfl, rfl⟩
      go_wp2
      go_ret
      exact ⟨rfl, rfl⟩
    | false =>
      go_enter Try.func64, Try.ntmps64
      go_wp2_with fail
      refine HS.out.mono ?_
      rintro e w1 ⟨rfl, rfl⟩
      clear HS
      go_wp2_with fail
      refine HC.out.mono ?_
      rintro e w1 ⟨rfl, rfl⟩
      go_wp2
      go_ret
      exact ⟨rfl, rfl⟩
  | false =>
    rw [hs] at HS
    rw [Bool.false_and]
    clear hs HC
    go_enter Try.func64, Try.ntmps64
    go_wp2_with fail
    refine HS.out.mono ?_
    rintro e w1 ⟨rfl, rfl⟩
    go_wp2
    go_ret
    exact ⟨rfl, rfl⟩

theorem runD_take {l : List Int} {k : Nat} {x a : Int} (hx : l[k]? = some x) : runD a (l.take (k + 1)) = runD a (l.take k) ++ oneD ((l.take k).getLastD a) x := by rw [take_snoc hx, runD_snoc]
theorem lastD_ok {l : List Int} {a : Int} (h : ∀ x ∈ l, 1 ≤ x ∧ x ≤ 20) (ha : 1 ≤ a ∧ a ≤ 20) : 1 ≤ l.getLastD a ∧ l.getLastD a ≤ 20 := by
  rw [List.getLastD_eq_getLast?]
  cases hl : l.getLast? with
  | none => exact ha
  | some y => exact h y (List.mem_of_getLast? hl)
theorem lastD_snoc {l : List Int} {k : Nat} {x a : Int} (hx : l[k]? = some x) : (l.take (k + 1)).getLastD a = x := by
  rw [take_snoc hx, List.getLastD_eq_getLast?, List.getLast?_append]
  simp

set_option maxHeartbeats 2000000 in
theorem steps_any (v : Value) (l : List Int) (f : Nat) (lb : Array Value) (Inv : List Bool → World → Prop) (w : World) (hm : mayD l = true) (hI : Inv [] w) (hr : ∀ A w', Inv A w' → RInts w' v l)
    (hent : ∀ (args : Array Value) (w : World), (callFunc f args).run Try.prog w = .ok (.enter f args) w)
    (hf : ∀ (A : List Bool) (x n : Nat) (w' : World), Inv A w' → A.length ≤ 20000 → x < 2 ^ n → n ≤ 5 → Calls Try.prog f (#[.int .i64 (x : Int), .int .i64 (n : Int)] ++ lb) w' fun e w2 => e = .returned (.tuple #[]) ∧ Inv (A ++ fieldL x n) w2) :
    Calls Try.prog 65 #[v, .func (.func f) #[] lb] w fun e w' => e = .returned (.tuple #[]) ∧ Inv (bitsD l) w' := by
  obtain ⟨⟨hl3, hl4⟩, hal⟩ := mayD_iff.1 hm
  obtain ⟨a, cap, rfl, hc1, hc2⟩ := (hr _ _ hI).shape
  have h0 := headD_ok hm
  have HAL := Lib.hid hal
  have HR := Lib.hid hr
  have HI := Lib.hid hI
  obtain ⟨b, off, x0, rfl, -, hx0, hcx, -, -⟩ := (hr _ _ hI).at (k := 0) (by omega)
  have hhd : l.headD 0 = x0 := by cases l with | nil => simp at hx0 | cons y l => simp at hx0; simp [hx0]
  have HBD := Lib.hid (show bitsD l = fieldL x0.toNat 5 ++ runD x0 l by unfold bitsD; rw [hhd])
  rw [hhd] at h0
  have HH0 := Lib.hid h0
  have F5 : Hid (∀ w', Inv [] w' → Calls Try.prog f (#[.int .i64 x0, .int .i64 5] ++ lb) w' fun e w2 => e = .returned (.tuple #[]) ∧ Inv (fieldL x0.toNat 5) w2) := Lib.hid (fun w' hi => by
    have := hf [] x0.toNat 5 w' hi (Nat.zero_le _) (by have : x0.toNat ≤ 20 := by omega
                                                       show x0.toNat < 32; omega) (by decide)
    rw [show ((x0.toNat : Nat) : Int) = x0 by omega] at this
    exact this)
  have FU : Hid (∀ A w', Inv A w' → A.length ≤ 20000 → Calls Try.prog f (#[.int .i64 2, .int .i64 2] ++ lb) w' fun e w2 => e = .returned (.tuple #[]) ∧ Inv (A ++ [true, false]) w2) := Lib.hid (fun A w' hi hA => hf A 2 2 w' hi hA (by decide) (by decide))
  have FD : Hid (∀ A w', Inv A w' → A.length ≤ 20000 → Calls Try.prog f (#[.int .i64 3, .int .i64 2] ++ lb) w' fun e w2 => e = .returned (.tuple #[]) ∧ Inv (A ++ [true, true]) w2) := Lib.hid (fun A w' hi hA => hf A 3 2 w' hi hA (by decide) (by decide))
  have FZ : Hid (∀ A w', Inv A w' → A.length ≤ 20000 → Calls Try.prog f (#[.int .i64 0, .int .i64 1] ++ lb) w' fun e w2 => e = .returned (.tuple #[]) ∧ Inv (A ++ [false]) w2) := Lib.hid (fun A w' hi hA => hf A 0 1 w' hi hA (by decide) (by decide))
  have hl0 : (0 : Int) < (l.length : Int) := by omega
  rw [Nat.add_zero] at hcx
  have HLEN := Lib.hid (fun k => show (fieldL x0.toNat 5 ++ runD x0 (l.take k)).length ≤ 10067 from by
    have h1 := runD_len (l := l.take k) h0 (fun x hx => hal x (List.mem_of_mem_take hx))
    rw [List.length_append, fieldL_len]
    rw [List.length_take] at h1
    omega)
  clear hm hal hr hI hf hx0 hhd h0
  go_enter Try.func65, Try.ntmps65
  go_wp2_with fail
  refine (F5.out _ HI.out).mono ?_
  rintro e w1 ⟨rfl, hi⟩
  have HI1 := Lib.hid hi
  clear hi HI hcx F5
  go_wp2
  go_loopw [4, 6, 15] (fun now _ i wr => ∃ (k : Nat) (m : Int), k ≤ l.length ∧ i = .int .i64 k ∧ now = .int .i64 m ∧ Hid (m = (l.take k).getLastD x0) ∧ Hid (Inv (fieldL x0.toNat 5 ++ runD x0 (l.take k)) wr)) (fun _ _ i _ => l.length - (intOf i).toNat)
  case atStart => exact ⟨0, x0, Nat.zero_le _, rfl, rfl, rfl, (show Inv _ _ by simpa [runD] using HI1.out)⟩
  case round =>
    clear HI1
    obtain ⟨k, m, hk, rfl, rfl, HM, HI⟩ := hrel
    by_cases hlt : k < l.length
    · obtain ⟨b2, off2, x, he, hbb, hx, hcx, -, -⟩ := (HR.out _ _ HI.out).at hlt
      simp only [Option.some.injEq, Addr.mk.injEq, and_true] at he
      obtain ⟨rfl, rfl⟩ := he
      have HT := Lib.hid (runD_take (a := x0) hx)
      have HLS := Lib.hid (lastD_snoc (a := x0) hx)
      have hxb := HAL.out x (List.mem_of_getElem? hx)
      have hmb := lastD_ok (l := l.take k) (fun x hx => HAL.out x (List.mem_of_mem_take hx)) HH0.out
      rw [← HM.out] at HT hmb
      obtain ⟨u, hu⟩ : ∃ z, (x - m).toNat = z := ⟨_, rfl⟩
      obtain ⟨d, hd⟩ : ∃ z, (m - x).toNat = z := ⟨_, rfl⟩
      have HUD := Lib.hid (show (x - m).toNat = u ∧ (m - x).toNat = d from ⟨hu, hd⟩)
      have HBE := Lib.hid (show (1 ≤ x ∧ x ≤ 20) ∧ (1 ≤ m ∧ m ≤ 20) from ⟨hxb, hmb⟩)
      obtain ⟨A, hA⟩ : ∃ z, fieldL x0.toNat 5 ++ runD x0 (l.take k) = z := ⟨_, rfl⟩
      have HA := Lib.hid (show A.length ≤ 10067 by rw [← hA]; exact HLEN.out k)
      have HT2 := Lib.hid (show fieldL x0.toNat 5 ++ runD x0 (l.take (k + 1)) = A ++ (upD u ++ (dnD d ++ [false])) by
        rw [HT.out, ← List.append_assoc, hA]
        unfold oneD
        rw [hu, hd])
      rw [hA] at HI
      clear hx hxb hmb hu hd hA HT
      go_wp2
      go_loopw [4] (fun now wj => ∃ (j : Nat) (m2 : Int), now = .int .i64 m2 ∧ Hid (m2 = m + j ∧ j ≤ u) ∧ Hid (Inv (A ++ upD j) wj)) (fun now _ => 20 - (intOf now).toNat)
      case atStart => exact ⟨0, m, rfl, ⟨by omega, Nat.zero_le _⟩, (show Inv _ _ by simpa [upD] using HI.out)⟩
      case round =>
        obtain ⟨j, m2, rfl, HJ, HIJ⟩ := hrel
        obtain ⟨hj1, hj2⟩ := HJ.out
        obtain ⟨hu, hd⟩ := HUD.out
        obtain ⟨⟨hx1, hx2⟩, hm1, hm2⟩ := HBE.out
        by_cases hju : j < u
        · have ht : decide (m2 < x) = true := decide_eq_true (by omega)
          have hw : IntKind.i64.wrap (m2 + 1) = m2 + 1 := IntWalk.i64_in _ (by omega)
          have HC := Lib.hid (FU.out _ _ HIJ.out (by have := HA.out; rw [List.length_append, upD_len]; omega))
          have HE := Lib.hid (show m2 + 1 = m + ((j + 1 : Nat) : Int) ∧ j + 1 ≤ u by omega)
          have HMS := Lib.hid (show 0 ≤ m2 ∧ m2 < 20 by omega)
          clear hj1 hj2 hu hd hx1 hx2 hm1 hm2
          go_wp2_with fail
          refine HC.out.mono ?_
          rintro e w3 ⟨rfl, hi⟩
          rw [List.append_assoc, ← upD_snoc] at hi
          have HI3 := Lib.hid hi
          clear hi HC
          go_wp2
          go_roundw
          case rel => exact ⟨j + 1, m2 + 1, rfl, HE.out, HI3.out⟩
          case measure => have := HMS.out; simp [intOf]; omega
        · have ht : decide (m2 < x) = false := decide_eq_false (by omega)
          have HE := Lib.hid (show m2 - d = x ∧ 1 ≤ x ∧ m2 ≤ 20 ∧ j = u by omega)
          clear hj1 hj2 hu hd hx1 hx2 hm1 hm2
          go_wp2
          go_loopw [4] (fun now wq => ∃ (q : Nat) (m3 : Int), now = .int .i64 m3 ∧ Hid (m3 = m2 - q ∧ q ≤ d) ∧ Hid (Inv ((A ++ upD u) ++ dnD q) wq)) (fun now _ => (intOf now).toNat)
          case atStart => exact ⟨0, m2, rfl, ⟨by omega, Nat.zero_le _⟩, (show Inv _ _ by have := HIJ.out; rw [HE.out.2.2.2] at this; simpa [dnD] using this)⟩
          case round =>
            clear HIJ
            obtain ⟨q, m3, rfl, HQ, HIQ⟩ := hrel
            obtain ⟨hj1, hj2⟩ := HQ.out
            obtain ⟨he1, he2, he3, he4⟩ := HE.out
            obtain ⟨hu, hd⟩ := HUD.out
            obtain ⟨⟨hx1, hx2⟩, hm1, hm2⟩ := HBE.out
            by_cases hqd : q < d
            · have ht3 : decide (x < m3) = true := decide_eq_true (by omega)
              have hw : IntKind.i64.wrap (m3 - 1) = m3 - 1 := IntWalk.i64_in _ (by omega)
              have HC := Lib.hid (FD.out _ _ HIQ.out (by have := HA.out; rw [List.length_append, List.length_append, upD_len, dnD_len]; omega))
              have HE3 := Lib.hid (show m3 - 1 = m2 - ((q + 1 : Nat) : Int) ∧ q + 1 ≤ d by omega)
              have HMS := Lib.hid (show 1 ≤ m3 by omega)
              clear hj1 hj2 hu hd hx1 hx2 hm1 hm2 he1 he2 he3 he4
              go_wp2_with fail
              refine HC.out.mono ?_
              rintro e w3 ⟨rfl, hi⟩
              rw [List.append_assoc, ← dnD_snoc] at hi
              have HI3 := Lib.hid hi
              clear hi HC
              go_wp2
              go_roundw
              case rel => exact ⟨q + 1, m3 - 1, rfl, HE3.out, HI3.out⟩
              case measure => have := HMS.out; simp [intOf]; omega
            · have ht3 : decide (x < m3) = false := decide_eq_false (by omega)
              obtain rfl : q = d := by omega
              obtain rfl : m3 = x := by omega
              have HC := Lib.hid (FZ.out _ _ HIQ.out (by have := HA.out; rw [List.length_append, List.length_append, upD_len, dnD_len]; omega))
              clear hj1 hj2 hu hd hx1 hx2 hm1 hm2 he1 he2 he3 he4
              go_wp2_with fail
              refine HC.out.mono ?_
              rintro e w3 ⟨rfl, hi⟩
              rw [List.append_assoc, List.append_assoc, ← HT2.out] at hi
              have HI3 := Lib.hid hi
              clear hi HC
              go_wp2
              go_roundw
              case rel => exact ⟨k + 1, m3, by omega, by go_num, rfl, HLS.out.symm, HI3.out⟩
              case measure => simp [intOf]; omega
    · obtain rfl : k = l.length := by omega
      have HI2 := Lib.hid (show Inv (bitsD l) wr by rw [HBD.out]; have := HI.out; rwa [List.take_length] at this)
      go_wp2
      go_end0
      exact ⟨rfl, HI2.out⟩
end Go.Proofs.Ytjpjdecbkekcfaa

/-
  No cell of these rows narrows 'for every input' (looked for: loops, veiled, ifaces, maps, wideKeys, modest, calm, conditions, laid).
  DERIVED. THE GIVEN ROWS OF THIS SEAT. 6 by the template 'for every input the law returns true; each argument reads behind the call as it read before'; 0 by the template 'total and deterministic' (their statements: YtnkjmaignpnkpaaTotals.lean).
  GIVEN WITH THE SEED: the statements are not yours to turn. If you find one false, say at which input.
  Laid BY PROGRAM, IN A SANDBOX (cutbox-rows.mjs): the forced cells as the released guide's own fill.sh prints them over the translation 8a4df2f6d0f382b0… (all of the seat's roots in one cut). By AI agents, Wed Nov 11 2026. No macro, syntax, notation, axiom, sorry.
-/
import Derived.Test.YtnkjmaignpnkpaaChecked
import GoSem.Claim
import GoSem.ClaimJoined
import GoSem.ClaimMapViews
import Derived.JoinedTies
import Derived.KernelRfl
namespace Go.Proofs.Ytnkjmaignpnkpaa
/- THE CELL 'sum', in the pinned program and in every row, IS THE sha256 OF THE DUMP (.gsa) THAT YtnkjmaignpnkpaaProg.lean LOADS. Nothing in Lean hashes anything: it is a label: what it is worth is what the hold of that sum in a sandbox is worth. -/
noncomputable def Try.pinned : Pinned := { name := "ytnkjmaignpnkpaa", sum := "8a4df2f6d0f382b00a7232ce36f65af8c475ebf2ed1d92f9fe7cc4750f79b8f8", checked := Try.checked }
namespace Rows
def none {H : Type} : Left H := { results := [], args := [] }

/-- 'balerlaw08.FreqCounts': WHATEVER THE INPUT: true; the input reads as it did. -/
def freqCountsSpec : ChangeSpec := { name := "freqCounts", fn := fun _ => fun
  | [d1, d2] => { results := [.lit (.bool true)], args := [d1, d2] }
  | _ => none }
def freqCountsRow : OpenClaim := { program := "ytnkjmaignpnkpaa", sum := "8a4df2f6d0f382b00a7232ce36f65af8c475ebf2ed1d92f9fe7cc4750f79b8f8", func := "baler/balerlaw08.FreqCounts", spec := "freqCounts", unfollowed := true, recurses := true, apart := false }
def FreqCountsSaid : Prop := freqCountsRow.holds Try.pinned (OpenSpec.ofChange freqCountsSpec)

/-- ITS FALSE NEIGHBOUR: 'it returns false'. Refute it at one input. -/
def freqCountsWrong : ChangeSpec := { name := "freqCounts", fn := fun _ => fun
  | [d1, d2] => { results := [.lit (.bool false)], args := [d1, d2] }
  | _ => none }
def FreqCountsWrongFalsely : Prop := freqCountsRow.holds Try.pinned (OpenSpec.ofChange freqCountsWrong)

/-- 'balerlaw08.FreqCosts': WHATEVER THE INPUT: true; the input reads as it did. -/
def freqCostsSpec : ChangeSpec := { name := "freqCosts", fn := fun _ => fun
  | [d1, d2] => { results := [.lit (.bool true)], args := [d1, d2] }
  | _ => none }
def freqCostsRow : OpenClaim := { program := "ytnkjmaignpnkpaa", sum := "8a4df2f6d0f382b00a7232ce36f65af8c475ebf2ed1d92f9fe7cc4750f79b8f8", func := "baler/balerlaw08.FreqCosts", spec := "freqCosts", unfollowed := true, recurses := true, apart := false }
def FreqCostsSaid : Prop := freqCostsRow.holds Try.pinned (OpenSpec.ofChange freqCostsSpec)

/-- ITS FALSE NEIGHBOUR: 'it returns false'. Refute it at one input. -/
def freqCostsWrong : ChangeSpec := { name := "freqCosts", fn := fun _ => fun
  | [d1, d2] => { results := [.lit (.bool false)], args := [d1, d2] }
  | _ => none }
def FreqCostsWrongFalsely : Prop := freqCostsRow.holds Try.pinned (OpenSpec.ofChange freqCostsWrong)

/-- 'balerlaw08.FreqWeighed': WHATEVER THE INPUT: true; the input reads as it did. -/
def freqWeighedSpec : ChangeSpec := { name := "freqWeighed", fn := fun _ => fun
  | [d1, d2] => { results := [.lit (.bool true)], args := [d1, d2] }
  | _ => none }
def freqWeighedRow : OpenClaim := { program := "ytnkjmaignpnkpaa", sum := "8a4df2f6d0f382b00a7232ce36f65af8c475ebf2ed1d92f9fe7cc4750f79b8f8", func := "baler/balerlaw08.FreqWeighed", spec := "freqWeighed", unfollowed := true, recurses := true, apart := false }
def FreqWeighedSaid : Prop := freqWeighedRow.holds Try.pinned (OpenSpec.ofChange freqWeighedSpec)

/-- ITS FALSE NEIGHBOUR: 'it returns false'. Refute it at one input. -/
def freqWeighedWrong : ChangeSpec := { name := "freqWeighed", fn := fun _ => fun
  | [d1, d2] => { results := [.lit (.bool false)], args := [d1, d2] }
  | _ => none }
def FreqWeighedWrongFalsely : Prop := freqWeighedRow.holds Try.pinned (OpenSpec.ofChange freqWeighedWrong)

/-- 'balerlaw08.FreqAdds': WHATEVER THE INPUT: true; the input reads as it did. -/
def freqAddsSpec : ChangeSpec := { name := "freqAdds", fn := fun _ => fun
  | [d1, d2] => { results := [.lit (.bool true)], args := [d1, d2] }
  | _ => none }
def freqAddsRow : OpenClaim := { program := "ytnkjmaignpnkpaa", sum := "8a4df2f6d0f382b00a7232ce36f65af8c475ebf2ed1d92f9fe7cc4750f79b8f8", func := "baler/balerlaw08.FreqAdds", spec := "freqAdds", unfollowed := true, recurses := true, apart := false }
def FreqAddsSaid : Prop := freqAddsRow.holds Try.pinned (OpenSpec.ofChange freqAddsSpec)

/-- ITS FALSE NEIGHBOUR: 'it returns false'. Refute it at one input. -/
def freqAddsWrong : ChangeSpec := { name := "freqAdds", fn := fun _ => fun
  | [d1, d2] => { results := [.lit (.bool false)], args := [d1, d2] }
  | _ => none }
def FreqAddsWrongFalsely : Prop := freqAddsRow.holds Try.pinned (OpenSpec.ofChange freqAddsWrong)

/-- 'balerlaw08.FreqGroups': WHATEVER THE INPUT: true; the input reads as it did. -/
def freqGroupsSpec : ChangeSpec := { name := "freqGroups", fn := fun _ => fun
  | [d1, d2, d3] => { results := [.lit (.bool true)], args := [d1, d2, d3] }
  | _ => none }
def freqGroupsRow : OpenClaim := { program := "ytnkjmaignpnkpaa", sum := "8a4df2f6d0f382b00a7232ce36f65af8c475ebf2ed1d92f9fe7cc4750f79b8f8", func := "baler/balerlaw08.FreqGroups", spec := "freqGroups", unfollowed := true, recurses := true, apart := false }
def FreqGroupsSaid : Prop := freqGroupsRow.holds Try.pinned (OpenSpec.ofChange freqGroupsSpec)

/-- ITS FALSE NEIGHBOUR: 'it returns false'. Refute it at one input. -/
def freqGroupsWrong : ChangeSpec := { name := "freqGroups", fn := fun _ => fun
  | [d1, d2, d3] => { results := [.lit (.bool false)], args := [d1, d2, d3] }
  | _ => none }
def FreqGroupsWrongFalsely : Prop := freqGroupsRow.holds Try.pinned (OpenSpec.ofChange freqGroupsWrong)

/-- 'balerlaw08.FreqParts': WHATEVER THE INPUT: true; the input reads as it did. -/
def freqPartsSpec : ChangeSpec := { name := "freqParts", fn := fun _ => fun
  | [d1, d2] => { results := [.lit (.bool true)], args := [d1, d2] }
  | _ => none }
def freqPartsRow : OpenClaim := { program := "ytnkjmaignpnkpaa", sum := "8a4df2f6d0f382b00a7232ce36f65af8c475ebf2ed1d92f9fe7cc4750f79b8f8", func := "baler/balerlaw08.FreqParts", spec := "freqParts", unfollowed := true, recurses := true, apart := false }
def FreqPartsSaid : Prop := freqPartsRow.holds Try.pinned (OpenSpec.ofChange freqPartsSpec)

/-- ITS FALSE NEIGHBOUR: 'it returns false'. Refute it at one input. -/
def freqPartsWrong : ChangeSpec := { name := "freqParts", fn := fun _ => fun
  | [d1, d2] => { results := [.lit (.bool false)], args := [d1, d2] }
  | _ => none }
def FreqPartsWrongFalsely : Prop := freqPartsRow.holds Try.pinned (OpenSpec.ofChange freqPartsWrong)

/- THE SECOND FORM. 'bulk': how many values and letters a reading holds, each counted each time it is reached (what is shared counts as often as it is met; a slice's spare places count too). A statement '..UptoSaid' is the law's where the arguments, and the package variables that the reading takes, are together of bulk at most 1048576: NARROWER than '..Said'. Prove '..Said' where nothing that the law and all that it calls make is longer than what came in: it says more and counts as full. Else prove '..UptoSaid'. A law counts once. -/
mutual
def uptoBulk {H : Type} : DataW H → Nat
  | .lit (.string bytes) => bytes.length + 1
  | .lit _ => 1
  | .nil => 1
  | .ptr d => uptoBulk d + 1
  | .slice elems spare => uptoBulkAll elems + uptoBulkAll spare + 1
  | .agg parts => uptoBulkAll parts + 1
  | .iface _ d => uptoBulk d + 1
  | .map entries => uptoBulkEntries entries + 1
  | .held _ => 1
def uptoBulkAll {H : Type} : List (DataW H) → Nat
  | [] => 0
  | d :: r => uptoBulk d + uptoBulkAll r
def uptoBulkEntries {H : Type} : List (Lit × DataW H) → Nat
  | [] => 0
  | x :: r => uptoBulkEntry x + uptoBulkEntries r
def uptoBulkEntry {H : Type} : Lit × DataW H → Nat
  | (.string bytes, d) => bytes.length + uptoBulk d + 1
  | (_, d) => uptoBulk d + 1
 end
def uptoSmall : (H : Type) → List (DataW H) → Bool := fun _ ds => decide (uptoBulkAll ds ≤ 1048576)
def OpenSpec.upto (s : _root_.Go.ChangeSpec) : _root_.Go.OpenSpec := { _root_.Go.OpenSpec.ofChange s with cond := some uptoSmall }

/-- 'balerlaw08.FreqCounts', WHERE WHAT IT READS IS OF BULK AT MOST 1048576: true; the input reads as it did. -/
def freqCountsUptoRow : OpenClaim := { program := "ytnkjmaignpnkpaa", sum := "8a4df2f6d0f382b00a7232ce36f65af8c475ebf2ed1d92f9fe7cc4750f79b8f8", func := "baler/balerlaw08.FreqCounts", spec := "freqCounts", unfollowed := true, recurses := true, apart := false, narrowed := true }
def FreqCountsUptoSaid : Prop := freqCountsUptoRow.holds Try.pinned (OpenSpec.upto freqCountsSpec)

/-- 'balerlaw08.FreqCosts', WHERE WHAT IT READS IS OF BULK AT MOST 1048576: true; the input reads as it did. -/
def freqCostsUptoRow : OpenClaim := { program := "ytnkjmaignpnkpaa", sum := "8a4df2f6d0f382b00a7232ce36f65af8c475ebf2ed1d92f9fe7cc4750f79b8f8", func := "baler/balerlaw08.FreqCosts", spec := "freqCosts", unfollowed := true, recurses := true, apart := false, narrowed := true }
def FreqCostsUptoSaid : Prop := freqCostsUptoRow.holds Try.pinned (OpenSpec.upto freqCostsSpec)

/-- 'balerlaw08.FreqWeighed', WHERE WHAT IT READS IS OF BULK AT MOST 1048576: true; the input reads as it did. -/
def freqWeighedUptoRow : OpenClaim := { program := "ytnkjmaignpnkpaa", sum := "8a4df2f6d0f382b00a7232ce36f65af8c475ebf2ed1d92f9fe7cc4750f79b8f8", func := "baler/balerlaw08.FreqWeighed", spec := "freqWeighed", unfollowed := true, recurses := true, apart := false, narrowed := true }
def FreqWeighedUptoSaid : Prop := freqWeighedUptoRow.holds Try.pinned (OpenSpec.upto freqWeighedSpec)

/-- 'balerlaw08.FreqAdds', WHERE WHAT IT READS IS OF BULK AT MOST 1048576: true; the input reads as it did. -/
def freqAddsUptoRow : OpenClaim := { program := "ytnkjmaignpnkpaa", sum := "8a4df2f6d0f382b00a7232ce36f65af8c475ebf2ed1d92f9fe7cc4750f79b8f8", func := "baler/balerlaw08.FreqAdds", spec := "freqAdds", unfollowed := true, recurses := true, apart := false, narrowed := true }
def FreqAddsUptoSaid : Prop := freqAddsUptoRow.holds Try.pinned (OpenSpec.upto freqAddsSpec)

/-- 'balerlaw08.FreqGroups', WHERE WHAT IT READS IS OF BULK AT MOST 1048576: true; the input reads as it did. -/
def freqGroupsUptoRow : OpenClaim := { program := "ytnkjmaignpnkpaa", sum := "8a4df2f6d0f382b00a7232ce36f65af8c475ebf2ed1d92f9fe7cc4750f79b8f8", func := "baler/balerlaw08.FreqGroups", spec := "freqGroups", unfollowed := true, recurses := true, apart := false, narrowed := true }
def FreqGroupsUptoSaid : Prop := freqGroupsUptoRow.holds Try.pinned (OpenSpec.upto freqGroupsSpec)

/-- 'balerlaw08.FreqParts', WHERE WHAT IT READS IS OF BULK AT MOST 1048576: true; the input reads as it did. -/
def freqPartsUptoRow : OpenClaim := { program := "ytnkjmaignpnkpaa", sum := "8a4df2f6d0f382b00a7232ce36f65af8c475ebf2ed1d92f9fe7cc4750f79b8f8", func := "baler/balerlaw08.FreqParts", spec := "freqParts", unfollowed := true, recurses := true, apart := false, narrowed := true }
def FreqPartsUptoSaid : Prop := freqPartsUptoRow.holds Try.pinned (OpenSpec.upto freqPartsSpec)

end Rows
end Go.Proofs.Ytnkjmaignpnkpaa

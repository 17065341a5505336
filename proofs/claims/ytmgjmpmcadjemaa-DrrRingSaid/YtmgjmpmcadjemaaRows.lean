/-
  No cell of these rows narrows 'for every input' (looked for: loops, veiled, ifaces, maps, wideKeys, modest, calm, conditions, laid).
  DERIVED. THE GIVEN ROWS OF THIS SEAT. 7 by the template 'for every input the law returns true; each argument reads behind the call as it read before'; 0 by the template 'total and deterministic' (their statements: YtmgjmpmcadjemaaTotals.lean).
  GIVEN WITH THE SEED: the statements are not yours to turn. If you find one false, say at which input.
  Laid BY PROGRAM, IN A SANDBOX (cutbox-rows.mjs): the forced cells as the released guide's own fill.sh prints them over the translation ed108f2246d2bcd4… (all of the seat's roots in one cut). By AI agents, Wed Nov 11 2026. No macro, syntax, notation, axiom, sorry.
-/
import Derived.Test.YtmgjmpmcadjemaaChecked
import GoSem.Claim
import GoSem.ClaimJoined
import GoSem.ClaimMapViews
import Derived.JoinedTies
import Derived.KernelRfl
namespace Go.Proofs.Ytmgjmpmcadjemaa
/- THE CELL 'sum', in the pinned program and in every row, IS THE sha256 OF THE DUMP (.gsa) THAT YtmgjmpmcadjemaaProg.lean LOADS. Nothing in Lean hashes anything: it is a label: what it is worth is what the hold of that sum in a sandbox is worth. -/
noncomputable def Try.pinned : Pinned := { name := "ytmgjmpmcadjemaa", sum := "ed108f2246d2bcd4c29fc0f3b2ee42a9512b1424f3afcf68305acb455ace07bf", checked := Try.checked }
namespace Rows
def none {H : Type} : Left H := { results := [], args := [] }

/-- 'balerlaw37.JobsOnce': WHATEVER THE INPUT: true; the input reads as it did. -/
def jobsOnceSpec : ChangeSpec := { name := "jobsOnce", fn := fun _ => fun
  | [d1, d2] => { results := [.lit (.bool true)], args := [d1, d2] }
  | _ => none }
def jobsOnceRow : OpenClaim := { program := "ytmgjmpmcadjemaa", sum := "ed108f2246d2bcd4c29fc0f3b2ee42a9512b1424f3afcf68305acb455ace07bf", func := "baler/balerlaw37.JobsOnce", spec := "jobsOnce", unfollowed := true, recurses := true, apart := false }
def JobsOnceSaid : Prop := jobsOnceRow.holds Try.pinned (OpenSpec.ofChange jobsOnceSpec)

/-- ITS FALSE NEIGHBOUR: 'it returns false'. Refute it at one input. -/
def jobsOnceWrong : ChangeSpec := { name := "jobsOnce", fn := fun _ => fun
  | [d1, d2] => { results := [.lit (.bool false)], args := [d1, d2] }
  | _ => none }
def JobsOnceWrongFalsely : Prop := jobsOnceRow.holds Try.pinned (OpenSpec.ofChange jobsOnceWrong)

/-- 'balerlaw37.JobsActs': WHATEVER THE INPUT: true; the input reads as it did. -/
def jobsActsSpec : ChangeSpec := { name := "jobsActs", fn := fun _ => fun
  | [d1, d2] => { results := [.lit (.bool true)], args := [d1, d2] }
  | _ => none }
def jobsActsRow : OpenClaim := { program := "ytmgjmpmcadjemaa", sum := "ed108f2246d2bcd4c29fc0f3b2ee42a9512b1424f3afcf68305acb455ace07bf", func := "baler/balerlaw37.JobsActs", spec := "jobsActs", unfollowed := true, recurses := true, apart := false }
def JobsActsSaid : Prop := jobsActsRow.holds Try.pinned (OpenSpec.ofChange jobsActsSpec)

/-- ITS FALSE NEIGHBOUR: 'it returns false'. Refute it at one input. -/
def jobsActsWrong : ChangeSpec := { name := "jobsActs", fn := fun _ => fun
  | [d1, d2] => { results := [.lit (.bool false)], args := [d1, d2] }
  | _ => none }
def JobsActsWrongFalsely : Prop := jobsActsRow.holds Try.pinned (OpenSpec.ofChange jobsActsWrong)

/-- 'balerlaw37.JobsNil': WHATEVER THE INPUT: true; the input reads as it did. -/
def jobsNilSpec : ChangeSpec := { name := "jobsNil", fn := fun _ => fun
  | [d1, d2] => { results := [.lit (.bool true)], args := [d1, d2] }
  | _ => none }
def jobsNilRow : OpenClaim := { program := "ytmgjmpmcadjemaa", sum := "ed108f2246d2bcd4c29fc0f3b2ee42a9512b1424f3afcf68305acb455ace07bf", func := "baler/balerlaw37.JobsNil", spec := "jobsNil", unfollowed := true, recurses := true, apart := false }
def JobsNilSaid : Prop := jobsNilRow.holds Try.pinned (OpenSpec.ofChange jobsNilSpec)

/-- ITS FALSE NEIGHBOUR: 'it returns false'. Refute it at one input. -/
def jobsNilWrong : ChangeSpec := { name := "jobsNil", fn := fun _ => fun
  | [d1, d2] => { results := [.lit (.bool false)], args := [d1, d2] }
  | _ => none }
def JobsNilWrongFalsely : Prop := jobsNilRow.holds Try.pinned (OpenSpec.ofChange jobsNilWrong)

/-- 'balerlaw30.DrrFair': WHATEVER THE INPUT: true; the input reads as it did. -/
def drrFairSpec : ChangeSpec := { name := "drrFair", fn := fun _ => fun
  | [d1, d2, d3] => { results := [.lit (.bool true)], args := [d1, d2, d3] }
  | _ => none }
def drrFairRow : OpenClaim := { program := "ytmgjmpmcadjemaa", sum := "ed108f2246d2bcd4c29fc0f3b2ee42a9512b1424f3afcf68305acb455ace07bf", func := "baler/balerlaw30.DrrFair", spec := "drrFair", unfollowed := true, recurses := true, apart := false }
def DrrFairSaid : Prop := drrFairRow.holds Try.pinned (OpenSpec.ofChange drrFairSpec)

/-- ITS FALSE NEIGHBOUR: 'it returns false'. Refute it at one input. -/
def drrFairWrong : ChangeSpec := { name := "drrFair", fn := fun _ => fun
  | [d1, d2, d3] => { results := [.lit (.bool false)], args := [d1, d2, d3] }
  | _ => none }
def DrrFairWrongFalsely : Prop := drrFairRow.holds Try.pinned (OpenSpec.ofChange drrFairWrong)

/-- 'balerlaw30.DrrActs': WHATEVER THE INPUT: true; the input reads as it did. -/
def drrActsSpec : ChangeSpec := { name := "drrActs", fn := fun _ => fun
  | [d1, d2] => { results := [.lit (.bool true)], args := [d1, d2] }
  | _ => none }
def drrActsRow : OpenClaim := { program := "ytmgjmpmcadjemaa", sum := "ed108f2246d2bcd4c29fc0f3b2ee42a9512b1424f3afcf68305acb455ace07bf", func := "baler/balerlaw30.DrrActs", spec := "drrActs", unfollowed := true, recurses := true, apart := false }
def DrrActsSaid : Prop := drrActsRow.holds Try.pinned (OpenSpec.ofChange drrActsSpec)

/-- ITS FALSE NEIGHBOUR: 'it returns false'. Refute it at one input. -/
def drrActsWrong : ChangeSpec := { name := "drrActs", fn := fun _ => fun
  | [d1, d2] => { results := [.lit (.bool false)], args := [d1, d2] }
  | _ => none }
def DrrActsWrongFalsely : Prop := drrActsRow.holds Try.pinned (OpenSpec.ofChange drrActsWrong)

/-- 'balerlaw30.DrrRing': WHATEVER THE INPUT: true; the input reads as it did. -/
def drrRingSpec : ChangeSpec := { name := "drrRing", fn := fun _ => fun
  | [d1, d2] => { results := [.lit (.bool true)], args := [d1, d2] }
  | _ => none }
def drrRingRow : OpenClaim := { program := "ytmgjmpmcadjemaa", sum := "ed108f2246d2bcd4c29fc0f3b2ee42a9512b1424f3afcf68305acb455ace07bf", func := "baler/balerlaw30.DrrRing", spec := "drrRing", unfollowed := true, recurses := true, apart := false }
def DrrRingSaid : Prop := drrRingRow.holds Try.pinned (OpenSpec.ofChange drrRingSpec)

/-- ITS FALSE NEIGHBOUR: 'it returns false'. Refute it at one input. -/
def drrRingWrong : ChangeSpec := { name := "drrRing", fn := fun _ => fun
  | [d1, d2] => { results := [.lit (.bool false)], args := [d1, d2] }
  | _ => none }
def DrrRingWrongFalsely : Prop := drrRingRow.holds Try.pinned (OpenSpec.ofChange drrRingWrong)

/-- 'balerlaw30.DrrNil': WHATEVER THE INPUT: true; the input reads as it did. -/
def drrNilSpec : ChangeSpec := { name := "drrNil", fn := fun _ => fun
  | [d] => { results := [.lit (.bool true)], args := [d] }
  | _ => none }
def drrNilRow : OpenClaim := { program := "ytmgjmpmcadjemaa", sum := "ed108f2246d2bcd4c29fc0f3b2ee42a9512b1424f3afcf68305acb455ace07bf", func := "baler/balerlaw30.DrrNil", spec := "drrNil", unfollowed := true, recurses := true, apart := false }
def DrrNilSaid : Prop := drrNilRow.holds Try.pinned (OpenSpec.ofChange drrNilSpec)

/-- ITS FALSE NEIGHBOUR: 'it returns false'. Refute it at one input. -/
def drrNilWrong : ChangeSpec := { name := "drrNil", fn := fun _ => fun
  | [d] => { results := [.lit (.bool false)], args := [d] }
  | _ => none }
def DrrNilWrongFalsely : Prop := drrNilRow.holds Try.pinned (OpenSpec.ofChange drrNilWrong)

/- THE SECOND FORM. 'bulk': how many values and letters a reading holds, each counted each time it is reached (what is shared counts as often as it is met; a slice's spare places count too). A statement '..UptoSaid' is the law's where the arguments, and the package variables that the reading takes, are together of bulk at most 1048576: NARROWER than '..Said'. Prove '..Said' where nothing that the law and all that it calls make is longer than what came in: it says more and counts as full. Else prove '..UptoSaid'. A law counts once. -/
mutual
def uptoBulk {H : Type} : DataW H → Nat
  | .lit (.string bytes) => bytes.length + 1
  | .lit _ => 1
  | .nil => 1
  | .ptr d => uptoBulk d + 1
  | .slice elems spare => uptoBulkAll elems + uptoBulkAll spare + 1
  | .agg parts => uptoBulkAll parts + 1
  | .iface _ d => uptoBulk d + 1
  | .map entries => uptoBulkEntries entries + 1
  | .held _ => 1
def uptoBulkAll {H : Type} : List (DataW H) → Nat
  | [] => 0
  | d :: r => uptoBulk d + uptoBulkAll r
def uptoBulkEntries {H : Type} : List (Lit × DataW H) → Nat
  | [] => 0
  | x :: r => uptoBulkEntry x + uptoBulkEntries r
def uptoBulkEntry {H : Type} : Lit × DataW H → Nat
  | (.string bytes, d) => bytes.length + uptoBulk d + 1
  | (_, d) => uptoBulk d + 1
 end
def uptoSmall : (H : Type) → List (DataW H) → Bool := fun _ ds => decide (uptoBulkAll ds ≤ 1048576)
def OpenSpec.upto (s : _root_.Go.ChangeSpec) : _root_.Go.OpenSpec := { _root_.Go.OpenSpec.ofChange s with cond := some uptoSmall }

/-- 'balerlaw37.JobsOnce', WHERE WHAT IT READS IS OF BULK AT MOST 1048576: true; the input reads as it did. -/
def jobsOnceUptoRow : OpenClaim := { program := "ytmgjmpmcadjemaa", sum := "ed108f2246d2bcd4c29fc0f3b2ee42a9512b1424f3afcf68305acb455ace07bf", func := "baler/balerlaw37.JobsOnce", spec := "jobsOnce", unfollowed := true, recurses := true, apart := false, narrowed := true }
def JobsOnceUptoSaid : Prop := jobsOnceUptoRow.holds Try.pinned (OpenSpec.upto jobsOnceSpec)

/-- 'balerlaw37.JobsActs', WHERE WHAT IT READS IS OF BULK AT MOST 1048576: true; the input reads as it did. -/
def jobsActsUptoRow : OpenClaim := { program := "ytmgjmpmcadjemaa", sum := "ed108f2246d2bcd4c29fc0f3b2ee42a9512b1424f3afcf68305acb455ace07bf", func := "baler/balerlaw37.JobsActs", spec := "jobsActs", unfollowed := true, recurses := true, apart := false, narrowed := true }
def JobsActsUptoSaid : Prop := jobsActsUptoRow.holds Try.pinned (OpenSpec.upto jobsActsSpec)

/-- 'balerlaw37.JobsNil', WHERE WHAT IT READS IS OF BULK AT MOST 1048576: true; the input reads as it did. -/
def jobsNilUptoRow : OpenClaim := { program := "ytmgjmpmcadjemaa", sum := "ed108f2246d2bcd4c29fc0f3b2ee42a9512b1424f3afcf68305acb455ace07bf", func := "baler/balerlaw37.JobsNil", spec := "jobsNil", unfollowed := true, recurses := true, apart := false, narrowed := true }
def JobsNilUptoSaid : Prop := jobsNilUptoRow.holds Try.pinned (OpenSpec.upto jobsNilSpec)

/-- 'balerlaw30.DrrFair', WHERE WHAT IT READS IS OF BULK AT MOST 1048576: true; the input reads as it did. -/
def drrFairUptoRow : OpenClaim := { program := "ytmgjmpmcadjemaa", sum := "ed108f2246d2bcd4c29fc0f3b2ee42a9512b1424f3afcf68305acb455ace07bf", func := "baler/balerlaw30.DrrFair", spec := "drrFair", unfollowed := true, recurses := true, apart := false, narrowed := true }
def DrrFairUptoSaid : Prop := drrFairUptoRow.holds Try.pinned (OpenSpec.upto drrFairSpec)

/-- 'balerlaw30.DrrActs', WHERE WHAT IT READS IS OF BULK AT MOST 1048576: true; the input reads as it did. -/
def drrActsUptoRow : OpenClaim := { program := "ytmgjmpmcadjemaa", sum := "ed108f2246d2bcd4c29fc0f3b2ee42a9512b1424f3afcf68305acb455ace07bf", func := "baler/balerlaw30.DrrActs", spec := "drrActs", unfollowed := true, recurses := true, apart := false, narrowed := true }
def DrrActsUptoSaid : Prop := drrActsUptoRow.holds Try.pinned (OpenSpec.upto drrActsSpec)

/-- 'balerlaw30.DrrRing', WHERE WHAT IT READS IS OF BULK AT MOST 1048576: true; the input reads as it did. -/
def drrRingUptoRow : OpenClaim := { program := "ytmgjmpmcadjemaa", sum := "ed108f2246d2bcd4c29fc0f3b2ee42a9512b1424f3afcf68305acb455ace07bf", func := "baler/balerlaw30.DrrRing", spec := "drrRing", unfollowed := true, recurses := true, apart := false, narrowed := true }
def DrrRingUptoSaid : Prop := drrRingUptoRow.holds Try.pinned (OpenSpec.upto drrRingSpec)

/-- 'balerlaw30.DrrNil', WHERE WHAT IT READS IS OF BULK AT MOST 1048576: true; the input reads as it did. -/
def drrNilUptoRow : OpenClaim := { program := "ytmgjmpmcadjemaa", sum := "ed108f2246d2bcd4c29fc0f3b2ee42a9512b1424f3afcf68305acb455ace07bf", func := "baler/balerlaw30.DrrNil", spec := "drrNil", unfollowed := true, recurses := true, apart := false, narrowed := true }
def DrrNilUptoSaid : Prop := drrNilUptoRow.holds Try.pinned (OpenSpec.upto drrNilSpec)

end Rows
end Go.Proofs.Ytmgjmpmcadjemaa

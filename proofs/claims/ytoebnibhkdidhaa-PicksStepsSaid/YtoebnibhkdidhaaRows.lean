/-
  No cell of these rows narrows 'for every input' (looked for: loops, veiled, ifaces, maps, wideKeys, modest, calm, conditions, laid).
  DERIVED. THE GIVEN ROWS OF THIS SEAT. 11 by the template 'for every input the law returns true; each argument reads behind the call as it read before'; 0 by the template 'total and deterministic' (their statements: YtoebnibhkdidhaaTotals.lean).
  GIVEN WITH THE SEED: the statements are not yours to turn. If you find one false, say at which input.
  Laid BY PROGRAM, IN A SANDBOX (cutbox-rows.mjs): the forced cells as the released guide's own fill.sh prints them over the translation b77b8d5ace29d7a8… (all of the seat's roots in one cut). By AI agents, Wed Nov 11 2026. No macro, syntax, notation, axiom, sorry.
-/
import Derived.Test.YtoebnibhkdidhaaChecked
import GoSem.Claim
import GoSem.ClaimJoined
import GoSem.ClaimMapViews
import Derived.JoinedTies
import Derived.KernelRfl
namespace Go.Proofs.Ytoebnibhkdidhaa
/- THE CELL 'sum', in the pinned program and in every row, IS THE sha256 OF THE DUMP (.gsa) THAT YtoebnibhkdidhaaProg.lean LOADS. Nothing in Lean hashes anything: it is a label: what it is worth is what the hold of that sum in a sandbox is worth. -/
noncomputable def Try.pinned : Pinned := { name := "ytoebnibhkdidhaa", sum := "b77b8d5ace29d7a8cfb92634c05f12a0b0d9896b6e2bd9dc87c84a8fbdac18e0", checked := Try.checked }
namespace Rows
def none {H : Type} : Left H := { results := [], args := [] }

/-- 'balerlaw06.MtfEncodes': WHATEVER THE INPUT: true; the input reads as it did. -/
def mtfEncodesSpec : ChangeSpec := { name := "mtfEncodes", fn := fun _ => fun
  | [d1, d2] => { results := [.lit (.bool true)], args := [d1, d2] }
  | _ => none }
def mtfEncodesRow : OpenClaim := { program := "ytoebnibhkdidhaa", sum := "b77b8d5ace29d7a8cfb92634c05f12a0b0d9896b6e2bd9dc87c84a8fbdac18e0", func := "baler/balerlaw06.MtfEncodes", spec := "mtfEncodes", inPlace := ["internal/bytealg.IndexByte"], apart := false }
def MtfEncodesSaid : Prop := mtfEncodesRow.holds Try.pinned (OpenSpec.ofChange mtfEncodesSpec)

/-- ITS FALSE NEIGHBOUR: 'it returns false'. Refute it at one input. -/
def mtfEncodesWrong : ChangeSpec := { name := "mtfEncodes", fn := fun _ => fun
  | [d1, d2] => { results := [.lit (.bool false)], args := [d1, d2] }
  | _ => none }
def MtfEncodesWrongFalsely : Prop := mtfEncodesRow.holds Try.pinned (OpenSpec.ofChange mtfEncodesWrong)

/-- 'balerlaw06.MtfDecodes': WHATEVER THE INPUT: true; the input reads as it did. -/
def mtfDecodesSpec : ChangeSpec := { name := "mtfDecodes", fn := fun _ => fun
  | [d1, d2] => { results := [.lit (.bool true)], args := [d1, d2] }
  | _ => none }
def mtfDecodesRow : OpenClaim := { program := "ytoebnibhkdidhaa", sum := "b77b8d5ace29d7a8cfb92634c05f12a0b0d9896b6e2bd9dc87c84a8fbdac18e0", func := "baler/balerlaw06.MtfDecodes", spec := "mtfDecodes", inPlace := ["internal/bytealg.IndexByte"], apart := false }
def MtfDecodesSaid : Prop := mtfDecodesRow.holds Try.pinned (OpenSpec.ofChange mtfDecodesSpec)

/-- ITS FALSE NEIGHBOUR: 'it returns false'. Refute it at one input. -/
def mtfDecodesWrong : ChangeSpec := { name := "mtfDecodes", fn := fun _ => fun
  | [d1, d2] => { results := [.lit (.bool false)], args := [d1, d2] }
  | _ => none }
def MtfDecodesWrongFalsely : Prop := mtfDecodesRow.holds Try.pinned (OpenSpec.ofChange mtfDecodesWrong)

/-- 'balerlaw06.MtfBack': WHATEVER THE INPUT: true; the input reads as it did. -/
def mtfBackSpec : ChangeSpec := { name := "mtfBack", fn := fun _ => fun
  | [d] => { results := [.lit (.bool true)], args := [d] }
  | _ => none }
def mtfBackRow : OpenClaim := { program := "ytoebnibhkdidhaa", sum := "b77b8d5ace29d7a8cfb92634c05f12a0b0d9896b6e2bd9dc87c84a8fbdac18e0", func := "baler/balerlaw06.MtfBack", spec := "mtfBack", inPlace := ["internal/bytealg.IndexByte"], apart := false }
def MtfBackSaid : Prop := mtfBackRow.holds Try.pinned (OpenSpec.ofChange mtfBackSpec)

/-- ITS FALSE NEIGHBOUR: 'it returns false'. Refute it at one input. -/
def mtfBackWrong : ChangeSpec := { name := "mtfBack", fn := fun _ => fun
  | [d] => { results := [.lit (.bool false)], args := [d] }
  | _ => none }
def MtfBackWrongFalsely : Prop := mtfBackRow.holds Try.pinned (OpenSpec.ofChange mtfBackWrong)

/-- 'balerlaw06.MtfForth': WHATEVER THE INPUT: true; the input reads as it did. -/
def mtfForthSpec : ChangeSpec := { name := "mtfForth", fn := fun _ => fun
  | [d1, d2] => { results := [.lit (.bool true)], args := [d1, d2] }
  | _ => none }
def mtfForthRow : OpenClaim := { program := "ytoebnibhkdidhaa", sum := "b77b8d5ace29d7a8cfb92634c05f12a0b0d9896b6e2bd9dc87c84a8fbdac18e0", func := "baler/balerlaw06.MtfForth", spec := "mtfForth", inPlace := ["internal/bytealg.IndexByte"], apart := false }
def MtfForthSaid : Prop := mtfForthRow.holds Try.pinned (OpenSpec.ofChange mtfForthSpec)

/-- ITS FALSE NEIGHBOUR: 'it returns false'. Refute it at one input. -/
def mtfForthWrong : ChangeSpec := { name := "mtfForth", fn := fun _ => fun
  | [d1, d2] => { results := [.lit (.bool false)], args := [d1, d2] }
  | _ => none }
def MtfForthWrongFalsely : Prop := mtfForthRow.holds Try.pinned (OpenSpec.ofChange mtfForthWrong)

/-- 'balerlaw06.MtfList': WHATEVER THE INPUT: true; the input reads as it did. -/
def mtfListSpec : ChangeSpec := { name := "mtfList", fn := fun _ => fun
  | [d1, d2] => { results := [.lit (.bool true)], args := [d1, d2] }
  | _ => none }
def mtfListRow : OpenClaim := { program := "ytoebnibhkdidhaa", sum := "b77b8d5ace29d7a8cfb92634c05f12a0b0d9896b6e2bd9dc87c84a8fbdac18e0", func := "baler/balerlaw06.MtfList", spec := "mtfList", inPlace := ["internal/bytealg.IndexByte"], apart := false }
def MtfListSaid : Prop := mtfListRow.holds Try.pinned (OpenSpec.ofChange mtfListSpec)

/-- ITS FALSE NEIGHBOUR: 'it returns false'. Refute it at one input. -/
def mtfListWrong : ChangeSpec := { name := "mtfList", fn := fun _ => fun
  | [d1, d2] => { results := [.lit (.bool false)], args := [d1, d2] }
  | _ => none }
def MtfListWrongFalsely : Prop := mtfListRow.holds Try.pinned (OpenSpec.ofChange mtfListWrong)

/-- 'balerlaw06.MtfNil': WHATEVER THE INPUT: true; the input reads as it did. -/
def mtfNilSpec : ChangeSpec := { name := "mtfNil", fn := fun _ => fun
  | [d1, d2] => { results := [.lit (.bool true)], args := [d1, d2] }
  | _ => none }
def mtfNilRow : OpenClaim := { program := "ytoebnibhkdidhaa", sum := "b77b8d5ace29d7a8cfb92634c05f12a0b0d9896b6e2bd9dc87c84a8fbdac18e0", func := "baler/balerlaw06.MtfNil", spec := "mtfNil", inPlace := ["internal/bytealg.IndexByte"], apart := false }
def MtfNilSaid : Prop := mtfNilRow.holds Try.pinned (OpenSpec.ofChange mtfNilSpec)

/-- ITS FALSE NEIGHBOUR: 'it returns false'. Refute it at one input. -/
def mtfNilWrong : ChangeSpec := { name := "mtfNil", fn := fun _ => fun
  | [d1, d2] => { results := [.lit (.bool false)], args := [d1, d2] }
  | _ => none }
def MtfNilWrongFalsely : Prop := mtfNilRow.holds Try.pinned (OpenSpec.ofChange mtfNilWrong)

/-- 'balerlaw13.PicksReads': WHATEVER THE INPUT: true; the input reads as it did. -/
def picksReadsSpec : ChangeSpec := { name := "picksReads", fn := fun _ => fun
  | [d1, d2] => { results := [.lit (.bool true)], args := [d1, d2] }
  | _ => none }
def picksReadsRow : OpenClaim := { program := "ytoebnibhkdidhaa", sum := "b77b8d5ace29d7a8cfb92634c05f12a0b0d9896b6e2bd9dc87c84a8fbdac18e0", func := "baler/balerlaw13.PicksReads", spec := "picksReads", unfollowed := true, recurses := true, apart := false }
def PicksReadsSaid : Prop := picksReadsRow.holds Try.pinned (OpenSpec.ofChange picksReadsSpec)

/-- ITS FALSE NEIGHBOUR: 'it returns false'. Refute it at one input. -/
def picksReadsWrong : ChangeSpec := { name := "picksReads", fn := fun _ => fun
  | [d1, d2] => { results := [.lit (.bool false)], args := [d1, d2] }
  | _ => none }
def PicksReadsWrongFalsely : Prop := picksReadsRow.holds Try.pinned (OpenSpec.ofChange picksReadsWrong)

/-- 'balerlaw13.PicksBack': WHATEVER THE INPUT: true; the input reads as it did. -/
def picksBackSpec : ChangeSpec := { name := "picksBack", fn := fun _ => fun
  | [d1, d2, d3] => { results := [.lit (.bool true)], args := [d1, d2, d3] }
  | _ => none }
def picksBackRow : OpenClaim := { program := "ytoebnibhkdidhaa", sum := "b77b8d5ace29d7a8cfb92634c05f12a0b0d9896b6e2bd9dc87c84a8fbdac18e0", func := "baler/balerlaw13.PicksBack", spec := "picksBack", unfollowed := true, recurses := true, apart := false }
def PicksBackSaid : Prop := picksBackRow.holds Try.pinned (OpenSpec.ofChange picksBackSpec)

/-- ITS FALSE NEIGHBOUR: 'it returns false'. Refute it at one input. -/
def picksBackWrong : ChangeSpec := { name := "picksBack", fn := fun _ => fun
  | [d1, d2, d3] => { results := [.lit (.bool false)], args := [d1, d2, d3] }
  | _ => none }
def PicksBackWrongFalsely : Prop := picksBackRow.holds Try.pinned (OpenSpec.ofChange picksBackWrong)

/-- 'balerlaw13.PicksNil': WHATEVER THE INPUT: true; the input reads as it did. -/
def picksNilSpec : ChangeSpec := { name := "picksNil", fn := fun _ => fun
  | [d1, d2] => { results := [.lit (.bool true)], args := [d1, d2] }
  | _ => none }
def picksNilRow : OpenClaim := { program := "ytoebnibhkdidhaa", sum := "b77b8d5ace29d7a8cfb92634c05f12a0b0d9896b6e2bd9dc87c84a8fbdac18e0", func := "baler/balerlaw13.PicksNil", spec := "picksNil", unfollowed := true, recurses := true, apart := false }
def PicksNilSaid : Prop := picksNilRow.holds Try.pinned (OpenSpec.ofChange picksNilSpec)

/-- ITS FALSE NEIGHBOUR: 'it returns false'. Refute it at one input. -/
def picksNilWrong : ChangeSpec := { name := "picksNil", fn := fun _ => fun
  | [d1, d2] => { results := [.lit (.bool false)], args := [d1, d2] }
  | _ => none }
def PicksNilWrongFalsely : Prop := picksNilRow.holds Try.pinned (OpenSpec.ofChange picksNilWrong)

/-- 'balerlaw13.PicksWrites': WHATEVER THE INPUT: true; the input reads as it did. -/
def picksWritesSpec : ChangeSpec := { name := "picksWrites", fn := fun _ => fun
  | [d1, d2, d3] => { results := [.lit (.bool true)], args := [d1, d2, d3] }
  | _ => none }
def picksWritesRow : OpenClaim := { program := "ytoebnibhkdidhaa", sum := "b77b8d5ace29d7a8cfb92634c05f12a0b0d9896b6e2bd9dc87c84a8fbdac18e0", func := "baler/balerlaw13.PicksWrites", spec := "picksWrites", unfollowed := true, recurses := true, apart := false }
def PicksWritesSaid : Prop := picksWritesRow.holds Try.pinned (OpenSpec.ofChange picksWritesSpec)

/-- ITS FALSE NEIGHBOUR: 'it returns false'. Refute it at one input. -/
def picksWritesWrong : ChangeSpec := { name := "picksWrites", fn := fun _ => fun
  | [d1, d2, d3] => { results := [.lit (.bool false)], args := [d1, d2, d3] }
  | _ => none }
def PicksWritesWrongFalsely : Prop := picksWritesRow.holds Try.pinned (OpenSpec.ofChange picksWritesWrong)

/-- 'balerlaw13.PicksSteps': WHATEVER THE INPUT: true; the input reads as it did. -/
def picksStepsSpec : ChangeSpec := { name := "picksSteps", fn := fun _ => fun
  | [d1, d2] => { results := [.lit (.bool true)], args := [d1, d2] }
  | _ => none }
def picksStepsRow : OpenClaim := { program := "ytoebnibhkdidhaa", sum := "b77b8d5ace29d7a8cfb92634c05f12a0b0d9896b6e2bd9dc87c84a8fbdac18e0", func := "baler/balerlaw13.PicksSteps", spec := "picksSteps", unfollowed := true, recurses := true, apart := false }
def PicksStepsSaid : Prop := picksStepsRow.holds Try.pinned (OpenSpec.ofChange picksStepsSpec)

/-- ITS FALSE NEIGHBOUR: 'it returns false'. Refute it at one input. -/
def picksStepsWrong : ChangeSpec := { name := "picksSteps", fn := fun _ => fun
  | [d1, d2] => { results := [.lit (.bool false)], args := [d1, d2] }
  | _ => none }
def PicksStepsWrongFalsely : Prop := picksStepsRow.holds Try.pinned (OpenSpec.ofChange picksStepsWrong)

/- THE SECOND FORM. 'bulk': how many values and letters a reading holds, each counted each time it is reached (what is shared counts as often as it is met; a slice's spare places count too). A statement '..UptoSaid' is the law's where the arguments, and the package variables that the reading takes, are together of bulk at most 1048576: NARROWER than '..Said'. Prove '..Said' where nothing that the law and all that it calls make is longer than what came in: it says more and counts as full. Else prove '..UptoSaid'. A law counts once. -/
mutual
def uptoBulk {H : Type} : DataW H → Nat
  | .lit (.string bytes) => bytes.length + 1
  | .lit _ => 1
  | .nil => 1
  | .ptr d => uptoBulk d + 1
  | .slice elems spare => uptoBulkAll elems + uptoBulkAll spare + 1
  | .agg parts => uptoBulkAll parts + 1
  | .iface _ d => uptoBulk d + 1
  | .map entries => uptoBulkEntries entries + 1
  | .held _ => 1
def uptoBulkAll {H : Type} : List (DataW H) → Nat
  | [] => 0
  | d :: r => uptoBulk d + uptoBulkAll r
def uptoBulkEntries {H : Type} : List (Lit × DataW H) → Nat
  | [] => 0
  | x :: r => uptoBulkEntry x + uptoBulkEntries r
def uptoBulkEntry {H : Type} : Lit × DataW H → Nat
  | (.string bytes, d) => bytes.length + uptoBulk d + 1
  | (_, d) => uptoBulk d + 1
 end
def uptoSmall : (H : Type) → List (DataW H) → Bool := fun _ ds => decide (uptoBulkAll ds ≤ 1048576)
def OpenSpec.upto (s : _root_.Go.ChangeSpec) : _root_.Go.OpenSpec := { _root_.Go.OpenSpec.ofChange s with cond := some uptoSmall }

/-- 'balerlaw06.MtfEncodes', WHERE WHAT IT READS IS OF BULK AT MOST 1048576: true; the input reads as it did. -/
def mtfEncodesUptoRow : OpenClaim := { program := "ytoebnibhkdidhaa", sum := "b77b8d5ace29d7a8cfb92634c05f12a0b0d9896b6e2bd9dc87c84a8fbdac18e0", func := "baler/balerlaw06.MtfEncodes", spec := "mtfEncodes", inPlace := ["internal/bytealg.IndexByte"], apart := false, narrowed := true }
def MtfEncodesUptoSaid : Prop := mtfEncodesUptoRow.holds Try.pinned (OpenSpec.upto mtfEncodesSpec)

/-- 'balerlaw06.MtfDecodes', WHERE WHAT IT READS IS OF BULK AT MOST 1048576: true; the input reads as it did. -/
def mtfDecodesUptoRow : OpenClaim := { program := "ytoebnibhkdidhaa", sum := "b77b8d5ace29d7a8cfb92634c05f12a0b0d9896b6e2bd9dc87c84a8fbdac18e0", func := "baler/balerlaw06.MtfDecodes", spec := "mtfDecodes", inPlace := ["internal/bytealg.IndexByte"], apart := false, narrowed := true }
def MtfDecodesUptoSaid : Prop := mtfDecodesUptoRow.holds Try.pinned (OpenSpec.upto mtfDecodesSpec)

/-- 'balerlaw06.MtfBack', WHERE WHAT IT READS IS OF BULK AT MOST 1048576: true; the input reads as it did. -/
def mtfBackUptoRow : OpenClaim := { program := "ytoebnibhkdidhaa", sum := "b77b8d5ace29d7a8cfb92634c05f12a0b0d9896b6e2bd9dc87c84a8fbdac18e0", func := "baler/balerlaw06.MtfBack", spec := "mtfBack", inPlace := ["internal/bytealg.IndexByte"], apart := false, narrowed := true }
def MtfBackUptoSaid : Prop := mtfBackUptoRow.holds Try.pinned (OpenSpec.upto mtfBackSpec)

/-- 'balerlaw06.MtfForth', WHERE WHAT IT READS IS OF BULK AT MOST 1048576: true; the input reads as it did. -/
def mtfForthUptoRow : OpenClaim := { program := "ytoebnibhkdidhaa", sum := "b77b8d5ace29d7a8cfb92634c05f12a0b0d9896b6e2bd9dc87c84a8fbdac18e0", func := "baler/balerlaw06.MtfForth", spec := "mtfForth", inPlace := ["internal/bytealg.IndexByte"], apart := false, narrowed := true }
def MtfForthUptoSaid : Prop := mtfForthUptoRow.holds Try.pinned (OpenSpec.upto mtfForthSpec)

/-- 'balerlaw06.MtfList', WHERE WHAT IT READS IS OF BULK AT MOST 1048576: true; the input reads as it did. -/
def mtfListUptoRow : OpenClaim := { program := "ytoebnibhkdidhaa", sum := "b77b8d5ace29d7a8cfb92634c05f12a0b0d9896b6e2bd9dc87c84a8fbdac18e0", func := "baler/balerlaw06.MtfList", spec := "mtfList", inPlace := ["internal/bytealg.IndexByte"], apart := false, narrowed := true }
def MtfListUptoSaid : Prop := mtfListUptoRow.holds Try.pinned (OpenSpec.upto mtfListSpec)

/-- 'balerlaw06.MtfNil', WHERE WHAT IT READS IS OF BULK AT MOST 1048576: true; the input reads as it did. -/
def mtfNilUptoRow : OpenClaim := { program := "ytoebnibhkdidhaa", sum := "b77b8d5ace29d7a8cfb92634c05f12a0b0d9896b6e2bd9dc87c84a8fbdac18e0", func := "baler/balerlaw06.MtfNil", spec := "mtfNil", inPlace := ["internal/bytealg.IndexByte"], apart := false, narrowed := true }
def MtfNilUptoSaid : Prop := mtfNilUptoRow.holds Try.pinned (OpenSpec.upto mtfNilSpec)

/-- 'balerlaw13.PicksReads', WHERE WHAT IT READS IS OF BULK AT MOST 1048576: true; the input reads as it did. -/
def picksReadsUptoRow : OpenClaim := { program := "ytoebnibhkdidhaa", sum := "b77b8d5ace29d7a8cfb92634c05f12a0b0d9896b6e2bd9dc87c84a8fbdac18e0", func := "baler/balerlaw13.PicksReads", spec := "picksReads", unfollowed := true, recurses := true, apart := false, narrowed := true }
def PicksReadsUptoSaid : Prop := picksReadsUptoRow.holds Try.pinned (OpenSpec.upto picksReadsSpec)

/-- 'balerlaw13.PicksBack', WHERE WHAT IT READS IS OF BULK AT MOST 1048576: true; the input reads as it did. -/
def picksBackUptoRow : OpenClaim := { program := "ytoebnibhkdidhaa", sum := "b77b8d5ace29d7a8cfb92634c05f12a0b0d9896b6e2bd9dc87c84a8fbdac18e0", func := "baler/balerlaw13.PicksBack", spec := "picksBack", unfollowed := true, recurses := true, apart := false, narrowed := true }
def PicksBackUptoSaid : Prop := picksBackUptoRow.holds Try.pinned (OpenSpec.upto picksBackSpec)

/-- 'balerlaw13.PicksNil', WHERE WHAT IT READS IS OF BULK AT MOST 1048576: true; the input reads as it did. -/
def picksNilUptoRow : OpenClaim := { program := "ytoebnibhkdidhaa", sum := "b77b8d5ace29d7a8cfb92634c05f12a0b0d9896b6e2bd9dc87c84a8fbdac18e0", func := "baler/balerlaw13.PicksNil", spec := "picksNil", unfollowed := true, recurses := true, apart := false, narrowed := true }
def PicksNilUptoSaid : Prop := picksNilUptoRow.holds Try.pinned (OpenSpec.upto picksNilSpec)

/-- 'balerlaw13.PicksWrites', WHERE WHAT IT READS IS OF BULK AT MOST 1048576: true; the input reads as it did. -/
def picksWritesUptoRow : OpenClaim := { program := "ytoebnibhkdidhaa", sum := "b77b8d5ace29d7a8cfb92634c05f12a0b0d9896b6e2bd9dc87c84a8fbdac18e0", func := "baler/balerlaw13.PicksWrites", spec := "picksWrites", unfollowed := true, recurses := true, apart := false, narrowed := true }
def PicksWritesUptoSaid : Prop := picksWritesUptoRow.holds Try.pinned (OpenSpec.upto picksWritesSpec)

/-- 'balerlaw13.PicksSteps', WHERE WHAT IT READS IS OF BULK AT MOST 1048576: true; the input reads as it did. -/
def picksStepsUptoRow : OpenClaim := { program := "ytoebnibhkdidhaa", sum := "b77b8d5ace29d7a8cfb92634c05f12a0b0d9896b6e2bd9dc87c84a8fbdac18e0", func := "baler/balerlaw13.PicksSteps", spec := "picksSteps", unfollowed := true, recurses := true, apart := false, narrowed := true }
def PicksStepsUptoSaid : Prop := picksStepsUptoRow.holds Try.pinned (OpenSpec.upto picksStepsSpec)

end Rows
end Go.Proofs.Ytoebnibhkdidhaa

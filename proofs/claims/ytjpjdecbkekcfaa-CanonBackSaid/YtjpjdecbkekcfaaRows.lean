/-
  No cell of these rows narrows 'for every input' (looked for: loops, veiled, ifaces, maps, wideKeys, modest, calm, conditions, laid).
  DERIVED. THE GIVEN ROWS OF THIS SEAT. 11 by the template 'for every input the law returns true; each argument reads behind the call as it read before'; 0 by the template 'total and deterministic' (their statements: YtjpjdecbkekcfaaTotals.lean).
  GIVEN WITH THE SEED: the statements are not yours to turn. If you find one false, say at which input.
  Laid BY PROGRAM, IN A SANDBOX (cutbox-rows.mjs): the forced cells as the released guide's own fill.sh prints them over the translation daca977120ba63bf… (all of the seat's roots in one cut). By AI agents, Wed Nov 11 2026. No macro, syntax, notation, axiom, sorry.
-/
import Derived.Test.YtjpjdecbkekcfaaChecked
import GoSem.Claim
import GoSem.ClaimJoined
import GoSem.ClaimMapViews
import Derived.JoinedTies
import Derived.KernelRfl
namespace Go.Proofs.Ytjpjdecbkekcfaa
/- THE CELL 'sum', in the pinned program and in every row, IS THE sha256 OF THE DUMP (.gsa) THAT YtjpjdecbkekcfaaProg.lean LOADS. Nothing in Lean hashes anything: it is a label: what it is worth is what the hold of that sum in a sandbox is worth. -/
noncomputable def Try.pinned : Pinned := { name := "ytjpjdecbkekcfaa", sum := "daca977120ba63bf27631bb5db700cbbb2d4c43cc8414d010df588935a98925a", checked := Try.checked }
namespace Rows
def none {H : Type} : Left H := { results := [], args := [] }

/-- 'balerlaw10.CanonCodes': WHATEVER THE INPUT: true; the input reads as it did. -/
def canonCodesSpec : ChangeSpec := { name := "canonCodes", fn := fun _ => fun
  | [d1, d2] => { results := [.lit (.bool true)], args := [d1, d2] }
  | _ => none }
def canonCodesRow : OpenClaim := { program := "ytjpjdecbkekcfaa", sum := "daca977120ba63bf27631bb5db700cbbb2d4c43cc8414d010df588935a98925a", func := "baler/balerlaw10.CanonCodes", spec := "canonCodes", unfollowed := true, recurses := true, apart := false }
def CanonCodesSaid : Prop := canonCodesRow.holds Try.pinned (OpenSpec.ofChange canonCodesSpec)

/-- ITS FALSE NEIGHBOUR: 'it returns false'. Refute it at one input. -/
def canonCodesWrong : ChangeSpec := { name := "canonCodes", fn := fun _ => fun
  | [d1, d2] => { results := [.lit (.bool false)], args := [d1, d2] }
  | _ => none }
def CanonCodesWrongFalsely : Prop := canonCodesRow.holds Try.pinned (OpenSpec.ofChange canonCodesWrong)

/-- 'balerlaw10.CanonGets': WHATEVER THE INPUT: true; the input reads as it did. -/
def canonGetsSpec : ChangeSpec := { name := "canonGets", fn := fun _ => fun
  | [d1, d2, d3] => { results := [.lit (.bool true)], args := [d1, d2, d3] }
  | _ => none }
def canonGetsRow : OpenClaim := { program := "ytjpjdecbkekcfaa", sum := "daca977120ba63bf27631bb5db700cbbb2d4c43cc8414d010df588935a98925a", func := "baler/balerlaw10.CanonGets", spec := "canonGets", unfollowed := true, recurses := true, apart := false }
def CanonGetsSaid : Prop := canonGetsRow.holds Try.pinned (OpenSpec.ofChange canonGetsSpec)

/-- ITS FALSE NEIGHBOUR: 'it returns false'. Refute it at one input. -/
def canonGetsWrong : ChangeSpec := { name := "canonGets", fn := fun _ => fun
  | [d1, d2, d3] => { results := [.lit (.bool false)], args := [d1, d2, d3] }
  | _ => none }
def CanonGetsWrongFalsely : Prop := canonGetsRow.holds Try.pinned (OpenSpec.ofChange canonGetsWrong)

/-- 'balerlaw10.CanonApart': WHATEVER THE INPUT: true; the input reads as it did. -/
def canonApartSpec : ChangeSpec := { name := "canonApart", fn := fun _ => fun
  | [d1, d2] => { results := [.lit (.bool true)], args := [d1, d2] }
  | _ => none }
def canonApartRow : OpenClaim := { program := "ytjpjdecbkekcfaa", sum := "daca977120ba63bf27631bb5db700cbbb2d4c43cc8414d010df588935a98925a", func := "baler/balerlaw10.CanonApart", spec := "canonApart", unfollowed := true, recurses := true, apart := false }
def CanonApartSaid : Prop := canonApartRow.holds Try.pinned (OpenSpec.ofChange canonApartSpec)

/-- ITS FALSE NEIGHBOUR: 'it returns false'. Refute it at one input. -/
def canonApartWrong : ChangeSpec := { name := "canonApart", fn := fun _ => fun
  | [d1, d2] => { results := [.lit (.bool false)], args := [d1, d2] }
  | _ => none }
def CanonApartWrongFalsely : Prop := canonApartRow.holds Try.pinned (OpenSpec.ofChange canonApartWrong)

/-- 'balerlaw10.CanonNil': WHATEVER THE INPUT: true; the input reads as it did. -/
def canonNilSpec : ChangeSpec := { name := "canonNil", fn := fun _ => fun
  | [d] => { results := [.lit (.bool true)], args := [d] }
  | _ => none }
def canonNilRow : OpenClaim := { program := "ytjpjdecbkekcfaa", sum := "daca977120ba63bf27631bb5db700cbbb2d4c43cc8414d010df588935a98925a", func := "baler/balerlaw10.CanonNil", spec := "canonNil", unfollowed := true, recurses := true, apart := false }
def CanonNilSaid : Prop := canonNilRow.holds Try.pinned (OpenSpec.ofChange canonNilSpec)

/-- ITS FALSE NEIGHBOUR: 'it returns false'. Refute it at one input. -/
def canonNilWrong : ChangeSpec := { name := "canonNil", fn := fun _ => fun
  | [d] => { results := [.lit (.bool false)], args := [d] }
  | _ => none }
def CanonNilWrongFalsely : Prop := canonNilRow.holds Try.pinned (OpenSpec.ofChange canonNilWrong)

/-- 'balerlaw10.CanonBack': WHATEVER THE INPUT: true; the input reads as it did. -/
def canonBackSpec : ChangeSpec := { name := "canonBack", fn := fun _ => fun
  | [d1, d2] => { results := [.lit (.bool true)], args := [d1, d2] }
  | _ => none }
def canonBackRow : OpenClaim := { program := "ytjpjdecbkekcfaa", sum := "daca977120ba63bf27631bb5db700cbbb2d4c43cc8414d010df588935a98925a", func := "baler/balerlaw10.CanonBack", spec := "canonBack", unfollowed := true, recurses := true, apart := false }
def CanonBackSaid : Prop := canonBackRow.holds Try.pinned (OpenSpec.ofChange canonBackSpec)

/-- ITS FALSE NEIGHBOUR: 'it returns false'. Refute it at one input. -/
def canonBackWrong : ChangeSpec := { name := "canonBack", fn := fun _ => fun
  | [d1, d2] => { results := [.lit (.bool false)], args := [d1, d2] }
  | _ => none }
def CanonBackWrongFalsely : Prop := canonBackRow.holds Try.pinned (OpenSpec.ofChange canonBackWrong)

/-- 'balerlaw10.CanonPuts': WHATEVER THE INPUT: true; the input reads as it did. -/
def canonPutsSpec : ChangeSpec := { name := "canonPuts", fn := fun _ => fun
  | [d1, d2] => { results := [.lit (.bool true)], args := [d1, d2] }
  | _ => none }
def canonPutsRow : OpenClaim := { program := "ytjpjdecbkekcfaa", sum := "daca977120ba63bf27631bb5db700cbbb2d4c43cc8414d010df588935a98925a", func := "baler/balerlaw10.CanonPuts", spec := "canonPuts", unfollowed := true, recurses := true, apart := false }
def CanonPutsSaid : Prop := canonPutsRow.holds Try.pinned (OpenSpec.ofChange canonPutsSpec)

/-- ITS FALSE NEIGHBOUR: 'it returns false'. Refute it at one input. -/
def canonPutsWrong : ChangeSpec := { name := "canonPuts", fn := fun _ => fun
  | [d1, d2] => { results := [.lit (.bool false)], args := [d1, d2] }
  | _ => none }
def CanonPutsWrongFalsely : Prop := canonPutsRow.holds Try.pinned (OpenSpec.ofChange canonPutsWrong)

/-- 'balerlaw11.DeltaReads': WHATEVER THE INPUT: true; the input reads as it did. -/
def deltaReadsSpec : ChangeSpec := { name := "deltaReads", fn := fun _ => fun
  | [d1, d2, d3] => { results := [.lit (.bool true)], args := [d1, d2, d3] }
  | _ => none }
def deltaReadsRow : OpenClaim := { program := "ytjpjdecbkekcfaa", sum := "daca977120ba63bf27631bb5db700cbbb2d4c43cc8414d010df588935a98925a", func := "baler/balerlaw11.DeltaReads", spec := "deltaReads", unfollowed := true, recurses := true, apart := false }
def DeltaReadsSaid : Prop := deltaReadsRow.holds Try.pinned (OpenSpec.ofChange deltaReadsSpec)

/-- ITS FALSE NEIGHBOUR: 'it returns false'. Refute it at one input. -/
def deltaReadsWrong : ChangeSpec := { name := "deltaReads", fn := fun _ => fun
  | [d1, d2, d3] => { results := [.lit (.bool false)], args := [d1, d2, d3] }
  | _ => none }
def DeltaReadsWrongFalsely : Prop := deltaReadsRow.holds Try.pinned (OpenSpec.ofChange deltaReadsWrong)

/-- 'balerlaw11.DeltaBack': WHATEVER THE INPUT: true; the input reads as it did. -/
def deltaBackSpec : ChangeSpec := { name := "deltaBack", fn := fun _ => fun
  | [d1, d2] => { results := [.lit (.bool true)], args := [d1, d2] }
  | _ => none }
def deltaBackRow : OpenClaim := { program := "ytjpjdecbkekcfaa", sum := "daca977120ba63bf27631bb5db700cbbb2d4c43cc8414d010df588935a98925a", func := "baler/balerlaw11.DeltaBack", spec := "deltaBack", unfollowed := true, recurses := true, apart := false }
def DeltaBackSaid : Prop := deltaBackRow.holds Try.pinned (OpenSpec.ofChange deltaBackSpec)

/-- ITS FALSE NEIGHBOUR: 'it returns false'. Refute it at one input. -/
def deltaBackWrong : ChangeSpec := { name := "deltaBack", fn := fun _ => fun
  | [d1, d2] => { results := [.lit (.bool false)], args := [d1, d2] }
  | _ => none }
def DeltaBackWrongFalsely : Prop := deltaBackRow.holds Try.pinned (OpenSpec.ofChange deltaBackWrong)

/-- 'balerlaw11.DeltaNil': WHATEVER THE INPUT: true; the input reads as it did. -/
def deltaNilSpec : ChangeSpec := { name := "deltaNil", fn := fun _ => fun
  | [d1, d2] => { results := [.lit (.bool true)], args := [d1, d2] }
  | _ => none }
def deltaNilRow : OpenClaim := { program := "ytjpjdecbkekcfaa", sum := "daca977120ba63bf27631bb5db700cbbb2d4c43cc8414d010df588935a98925a", func := "baler/balerlaw11.DeltaNil", spec := "deltaNil", unfollowed := true, recurses := true, apart := false }
def DeltaNilSaid : Prop := deltaNilRow.holds Try.pinned (OpenSpec.ofChange deltaNilSpec)

/-- ITS FALSE NEIGHBOUR: 'it returns false'. Refute it at one input. -/
def deltaNilWrong : ChangeSpec := { name := "deltaNil", fn := fun _ => fun
  | [d1, d2] => { results := [.lit (.bool false)], args := [d1, d2] }
  | _ => none }
def DeltaNilWrongFalsely : Prop := deltaNilRow.holds Try.pinned (OpenSpec.ofChange deltaNilWrong)

/-- 'balerlaw11.DeltaSteps': WHATEVER THE INPUT: true; the input reads as it did. -/
def deltaStepsSpec : ChangeSpec := { name := "deltaSteps", fn := fun _ => fun
  | [d1, d2, d3] => { results := [.lit (.bool true)], args := [d1, d2, d3] }
  | _ => none }
def deltaStepsRow : OpenClaim := { program := "ytjpjdecbkekcfaa", sum := "daca977120ba63bf27631bb5db700cbbb2d4c43cc8414d010df588935a98925a", func := "baler/balerlaw11.DeltaSteps", spec := "deltaSteps", unfollowed := true, recurses := true, apart := false }
def DeltaStepsSaid : Prop := deltaStepsRow.holds Try.pinned (OpenSpec.ofChange deltaStepsSpec)

/-- ITS FALSE NEIGHBOUR: 'it returns false'. Refute it at one input. -/
def deltaStepsWrong : ChangeSpec := { name := "deltaSteps", fn := fun _ => fun
  | [d1, d2, d3] => { results := [.lit (.bool false)], args := [d1, d2, d3] }
  | _ => none }
def DeltaStepsWrongFalsely : Prop := deltaStepsRow.holds Try.pinned (OpenSpec.ofChange deltaStepsWrong)

/-- 'balerlaw11.DeltaWrites': WHATEVER THE INPUT: true; the input reads as it did. -/
def deltaWritesSpec : ChangeSpec := { name := "deltaWrites", fn := fun _ => fun
  | [d1, d2, d3] => { results := [.lit (.bool true)], args := [d1, d2, d3] }
  | _ => none }
def deltaWritesRow : OpenClaim := { program := "ytjpjdecbkekcfaa", sum := "daca977120ba63bf27631bb5db700cbbb2d4c43cc8414d010df588935a98925a", func := "baler/balerlaw11.DeltaWrites", spec := "deltaWrites", unfollowed := true, recurses := true, apart := false }
def DeltaWritesSaid : Prop := deltaWritesRow.holds Try.pinned (OpenSpec.ofChange deltaWritesSpec)

/-- ITS FALSE NEIGHBOUR: 'it returns false'. Refute it at one input. -/
def deltaWritesWrong : ChangeSpec := { name := "deltaWrites", fn := fun _ => fun
  | [d1, d2, d3] => { results := [.lit (.bool false)], args := [d1, d2, d3] }
  | _ => none }
def DeltaWritesWrongFalsely : Prop := deltaWritesRow.holds Try.pinned (OpenSpec.ofChange deltaWritesWrong)

/- THE SECOND FORM. 'bulk': how many values and letters a reading holds, each counted each time it is reached (what is shared counts as often as it is met; a slice's spare places count too). A statement '..UptoSaid' is the law's where the arguments, and the package variables that the reading takes, are together of bulk at most 1048576: NARROWER than '..Said'. Prove '..Said' where nothing that the law and all that it calls make is longer than what came in: it says more and counts as full. Else prove '..UptoSaid'. A law counts once. -/
mutual
def uptoBulk {H : Type} : DataW H → Nat
  | .lit (.string bytes) => bytes.length + 1
  | .lit _ => 1
  | .nil => 1
  | .ptr d => uptoBulk d + 1
  | .slice elems spare => uptoBulkAll elems + uptoBulkAll spare + 1
  | .agg parts => uptoBulkAll parts + 1
  | .iface _ d => uptoBulk d + 1
  | .map entries => uptoBulkEntries entries + 1
  | .held _ => 1
def uptoBulkAll {H : Type} : List (DataW H) → Nat
  | [] => 0
  | d :: r => uptoBulk d + uptoBulkAll r
def uptoBulkEntries {H : Type} : List (Lit × DataW H) → Nat
  | [] => 0
  | x :: r => uptoBulkEntry x + uptoBulkEntries r
def uptoBulkEntry {H : Type} : Lit × DataW H → Nat
  | (.string bytes, d) => bytes.length + uptoBulk d + 1
  | (_, d) => uptoBulk d + 1
 end
def uptoSmall : (H : Type) → List (DataW H) → Bool := fun _ ds => decide (uptoBulkAll ds ≤ 1048576)
def OpenSpec.upto (s : _root_.Go.ChangeSpec) : _root_.Go.OpenSpec := { _root_.Go.OpenSpec.ofChange s with cond := some uptoSmall }

/-- 'balerlaw10.CanonCodes', WHERE WHAT IT READS IS OF BULK AT MOST 1048576: true; the input reads as it did. -/
def canonCodesUptoRow : OpenClaim := { program := "ytjpjdecbkekcfaa", sum := "daca977120ba63bf27631bb5db700cbbb2d4c43cc8414d010df588935a98925a", func := "baler/balerlaw10.CanonCodes", spec := "canonCodes", unfollowed := true, recurses := true, apart := false, narrowed := true }
def CanonCodesUptoSaid : Prop := canonCodesUptoRow.holds Try.pinned (OpenSpec.upto canonCodesSpec)

/-- 'balerlaw10.CanonGets', WHERE WHAT IT READS IS OF BULK AT MOST 1048576: true; the input reads as it did. -/
def canonGetsUptoRow : OpenClaim := { program := "ytjpjdecbkekcfaa", sum := "daca977120ba63bf27631bb5db700cbbb2d4c43cc8414d010df588935a98925a", func := "baler/balerlaw10.CanonGets", spec := "canonGets", unfollowed := true, recurses := true, apart := false, narrowed := true }
def CanonGetsUptoSaid : Prop := canonGetsUptoRow.holds Try.pinned (OpenSpec.upto canonGetsSpec)

/-- 'balerlaw10.CanonApart', WHERE WHAT IT READS IS OF BULK AT MOST 1048576: true; the input reads as it did. -/
def canonApartUptoRow : OpenClaim := { program := "ytjpjdecbkekcfaa", sum := "daca977120ba63bf27631bb5db700cbbb2d4c43cc8414d010df588935a98925a", func := "baler/balerlaw10.CanonApart", spec := "canonApart", unfollowed := true, recurses := true, apart := false, narrowed := true }
def CanonApartUptoSaid : Prop := canonApartUptoRow.holds Try.pinned (OpenSpec.upto canonApartSpec)

/-- 'balerlaw10.CanonNil', WHERE WHAT IT READS IS OF BULK AT MOST 1048576: true; the input reads as it did. -/
def canonNilUptoRow : OpenClaim := { program := "ytjpjdecbkekcfaa", sum := "daca977120ba63bf27631bb5db700cbbb2d4c43cc8414d010df588935a98925a", func := "baler/balerlaw10.CanonNil", spec := "canonNil", unfollowed := true, recurses := true, apart := false, narrowed := true }
def CanonNilUptoSaid : Prop := canonNilUptoRow.holds Try.pinned (OpenSpec.upto canonNilSpec)

/-- 'balerlaw10.CanonBack', WHERE WHAT IT READS IS OF BULK AT MOST 1048576: true; the input reads as it did. -/
def canonBackUptoRow : OpenClaim := { program := "ytjpjdecbkekcfaa", sum := "daca977120ba63bf27631bb5db700cbbb2d4c43cc8414d010df588935a98925a", func := "baler/balerlaw10.CanonBack", spec := "canonBack", unfollowed := true, recurses := true, apart := false, narrowed := true }
def CanonBackUptoSaid : Prop := canonBackUptoRow.holds Try.pinned (OpenSpec.upto canonBackSpec)

/-- 'balerlaw10.CanonPuts', WHERE WHAT IT READS IS OF BULK AT MOST 1048576: true; the input reads as it did. -/
def canonPutsUptoRow : OpenClaim := { program := "ytjpjdecbkekcfaa", sum := "daca977120ba63bf27631bb5db700cbbb2d4c43cc8414d010df588935a98925a", func := "baler/balerlaw10.CanonPuts", spec := "canonPuts", unfollowed := true, recurses := true, apart := false, narrowed := true }
def CanonPutsUptoSaid : Prop := canonPutsUptoRow.holds Try.pinned (OpenSpec.upto canonPutsSpec)

/-- 'balerlaw11.DeltaReads', WHERE WHAT IT READS IS OF BULK AT MOST 1048576: true; the input reads as it did. -/
def deltaReadsUptoRow : OpenClaim := { program := "ytjpjdecbkekcfaa", sum := "daca977120ba63bf27631bb5db700cbbb2d4c43cc8414d010df588935a98925a", func := "baler/balerlaw11.DeltaReads", spec := "deltaReads", unfollowed := true, recurses := true, apart := false, narrowed := true }
def DeltaReadsUptoSaid : Prop := deltaReadsUptoRow.holds Try.pinned (OpenSpec.upto deltaReadsSpec)

/-- 'balerlaw11.DeltaBack', WHERE WHAT IT READS IS OF BULK AT MOST 1048576: true; the input reads as it did. -/
def deltaBackUptoRow : OpenClaim := { program := "ytjpjdecbkekcfaa", sum := "daca977120ba63bf27631bb5db700cbbb2d4c43cc8414d010df588935a98925a", func := "baler/balerlaw11.DeltaBack", spec := "deltaBack", unfollowed := true, recurses := true, apart := false, narrowed := true }
def DeltaBackUptoSaid : Prop := deltaBackUptoRow.holds Try.pinned (OpenSpec.upto deltaBackSpec)

/-- 'balerlaw11.DeltaNil', WHERE WHAT IT READS IS OF BULK AT MOST 1048576: true; the input reads as it did. -/
def deltaNilUptoRow : OpenClaim := { program := "ytjpjdecbkekcfaa", sum := "daca977120ba63bf27631bb5db700cbbb2d4c43cc8414d010df588935a98925a", func := "baler/balerlaw11.DeltaNil", spec := "deltaNil", unfollowed := true, recurses := true, apart := false, narrowed := true }
def DeltaNilUptoSaid : Prop := deltaNilUptoRow.holds Try.pinned (OpenSpec.upto deltaNilSpec)

/-- 'balerlaw11.DeltaSteps', WHERE WHAT IT READS IS OF BULK AT MOST 1048576: true; the input reads as it did. -/
def deltaStepsUptoRow : OpenClaim := { program := "ytjpjdecbkekcfaa", sum := "daca977120ba63bf27631bb5db700cbbb2d4c43cc8414d010df588935a98925a", func := "baler/balerlaw11.DeltaSteps", spec := "deltaSteps", unfollowed := true, recurses := true, apart := false, narrowed := true }
def DeltaStepsUptoSaid : Prop := deltaStepsUptoRow.holds Try.pinned (OpenSpec.upto deltaStepsSpec)

/-- 'balerlaw11.DeltaWrites', WHERE WHAT IT READS IS OF BULK AT MOST 1048576: true; the input reads as it did. -/
def deltaWritesUptoRow : OpenClaim := { program := "ytjpjdecbkekcfaa", sum := "daca977120ba63bf27631bb5db700cbbb2d4c43cc8414d010df588935a98925a", func := "baler/balerlaw11.DeltaWrites", spec := "deltaWrites", unfollowed := true, recurses := true, apart := false, narrowed := true }
def DeltaWritesUptoSaid : Prop := deltaWritesUptoRow.holds Try.pinned (OpenSpec.upto deltaWritesSpec)

end Rows
end Go.Proofs.Ytjpjdecbkekcfaa

/-
  No cell of these rows narrows 'for every input' (looked for: loops, veiled, ifaces, maps, wideKeys, modest, calm, conditions, laid).
  DERIVED. THE GIVEN ROWS OF THIS SEAT. 11 by the template 'for every input the law returns true; each argument reads behind the call as it read before'; 0 by the template 'total and deterministic' (their statements: YtbbiohcmfhdmnaaTotals.lean).
  GIVEN WITH THE SEED: the statements are not yours to turn. If you find one false, say at which input.
  Laid BY PROGRAM, IN A SANDBOX (cutbox-rows.mjs): the forced cells as the released guide's own fill.sh prints them over the translation 8f57c2bfe7ef853f… (all of the seat's roots in one cut). By AI agents, Wed Nov 11 2026. No macro, syntax, notation, axiom, sorry.
-/
import Derived.Test.YtbbiohcmfhdmnaaChecked
import GoSem.Claim
import GoSem.ClaimJoined
import GoSem.ClaimMapViews
import Derived.JoinedTies
import Derived.KernelRfl
namespace Go.Proofs.Ytbbiohcmfhdmnaa
/- THE CELL 'sum', in the pinned program and in every row, IS THE sha256 OF THE DUMP (.gsa) THAT YtbbiohcmfhdmnaaProg.lean LOADS. Nothing in Lean hashes anything: it is a label: what it is worth is what the hold of that sum in a sandbox is worth. -/
noncomputable def Try.pinned : Pinned := { name := "ytbbiohcmfhdmnaa", sum := "8f57c2bfe7ef853ff98009aa32049eabfdd565361c03cca48802c91186fe555a", checked := Try.checked }
namespace Rows
def none {H : Type} : Left H := { results := [], args := [] }

/-- 'balerlaw01.BitsBack': WHATEVER THE INPUT: true; the input reads as it did. -/
def bitsBackSpec : ChangeSpec := { name := "bitsBack", fn := fun _ => fun
  | [d] => { results := [.lit (.bool true)], args := [d] }
  | _ => none }
def bitsBackRow : OpenClaim := { program := "ytbbiohcmfhdmnaa", sum := "8f57c2bfe7ef853ff98009aa32049eabfdd565361c03cca48802c91186fe555a", func := "baler/balerlaw01.BitsBack", spec := "bitsBack", apart := false }
def BitsBackSaid : Prop := bitsBackRow.holds Try.pinned (OpenSpec.ofChange bitsBackSpec)

/-- ITS FALSE NEIGHBOUR: 'it returns false'. Refute it at one input. -/
def bitsBackWrong : ChangeSpec := { name := "bitsBack", fn := fun _ => fun
  | [d] => { results := [.lit (.bool false)], args := [d] }
  | _ => none }
def BitsBackWrongFalsely : Prop := bitsBackRow.holds Try.pinned (OpenSpec.ofChange bitsBackWrong)

/-- 'balerlaw01.BitsWrites': WHATEVER THE INPUT: true; the input reads as it did. -/
def bitsWritesSpec : ChangeSpec := { name := "bitsWrites", fn := fun _ => fun
  | [d] => { results := [.lit (.bool true)], args := [d] }
  | _ => none }
def bitsWritesRow : OpenClaim := { program := "ytbbiohcmfhdmnaa", sum := "8f57c2bfe7ef853ff98009aa32049eabfdd565361c03cca48802c91186fe555a", func := "baler/balerlaw01.BitsWrites", spec := "bitsWrites", apart := false }
def BitsWritesSaid : Prop := bitsWritesRow.holds Try.pinned (OpenSpec.ofChange bitsWritesSpec)

/-- ITS FALSE NEIGHBOUR: 'it returns false'. Refute it at one input. -/
def bitsWritesWrong : ChangeSpec := { name := "bitsWrites", fn := fun _ => fun
  | [d] => { results := [.lit (.bool false)], args := [d] }
  | _ => none }
def BitsWritesWrongFalsely : Prop := bitsWritesRow.holds Try.pinned (OpenSpec.ofChange bitsWritesWrong)

/-- 'balerlaw01.BitsPieces': WHATEVER THE INPUT: true; the input reads as it did. -/
def bitsPiecesSpec : ChangeSpec := { name := "bitsPieces", fn := fun _ => fun
  | [d1, d2, d3] => { results := [.lit (.bool true)], args := [d1, d2, d3] }
  | _ => none }
def bitsPiecesRow : OpenClaim := { program := "ytbbiohcmfhdmnaa", sum := "8f57c2bfe7ef853ff98009aa32049eabfdd565361c03cca48802c91186fe555a", func := "baler/balerlaw01.BitsPieces", spec := "bitsPieces", apart := false }
def BitsPiecesSaid : Prop := bitsPiecesRow.holds Try.pinned (OpenSpec.ofChange bitsPiecesSpec)

/-- ITS FALSE NEIGHBOUR: 'it returns false'. Refute it at one input. -/
def bitsPiecesWrong : ChangeSpec := { name := "bitsPieces", fn := fun _ => fun
  | [d1, d2, d3] => { results := [.lit (.bool false)], args := [d1, d2, d3] }
  | _ => none }
def BitsPiecesWrongFalsely : Prop := bitsPiecesRow.holds Try.pinned (OpenSpec.ofChange bitsPiecesWrong)

/-- 'balerlaw01.BitsReads': WHATEVER THE INPUT: true; the input reads as it did. -/
def bitsReadsSpec : ChangeSpec := { name := "bitsReads", fn := fun _ => fun
  | [d1, d2] => { results := [.lit (.bool true)], args := [d1, d2] }
  | _ => none }
def bitsReadsRow : OpenClaim := { program := "ytbbiohcmfhdmnaa", sum := "8f57c2bfe7ef853ff98009aa32049eabfdd565361c03cca48802c91186fe555a", func := "baler/balerlaw01.BitsReads", spec := "bitsReads", apart := false }
def BitsReadsSaid : Prop := bitsReadsRow.holds Try.pinned (OpenSpec.ofChange bitsReadsSpec)

/-- ITS FALSE NEIGHBOUR: 'it returns false'. Refute it at one input. -/
def bitsReadsWrong : ChangeSpec := { name := "bitsReads", fn := fun _ => fun
  | [d1, d2] => { results := [.lit (.bool false)], args := [d1, d2] }
  | _ => none }
def BitsReadsWrongFalsely : Prop := bitsReadsRow.holds Try.pinned (OpenSpec.ofChange bitsReadsWrong)

/-- 'balerlaw01.BitsNil': WHATEVER THE INPUT: true; the input reads as it did. -/
def bitsNilSpec : ChangeSpec := { name := "bitsNil", fn := fun _ => fun
  | [d] => { results := [.lit (.bool true)], args := [d] }
  | _ => none }
def bitsNilRow : OpenClaim := { program := "ytbbiohcmfhdmnaa", sum := "8f57c2bfe7ef853ff98009aa32049eabfdd565361c03cca48802c91186fe555a", func := "baler/balerlaw01.BitsNil", spec := "bitsNil", apart := false }
def BitsNilSaid : Prop := bitsNilRow.holds Try.pinned (OpenSpec.ofChange bitsNilSpec)

/-- ITS FALSE NEIGHBOUR: 'it returns false'. Refute it at one input. -/
def bitsNilWrong : ChangeSpec := { name := "bitsNil", fn := fun _ => fun
  | [d] => { results := [.lit (.bool false)], args := [d] }
  | _ => none }
def BitsNilWrongFalsely : Prop := bitsNilRow.holds Try.pinned (OpenSpec.ofChange bitsNilWrong)

/-- 'balerlaw05.UsedReads': WHATEVER THE INPUT: true; the input reads as it did. -/
def usedReadsSpec : ChangeSpec := { name := "usedReads", fn := fun _ => fun
  | [d1, d2] => { results := [.lit (.bool true)], args := [d1, d2] }
  | _ => none }
def usedReadsRow : OpenClaim := { program := "ytbbiohcmfhdmnaa", sum := "8f57c2bfe7ef853ff98009aa32049eabfdd565361c03cca48802c91186fe555a", func := "baler/balerlaw05.UsedReads", spec := "usedReads", apart := false }
def UsedReadsSaid : Prop := usedReadsRow.holds Try.pinned (OpenSpec.ofChange usedReadsSpec)

/-- ITS FALSE NEIGHBOUR: 'it returns false'. Refute it at one input. -/
def usedReadsWrong : ChangeSpec := { name := "usedReads", fn := fun _ => fun
  | [d1, d2] => { results := [.lit (.bool false)], args := [d1, d2] }
  | _ => none }
def UsedReadsWrongFalsely : Prop := usedReadsRow.holds Try.pinned (OpenSpec.ofChange usedReadsWrong)

/-- 'balerlaw05.UsedLeast': WHATEVER THE INPUT: true; the input reads as it did. -/
def usedLeastSpec : ChangeSpec := { name := "usedLeast", fn := fun _ => fun
  | [d1, d2] => { results := [.lit (.bool true)], args := [d1, d2] }
  | _ => none }
def usedLeastRow : OpenClaim := { program := "ytbbiohcmfhdmnaa", sum := "8f57c2bfe7ef853ff98009aa32049eabfdd565361c03cca48802c91186fe555a", func := "baler/balerlaw05.UsedLeast", spec := "usedLeast", apart := false }
def UsedLeastSaid : Prop := usedLeastRow.holds Try.pinned (OpenSpec.ofChange usedLeastSpec)

/-- ITS FALSE NEIGHBOUR: 'it returns false'. Refute it at one input. -/
def usedLeastWrong : ChangeSpec := { name := "usedLeast", fn := fun _ => fun
  | [d1, d2] => { results := [.lit (.bool false)], args := [d1, d2] }
  | _ => none }
def UsedLeastWrongFalsely : Prop := usedLeastRow.holds Try.pinned (OpenSpec.ofChange usedLeastWrong)

/-- 'balerlaw05.UsedNil': WHATEVER THE INPUT: true; the input reads as it did. -/
def usedNilSpec : ChangeSpec := { name := "usedNil", fn := fun _ => fun
  | [d] => { results := [.lit (.bool true)], args := [d] }
  | _ => none }
def usedNilRow : OpenClaim := { program := "ytbbiohcmfhdmnaa", sum := "8f57c2bfe7ef853ff98009aa32049eabfdd565361c03cca48802c91186fe555a", func := "baler/balerlaw05.UsedNil", spec := "usedNil", apart := false }
def UsedNilSaid : Prop := usedNilRow.holds Try.pinned (OpenSpec.ofChange usedNilSpec)

/-- ITS FALSE NEIGHBOUR: 'it returns false'. Refute it at one input. -/
def usedNilWrong : ChangeSpec := { name := "usedNil", fn := fun _ => fun
  | [d] => { results := [.lit (.bool false)], args := [d] }
  | _ => none }
def UsedNilWrongFalsely : Prop := usedNilRow.holds Try.pinned (OpenSpec.ofChange usedNilWrong)

/-- 'balerlaw05.UsedBack': WHATEVER THE INPUT: true; the input reads as it did. -/
def usedBackSpec : ChangeSpec := { name := "usedBack", fn := fun _ => fun
  | [d1, d2] => { results := [.lit (.bool true)], args := [d1, d2] }
  | _ => none }
def usedBackRow : OpenClaim := { program := "ytbbiohcmfhdmnaa", sum := "8f57c2bfe7ef853ff98009aa32049eabfdd565361c03cca48802c91186fe555a", func := "baler/balerlaw05.UsedBack", spec := "usedBack", apart := false }
def UsedBackSaid : Prop := usedBackRow.holds Try.pinned (OpenSpec.ofChange usedBackSpec)

/-- ITS FALSE NEIGHBOUR: 'it returns false'. Refute it at one input. -/
def usedBackWrong : ChangeSpec := { name := "usedBack", fn := fun _ => fun
  | [d1, d2] => { results := [.lit (.bool false)], args := [d1, d2] }
  | _ => none }
def UsedBackWrongFalsely : Prop := usedBackRow.holds Try.pinned (OpenSpec.ofChange usedBackWrong)

/-- 'balerlaw05.UsedWrites': WHATEVER THE INPUT: true; the input reads as it did. -/
def usedWritesSpec : ChangeSpec := { name := "usedWrites", fn := fun _ => fun
  | [d1, d2, d3] => { results := [.lit (.bool true)], args := [d1, d2, d3] }
  | _ => none }
def usedWritesRow : OpenClaim := { program := "ytbbiohcmfhdmnaa", sum := "8f57c2bfe7ef853ff98009aa32049eabfdd565361c03cca48802c91186fe555a", func := "baler/balerlaw05.UsedWrites", spec := "usedWrites", apart := false }
def UsedWritesSaid : Prop := usedWritesRow.holds Try.pinned (OpenSpec.ofChange usedWritesSpec)

/-- ITS FALSE NEIGHBOUR: 'it returns false'. Refute it at one input. -/
def usedWritesWrong : ChangeSpec := { name := "usedWrites", fn := fun _ => fun
  | [d1, d2, d3] => { results := [.lit (.bool false)], args := [d1, d2, d3] }
  | _ => none }
def UsedWritesWrongFalsely : Prop := usedWritesRow.holds Try.pinned (OpenSpec.ofChange usedWritesWrong)

/-- 'balerlaw05.UsedSymbols': WHATEVER THE INPUT: true; the input reads as it did. -/
def usedSymbolsSpec : ChangeSpec := { name := "usedSymbols", fn := fun _ => fun
  | [d] => { results := [.lit (.bool true)], args := [d] }
  | _ => none }
def usedSymbolsRow : OpenClaim := { program := "ytbbiohcmfhdmnaa", sum := "8f57c2bfe7ef853ff98009aa32049eabfdd565361c03cca48802c91186fe555a", func := "baler/balerlaw05.UsedSymbols", spec := "usedSymbols", apart := false }
def UsedSymbolsSaid : Prop := usedSymbolsRow.holds Try.pinned (OpenSpec.ofChange usedSymbolsSpec)

/-- ITS FALSE NEIGHBOUR: 'it returns false'. Refute it at one input. -/
def usedSymbolsWrong : ChangeSpec := { name := "usedSymbols", fn := fun _ => fun
  | [d] => { results := [.lit (.bool false)], args := [d] }
  | _ => none }
def UsedSymbolsWrongFalsely : Prop := usedSymbolsRow.holds Try.pinned (OpenSpec.ofChange usedSymbolsWrong)

/- THE SECOND FORM. 'bulk': how many values and letters a reading holds, each counted each time it is reached (what is shared counts as often as it is met; a slice's spare places count too). A statement '..UptoSaid' is the law's where the arguments, and the package variables that the reading takes, are together of bulk at most 1048576: NARROWER than '..Said'. Prove '..Said' where nothing that the law and all that it calls make is longer than what came in: it says more and counts as full. Else prove '..UptoSaid'. A law counts once. -/
mutual
def uptoBulk {H : Type} : DataW H → Nat
  | .lit (.string bytes) => bytes.length + 1
  | .lit _ => 1
  | .nil => 1
  | .ptr d => uptoBulk d + 1
  | .slice elems spare => uptoBulkAll elems + uptoBulkAll spare + 1
  | .agg parts => uptoBulkAll parts + 1
  | .iface _ d => uptoBulk d + 1
  | .map entries => uptoBulkEntries entries + 1
  | .held _ => 1
def uptoBulkAll {H : Type} : List (DataW H) → Nat
  | [] => 0
  | d :: r => uptoBulk d + uptoBulkAll r
def uptoBulkEntries {H : Type} : List (Lit × DataW H) → Nat
  | [] => 0
  | x :: r => uptoBulkEntry x + uptoBulkEntries r
def uptoBulkEntry {H : Type} : Lit × DataW H → Nat
  | (.string bytes, d) => bytes.length + uptoBulk d + 1
  | (_, d) => uptoBulk d + 1
 end
def uptoSmall : (H : Type) → List (DataW H) → Bool := fun _ ds => decide (uptoBulkAll ds ≤ 1048576)
def OpenSpec.upto (s : _root_.Go.ChangeSpec) : _root_.Go.OpenSpec := { _root_.Go.OpenSpec.ofChange s with cond := some uptoSmall }

/-- 'balerlaw01.BitsBack', WHERE WHAT IT READS IS OF BULK AT MOST 1048576: true; the input reads as it did. -/
def bitsBackUptoRow : OpenClaim := { program := "ytbbiohcmfhdmnaa", sum := "8f57c2bfe7ef853ff98009aa32049eabfdd565361c03cca48802c91186fe555a", func := "baler/balerlaw01.BitsBack", spec := "bitsBack", apart := false, narrowed := true }
def BitsBackUptoSaid : Prop := bitsBackUptoRow.holds Try.pinned (OpenSpec.upto bitsBackSpec)

/-- 'balerlaw01.BitsWrites', WHERE WHAT IT READS IS OF BULK AT MOST 1048576: true; the input reads as it did. -/
def bitsWritesUptoRow : OpenClaim := { program := "ytbbiohcmfhdmnaa", sum := "8f57c2bfe7ef853ff98009aa32049eabfdd565361c03cca48802c91186fe555a", func := "baler/balerlaw01.BitsWrites", spec := "bitsWrites", apart := false, narrowed := true }
def BitsWritesUptoSaid : Prop := bitsWritesUptoRow.holds Try.pinned (OpenSpec.upto bitsWritesSpec)

/-- 'balerlaw01.BitsPieces', WHERE WHAT IT READS IS OF BULK AT MOST 1048576: true; the input reads as it did. -/
def bitsPiecesUptoRow : OpenClaim := { program := "ytbbiohcmfhdmnaa", sum := "8f57c2bfe7ef853ff98009aa32049eabfdd565361c03cca48802c91186fe555a", func := "baler/balerlaw01.BitsPieces", spec := "bitsPieces", apart := false, narrowed := true }
def BitsPiecesUptoSaid : Prop := bitsPiecesUptoRow.holds Try.pinned (OpenSpec.upto bitsPiecesSpec)

/-- 'balerlaw01.BitsReads', WHERE WHAT IT READS IS OF BULK AT MOST 1048576: true; the input reads as it did. -/
def bitsReadsUptoRow : OpenClaim := { program := "ytbbiohcmfhdmnaa", sum := "8f57c2bfe7ef853ff98009aa32049eabfdd565361c03cca48802c91186fe555a", func := "baler/balerlaw01.BitsReads", spec := "bitsReads", apart := false, narrowed := true }
def BitsReadsUptoSaid : Prop := bitsReadsUptoRow.holds Try.pinned (OpenSpec.upto bitsReadsSpec)

/-- 'balerlaw01.BitsNil', WHERE WHAT IT READS IS OF BULK AT MOST 1048576: true; the input reads as it did. -/
def bitsNilUptoRow : OpenClaim := { program := "ytbbiohcmfhdmnaa", sum := "8f57c2bfe7ef853ff98009aa32049eabfdd565361c03cca48802c91186fe555a", func := "baler/balerlaw01.BitsNil", spec := "bitsNil", apart := false, narrowed := true }
def BitsNilUptoSaid : Prop := bitsNilUptoRow.holds Try.pinned (OpenSpec.upto bitsNilSpec)

/-- 'balerlaw05.UsedReads', WHERE WHAT IT READS IS OF BULK AT MOST 1048576: true; the input reads as it did. -/
def usedReadsUptoRow : OpenClaim := { program := "ytbbiohcmfhdmnaa", sum := "8f57c2bfe7ef853ff98009aa32049eabfdd565361c03cca48802c91186fe555a", func := "baler/balerlaw05.UsedReads", spec := "usedReads", apart := false, narrowed := true }
def UsedReadsUptoSaid : Prop := usedReadsUptoRow.holds Try.pinned (OpenSpec.upto usedReadsSpec)

/-- 'balerlaw05.UsedLeast', WHERE WHAT IT READS IS OF BULK AT MOST 1048576: true; the input reads as it did. -/
def usedLeastUptoRow : OpenClaim := { program := "ytbbiohcmfhdmnaa", sum := "8f57c2bfe7ef853ff98009aa32049eabfdd565361c03cca48802c91186fe555a", func := "baler/balerlaw05.UsedLeast", spec := "usedLeast", apart := false, narrowed := true }
def UsedLeastUptoSaid : Prop := usedLeastUptoRow.holds Try.pinned (OpenSpec.upto usedLeastSpec)

/-- 'balerlaw05.UsedNil', WHERE WHAT IT READS IS OF BULK AT MOST 1048576: true; the input reads as it did. -/
def usedNilUptoRow : OpenClaim := { program := "ytbbiohcmfhdmnaa", sum := "8f57c2bfe7ef853ff98009aa32049eabfdd565361c03cca48802c91186fe555a", func := "baler/balerlaw05.UsedNil", spec := "usedNil", apart := false, narrowed := true }
def UsedNilUptoSaid : Prop := usedNilUptoRow.holds Try.pinned (OpenSpec.upto usedNilSpec)

/-- 'balerlaw05.UsedBack', WHERE WHAT IT READS IS OF BULK AT MOST 1048576: true; the input reads as it did. -/
def usedBackUptoRow : OpenClaim := { program := "ytbbiohcmfhdmnaa", sum := "8f57c2bfe7ef853ff98009aa32049eabfdd565361c03cca48802c91186fe555a", func := "baler/balerlaw05.UsedBack", spec := "usedBack", apart := false, narrowed := true }
def UsedBackUptoSaid : Prop := usedBackUptoRow.holds Try.pinned (OpenSpec.upto usedBackSpec)

/-- 'balerlaw05.UsedWrites', WHERE WHAT IT READS IS OF BULK AT MOST 1048576: true; the input reads as it did. -/
def usedWritesUptoRow : OpenClaim := { program := "ytbbiohcmfhdmnaa", sum := "8f57c2bfe7ef853ff98009aa32049eabfdd565361c03cca48802c91186fe555a", func := "baler/balerlaw05.UsedWrites", spec := "usedWrites", apart := false, narrowed := true }
def UsedWritesUptoSaid : Prop := usedWritesUptoRow.holds Try.pinned (OpenSpec.upto usedWritesSpec)

/-- 'balerlaw05.UsedSymbols', WHERE WHAT IT READS IS OF BULK AT MOST 1048576: true; the input reads as it did. -/
def usedSymbolsUptoRow : OpenClaim := { program := "ytbbiohcmfhdmnaa", sum := "8f57c2bfe7ef853ff98009aa32049eabfdd565361c03cca48802c91186fe555a", func := "baler/balerlaw05.UsedSymbols", spec := "usedSymbols", apart := false, narrowed := true }
def UsedSymbolsUptoSaid : Prop := usedSymbolsUptoRow.holds Try.pinned (OpenSpec.upto usedSymbolsSpec)

end Rows
end Go.Proofs.Ytbbiohcmfhdmnaa

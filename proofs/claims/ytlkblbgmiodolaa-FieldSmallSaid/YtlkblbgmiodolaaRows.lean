/-
  No cell of these rows narrows 'for every input' (looked for: loops, veiled, ifaces, maps, wideKeys, modest, calm, conditions, laid).
  DERIVED. THE GIVEN ROWS OF THIS SEAT. 9 by the template 'for every input the law returns true; each argument reads behind the call as it read before'; 0 by the template 'total and deterministic' (their statements: YtlkblbgmiodolaaTotals.lean).
  GIVEN WITH THE SEED: the statements are not yours to turn. If you find one false, say at which input.
  Laid BY PROGRAM, IN A SANDBOX (cutbox-rows.mjs): the forced cells as the released guide's own fill.sh prints them over the translation 28d9f2f56617d81e… (all of the seat's roots in one cut). By AI agents, Wed Nov 11 2026. No macro, syntax, notation, axiom, sorry.
-/
import Derived.Test.YtlkblbgmiodolaaChecked
import GoSem.Claim
import GoSem.ClaimJoined
import GoSem.ClaimMapViews
import Derived.JoinedTies
import Derived.KernelRfl
namespace Go.Proofs.Ytlkblbgmiodolaa
/- THE CELL 'sum', in the pinned program and in every row, IS THE sha256 OF THE DUMP (.gsa) THAT YtlkblbgmiodolaaProg.lean LOADS. Nothing in Lean hashes anything: it is a label: what it is worth is what the hold of that sum in a sandbox is worth. -/
noncomputable def Try.pinned : Pinned := { name := "ytlkblbgmiodolaa", sum := "28d9f2f56617d81e602b001d95d18fe005b097ff326ccc43f90defc0cfab698c", checked := Try.checked }
namespace Rows
def none {H : Type} : Left H := { results := [], args := [] }

/-- 'fermatalaw02.FieldSuits': WHATEVER THE INPUT: true; the input reads as it did. -/
def fieldSuitsSpec : ChangeSpec := { name := "fieldSuits", fn := fun _ => fun
  | [d1, d2, d3, d4] => { results := [.lit (.bool true)], args := [d1, d2, d3, d4] }
  | _ => none }
def fieldSuitsRow : OpenClaim := { program := "ytlkblbgmiodolaa", sum := "28d9f2f56617d81e602b001d95d18fe005b097ff326ccc43f90defc0cfab698c", func := "fermata/fermatalaw02.FieldSuits", spec := "fieldSuits", unfollowed := true, recurses := true, apart := false }
def FieldSuitsSaid : Prop := fieldSuitsRow.holds Try.pinned (OpenSpec.ofChange fieldSuitsSpec)

/-- ITS FALSE NEIGHBOUR: 'it returns false'. Refute it at one input. -/
def fieldSuitsWrong : ChangeSpec := { name := "fieldSuits", fn := fun _ => fun
  | [d1, d2, d3, d4] => { results := [.lit (.bool false)], args := [d1, d2, d3, d4] }
  | _ => none }
def FieldSuitsWrongFalsely : Prop := fieldSuitsRow.holds Try.pinned (OpenSpec.ofChange fieldSuitsWrong)

/-- 'fermatalaw02.FieldReads': WHATEVER THE INPUT: true; the input reads as it did. -/
def fieldReadsSpec : ChangeSpec := { name := "fieldReads", fn := fun _ => fun
  | [d] => { results := [.lit (.bool true)], args := [d] }
  | _ => none }
def fieldReadsRow : OpenClaim := { program := "ytlkblbgmiodolaa", sum := "28d9f2f56617d81e602b001d95d18fe005b097ff326ccc43f90defc0cfab698c", func := "fermata/fermatalaw02.FieldReads", spec := "fieldReads", unfollowed := true, recurses := true, apart := false }
def FieldReadsSaid : Prop := fieldReadsRow.holds Try.pinned (OpenSpec.ofChange fieldReadsSpec)

/-- ITS FALSE NEIGHBOUR: 'it returns false'. Refute it at one input. -/
def fieldReadsWrong : ChangeSpec := { name := "fieldReads", fn := fun _ => fun
  | [d] => { results := [.lit (.bool false)], args := [d] }
  | _ => none }
def FieldReadsWrongFalsely : Prop := fieldReadsRow.holds Try.pinned (OpenSpec.ofChange fieldReadsWrong)

/-- 'fermatalaw02.FieldBack': WHATEVER THE INPUT: true; the input reads as it did. -/
def fieldBackSpec : ChangeSpec := { name := "fieldBack", fn := fun _ => fun
  | [d1, d2, d3, d4] => { results := [.lit (.bool true)], args := [d1, d2, d3, d4] }
  | _ => none }
def fieldBackRow : OpenClaim := { program := "ytlkblbgmiodolaa", sum := "28d9f2f56617d81e602b001d95d18fe005b097ff326ccc43f90defc0cfab698c", func := "fermata/fermatalaw02.FieldBack", spec := "fieldBack", unfollowed := true, recurses := true, apart := false }
def FieldBackSaid : Prop := fieldBackRow.holds Try.pinned (OpenSpec.ofChange fieldBackSpec)

/-- ITS FALSE NEIGHBOUR: 'it returns false'. Refute it at one input. -/
def fieldBackWrong : ChangeSpec := { name := "fieldBack", fn := fun _ => fun
  | [d1, d2, d3, d4] => { results := [.lit (.bool false)], args := [d1, d2, d3, d4] }
  | _ => none }
def FieldBackWrongFalsely : Prop := fieldBackRow.holds Try.pinned (OpenSpec.ofChange fieldBackWrong)

/-- 'fermatalaw02.FieldCuts': WHATEVER THE INPUT: true; the input reads as it did. -/
def fieldCutsSpec : ChangeSpec := { name := "fieldCuts", fn := fun _ => fun
  | [d1, d2, d3] => { results := [.lit (.bool true)], args := [d1, d2, d3] }
  | _ => none }
def fieldCutsRow : OpenClaim := { program := "ytlkblbgmiodolaa", sum := "28d9f2f56617d81e602b001d95d18fe005b097ff326ccc43f90defc0cfab698c", func := "fermata/fermatalaw02.FieldCuts", spec := "fieldCuts", unfollowed := true, recurses := true, apart := false }
def FieldCutsSaid : Prop := fieldCutsRow.holds Try.pinned (OpenSpec.ofChange fieldCutsSpec)

/-- ITS FALSE NEIGHBOUR: 'it returns false'. Refute it at one input. -/
def fieldCutsWrong : ChangeSpec := { name := "fieldCuts", fn := fun _ => fun
  | [d1, d2, d3] => { results := [.lit (.bool false)], args := [d1, d2, d3] }
  | _ => none }
def FieldCutsWrongFalsely : Prop := fieldCutsRow.holds Try.pinned (OpenSpec.ofChange fieldCutsWrong)

/-- 'fermatalaw02.FieldWrong': WHATEVER THE INPUT: true; the input reads as it did. -/
def fieldWrongSpec : ChangeSpec := { name := "fieldWrong", fn := fun _ => fun
  | [d1, d2, d3, d4] => { results := [.lit (.bool true)], args := [d1, d2, d3, d4] }
  | _ => none }
def fieldWrongRow : OpenClaim := { program := "ytlkblbgmiodolaa", sum := "28d9f2f56617d81e602b001d95d18fe005b097ff326ccc43f90defc0cfab698c", func := "fermata/fermatalaw02.FieldWrong", spec := "fieldWrong", unfollowed := true, recurses := true, apart := false }
def FieldWrongSaid : Prop := fieldWrongRow.holds Try.pinned (OpenSpec.ofChange fieldWrongSpec)

/-- ITS FALSE NEIGHBOUR: 'it returns false'. Refute it at one input. -/
def fieldWrongWrong : ChangeSpec := { name := "fieldWrong", fn := fun _ => fun
  | [d1, d2, d3, d4] => { results := [.lit (.bool false)], args := [d1, d2, d3, d4] }
  | _ => none }
def FieldWrongWrongFalsely : Prop := fieldWrongRow.holds Try.pinned (OpenSpec.ofChange fieldWrongWrong)

/-- 'fermatalaw02.FieldSets': WHATEVER THE INPUT: true; the input reads as it did. -/
def fieldSetsSpec : ChangeSpec := { name := "fieldSets", fn := fun _ => fun
  | [d1, d2, d3, d4] => { results := [.lit (.bool true)], args := [d1, d2, d3, d4] }
  | _ => none }
def fieldSetsRow : OpenClaim := { program := "ytlkblbgmiodolaa", sum := "28d9f2f56617d81e602b001d95d18fe005b097ff326ccc43f90defc0cfab698c", func := "fermata/fermatalaw02.FieldSets", spec := "fieldSets", unfollowed := true, recurses := true, apart := false }
def FieldSetsSaid : Prop := fieldSetsRow.holds Try.pinned (OpenSpec.ofChange fieldSetsSpec)

/-- ITS FALSE NEIGHBOUR: 'it returns false'. Refute it at one input. -/
def fieldSetsWrong : ChangeSpec := { name := "fieldSets", fn := fun _ => fun
  | [d1, d2, d3, d4] => { results := [.lit (.bool false)], args := [d1, d2, d3, d4] }
  | _ => none }
def FieldSetsWrongFalsely : Prop := fieldSetsRow.holds Try.pinned (OpenSpec.ofChange fieldSetsWrong)

/-- 'fermatalaw02.FieldWrites': WHATEVER THE INPUT: true; the input reads as it did. -/
def fieldWritesSpec : ChangeSpec := { name := "fieldWrites", fn := fun _ => fun
  | [d1, d2, d3] => { results := [.lit (.bool true)], args := [d1, d2, d3] }
  | _ => none }
def fieldWritesRow : OpenClaim := { program := "ytlkblbgmiodolaa", sum := "28d9f2f56617d81e602b001d95d18fe005b097ff326ccc43f90defc0cfab698c", func := "fermata/fermatalaw02.FieldWrites", spec := "fieldWrites", unfollowed := true, recurses := true, apart := false }
def FieldWritesSaid : Prop := fieldWritesRow.holds Try.pinned (OpenSpec.ofChange fieldWritesSpec)

/-- ITS FALSE NEIGHBOUR: 'it returns false'. Refute it at one input. -/
def fieldWritesWrong : ChangeSpec := { name := "fieldWrites", fn := fun _ => fun
  | [d1, d2, d3] => { results := [.lit (.bool false)], args := [d1, d2, d3] }
  | _ => none }
def FieldWritesWrongFalsely : Prop := fieldWritesRow.holds Try.pinned (OpenSpec.ofChange fieldWritesWrong)

/-- 'fermatalaw02.FieldSmall': WHATEVER THE INPUT: true; the input reads as it did. -/
def fieldSmallSpec : ChangeSpec := { name := "fieldSmall", fn := fun _ => fun
  | [] => { results := [.lit (.bool true)], args := [] }
  | _ => none }
def fieldSmallRow : OpenClaim := { program := "ytlkblbgmiodolaa", sum := "28d9f2f56617d81e602b001d95d18fe005b097ff326ccc43f90defc0cfab698c", func := "fermata/fermatalaw02.FieldSmall", spec := "fieldSmall", unfollowed := true, recurses := true, apart := false }
def FieldSmallSaid : Prop := fieldSmallRow.holds Try.pinned (OpenSpec.ofChange fieldSmallSpec)

/-- ITS FALSE NEIGHBOUR: 'it returns false'. Refute it at one input. -/
def fieldSmallWrong : ChangeSpec := { name := "fieldSmall", fn := fun _ => fun
  | [] => { results := [.lit (.bool false)], args := [] }
  | _ => none }
def FieldSmallWrongFalsely : Prop := fieldSmallRow.holds Try.pinned (OpenSpec.ofChange fieldSmallWrong)

/-- 'fermatalaw02.FieldNumbers': WHATEVER THE INPUT: true; the input reads as it did. -/
def fieldNumbersSpec : ChangeSpec := { name := "fieldNumbers", fn := fun _ => fun
  | [d1, d2, d3, d4] => { results := [.lit (.bool true)], args := [d1, d2, d3, d4] }
  | _ => none }
def fieldNumbersRow : OpenClaim := { program := "ytlkblbgmiodolaa", sum := "28d9f2f56617d81e602b001d95d18fe005b097ff326ccc43f90defc0cfab698c", func := "fermata/fermatalaw02.FieldNumbers", spec := "fieldNumbers", unfollowed := true, recurses := true, apart := false }
def FieldNumbersSaid : Prop := fieldNumbersRow.holds Try.pinned (OpenSpec.ofChange fieldNumbersSpec)

/-- ITS FALSE NEIGHBOUR: 'it returns false'. Refute it at one input. -/
def fieldNumbersWrong : ChangeSpec := { name := "fieldNumbers", fn := fun _ => fun
  | [d1, d2, d3, d4] => { results := [.lit (.bool false)], args := [d1, d2, d3, d4] }
  | _ => none }
def FieldNumbersWrongFalsely : Prop := fieldNumbersRow.holds Try.pinned (OpenSpec.ofChange fieldNumbersWrong)

/- THE SECOND FORM. 'bulk': how many values and letters a reading holds, each counted each time it is reached (what is shared counts as often as it is met; a slice's spare places count too). A statement '..UptoSaid' is the law's where the arguments, and the package variables that the reading takes, are together of bulk at most 1048576: NARROWER than '..Said'. Prove '..Said' where nothing that the law and all that it calls make is longer than what came in: it says more and counts as full. Else prove '..UptoSaid'. A law counts once. -/
mutual
def uptoBulk {H : Type} : DataW H → Nat
  | .lit (.string bytes) => bytes.length + 1
  | .lit _ => 1
  | .nil => 1
  | .ptr d => uptoBulk d + 1
  | .slice elems spare => uptoBulkAll elems + uptoBulkAll spare + 1
  | .agg parts => uptoBulkAll parts + 1
  | .iface _ d => uptoBulk d + 1
  | .map entries => uptoBulkEntries entries + 1
  | .held _ => 1
def uptoBulkAll {H : Type} : List (DataW H) → Nat
  | [] => 0
  | d :: r => uptoBulk d + uptoBulkAll r
def uptoBulkEntries {H : Type} : List (Lit × DataW H) → Nat
  | [] => 0
  | x :: r => uptoBulkEntry x + uptoBulkEntries r
def uptoBulkEntry {H : Type} : Lit × DataW H → Nat
  | (.string bytes, d) => bytes.length + uptoBulk d + 1
  | (_, d) => uptoBulk d + 1
 end
def uptoSmall : (H : Type) → List (DataW H) → Bool := fun _ ds => decide (uptoBulkAll ds ≤ 1048576)
def OpenSpec.upto (s : _root_.Go.ChangeSpec) : _root_.Go.OpenSpec := { _root_.Go.OpenSpec.ofChange s with cond := some uptoSmall }

/-- 'fermatalaw02.FieldSuits', WHERE WHAT IT READS IS OF BULK AT MOST 1048576: true; the input reads as it did. -/
def fieldSuitsUptoRow : OpenClaim := { program := "ytlkblbgmiodolaa", sum := "28d9f2f56617d81e602b001d95d18fe005b097ff326ccc43f90defc0cfab698c", func := "fermata/fermatalaw02.FieldSuits", spec := "fieldSuits", unfollowed := true, recurses := true, apart := false, narrowed := true }
def FieldSuitsUptoSaid : Prop := fieldSuitsUptoRow.holds Try.pinned (OpenSpec.upto fieldSuitsSpec)

/-- 'fermatalaw02.FieldReads', WHERE WHAT IT READS IS OF BULK AT MOST 1048576: true; the input reads as it did. -/
def fieldReadsUptoRow : OpenClaim := { program := "ytlkblbgmiodolaa", sum := "28d9f2f56617d81e602b001d95d18fe005b097ff326ccc43f90defc0cfab698c", func := "fermata/fermatalaw02.FieldReads", spec := "fieldReads", unfollowed := true, recurses := true, apart := false, narrowed := true }
def FieldReadsUptoSaid : Prop := fieldReadsUptoRow.holds Try.pinned (OpenSpec.upto fieldReadsSpec)

/-- 'fermatalaw02.FieldBack', WHERE WHAT IT READS IS OF BULK AT MOST 1048576: true; the input reads as it did. -/
def fieldBackUptoRow : OpenClaim := { program := "ytlkblbgmiodolaa", sum := "28d9f2f56617d81e602b001d95d18fe005b097ff326ccc43f90defc0cfab698c", func := "fermata/fermatalaw02.FieldBack", spec := "fieldBack", unfollowed := true, recurses := true, apart := false, narrowed := true }
def FieldBackUptoSaid : Prop := fieldBackUptoRow.holds Try.pinned (OpenSpec.upto fieldBackSpec)

/-- 'fermatalaw02.FieldCuts', WHERE WHAT IT READS IS OF BULK AT MOST 1048576: true; the input reads as it did. -/
def fieldCutsUptoRow : OpenClaim := { program := "ytlkblbgmiodolaa", sum := "28d9f2f56617d81e602b001d95d18fe005b097ff326ccc43f90defc0cfab698c", func := "fermata/fermatalaw02.FieldCuts", spec := "fieldCuts", unfollowed := true, recurses := true, apart := false, narrowed := true }
def FieldCutsUptoSaid : Prop := fieldCutsUptoRow.holds Try.pinned (OpenSpec.upto fieldCutsSpec)

/-- 'fermatalaw02.FieldWrong', WHERE WHAT IT READS IS OF BULK AT MOST 1048576: true; the input reads as it did. -/
def fieldWrongUptoRow : OpenClaim := { program := "ytlkblbgmiodolaa", sum := "28d9f2f56617d81e602b001d95d18fe005b097ff326ccc43f90defc0cfab698c", func := "fermata/fermatalaw02.FieldWrong", spec := "fieldWrong", unfollowed := true, recurses := true, apart := false, narrowed := true }
def FieldWrongUptoSaid : Prop := fieldWrongUptoRow.holds Try.pinned (OpenSpec.upto fieldWrongSpec)

/-- 'fermatalaw02.FieldSets', WHERE WHAT IT READS IS OF BULK AT MOST 1048576: true; the input reads as it did. -/
def fieldSetsUptoRow : OpenClaim := { program := "ytlkblbgmiodolaa", sum := "28d9f2f56617d81e602b001d95d18fe005b097ff326ccc43f90defc0cfab698c", func := "fermata/fermatalaw02.FieldSets", spec := "fieldSets", unfollowed := true, recurses := true, apart := false, narrowed := true }
def FieldSetsUptoSaid : Prop := fieldSetsUptoRow.holds Try.pinned (OpenSpec.upto fieldSetsSpec)

/-- 'fermatalaw02.FieldWrites', WHERE WHAT IT READS IS OF BULK AT MOST 1048576: true; the input reads as it did. -/
def fieldWritesUptoRow : OpenClaim := { program := "ytlkblbgmiodolaa", sum := "28d9f2f56617d81e602b001d95d18fe005b097ff326ccc43f90defc0cfab698c", func := "fermata/fermatalaw02.FieldWrites", spec := "fieldWrites", unfollowed := true, recurses := true, apart := false, narrowed := true }
def FieldWritesUptoSaid : Prop := fieldWritesUptoRow.holds Try.pinned (OpenSpec.upto fieldWritesSpec)

/-- 'fermatalaw02.FieldSmall', WHERE WHAT IT READS IS OF BULK AT MOST 1048576: true; the input reads as it did. -/
def fieldSmallUptoRow : OpenClaim := { program := "ytlkblbgmiodolaa", sum := "28d9f2f56617d81e602b001d95d18fe005b097ff326ccc43f90defc0cfab698c", func := "fermata/fermatalaw02.FieldSmall", spec := "fieldSmall", unfollowed := true, recurses := true, apart := false, narrowed := true }
def FieldSmallUptoSaid : Prop := fieldSmallUptoRow.holds Try.pinned (OpenSpec.upto fieldSmallSpec)

/-- 'fermatalaw02.FieldNumbers', WHERE WHAT IT READS IS OF BULK AT MOST 1048576: true; the input reads as it did. -/
def fieldNumbersUptoRow : OpenClaim := { program := "ytlkblbgmiodolaa", sum := "28d9f2f56617d81e602b001d95d18fe005b097ff326ccc43f90defc0cfab698c", func := "fermata/fermatalaw02.FieldNumbers", spec := "fieldNumbers", unfollowed := true, recurses := true, apart := false, narrowed := true }
def FieldNumbersUptoSaid : Prop := fieldNumbersUptoRow.holds Try.pinned (OpenSpec.upto fieldNumbersSpec)

end Rows
end Go.Proofs.Ytlkblbgmiodolaa

/-
  No cell of these rows narrows 'for every input' (looked for: loops, veiled, ifaces, maps, wideKeys, modest, calm, conditions, laid).
  DERIVED. THE GIVEN ROWS OF THIS SEAT. 9 by the template 'for every input the law returns true; each argument reads behind the call as it read before'; 0 by the template 'total and deterministic' (their statements: YtglkgdkdcmilcaaTotals.lean).
  GIVEN WITH THE SEED: the statements are not yours to turn. If you find one false, say at which input.
  Laid BY PROGRAM, IN A SANDBOX (cutbox-rows.mjs): the forced cells as the released guide's own fill.sh prints them over the translation 3c977dd64135a062… (all of the seat's roots in one cut). By AI agents, Wed Nov 11 2026. No macro, syntax, notation, axiom, sorry.
-/
import Derived.Test.YtglkgdkdcmilcaaChecked
import GoSem.Claim
import GoSem.ClaimJoined
import GoSem.ClaimMapViews
import Derived.JoinedTies
import Derived.KernelRfl
namespace Go.Proofs.Ytglkgdkdcmilcaa
/- THE CELL 'sum', in the pinned program and in every row, IS THE sha256 OF THE DUMP (.gsa) THAT YtglkgdkdcmilcaaProg.lean LOADS. Nothing in Lean hashes anything: it is a label: what it is worth is what the hold of that sum in a sandbox is worth. -/
noncomputable def Try.pinned : Pinned := { name := "ytglkgdkdcmilcaa", sum := "3c977dd64135a062b27441badb3f2db51420a90fcc786e7fac03b0bf7183f55c", checked := Try.checked }
namespace Rows
def none {H : Type} : Left H := { results := [], args := [] }

/-- 'fermatalaw22.RightsReads': WHATEVER THE INPUT: true; the input reads as it did. -/
def rightsReadsSpec : ChangeSpec := { name := "rightsReads", fn := fun _ => fun
  | [d] => { results := [.lit (.bool true)], args := [d] }
  | _ => none }
def rightsReadsRow : OpenClaim := { program := "ytglkgdkdcmilcaa", sum := "3c977dd64135a062b27441badb3f2db51420a90fcc786e7fac03b0bf7183f55c", func := "fermata/fermatalaw22.RightsReads", spec := "rightsReads", inPlace := ["internal/abi.NoEscape", "internal/bytealg.MakeNoZero"], unfollowed := true, recurses := true, apart := false }
def RightsReadsSaid : Prop := rightsReadsRow.holds Try.pinned (OpenSpec.ofChange rightsReadsSpec)

/-- ITS FALSE NEIGHBOUR: 'it returns false'. Refute it at one input. -/
def rightsReadsWrong : ChangeSpec := { name := "rightsReads", fn := fun _ => fun
  | [d] => { results := [.lit (.bool false)], args := [d] }
  | _ => none }
def RightsReadsWrongFalsely : Prop := rightsReadsRow.holds Try.pinned (OpenSpec.ofChange rightsReadsWrong)

/-- 'fermatalaw22.RightsNever': WHATEVER THE INPUT: true; the input reads as it did. -/
def rightsNeverSpec : ChangeSpec := { name := "rightsNever", fn := fun _ => fun
  | [d] => { results := [.lit (.bool true)], args := [d] }
  | _ => none }
def rightsNeverRow : OpenClaim := { program := "ytglkgdkdcmilcaa", sum := "3c977dd64135a062b27441badb3f2db51420a90fcc786e7fac03b0bf7183f55c", func := "fermata/fermatalaw22.RightsNever", spec := "rightsNever", inPlace := ["internal/abi.NoEscape", "internal/bytealg.MakeNoZero"], unfollowed := true, recurses := true, apart := false }
def RightsNeverSaid : Prop := rightsNeverRow.holds Try.pinned (OpenSpec.ofChange rightsNeverSpec)

/-- ITS FALSE NEIGHBOUR: 'it returns false'. Refute it at one input. -/
def rightsNeverWrong : ChangeSpec := { name := "rightsNever", fn := fun _ => fun
  | [d] => { results := [.lit (.bool false)], args := [d] }
  | _ => none }
def RightsNeverWrongFalsely : Prop := rightsNeverRow.holds Try.pinned (OpenSpec.ofChange rightsNeverWrong)

/-- 'fermatalaw22.RightsHands': WHATEVER THE INPUT: true; the input reads as it did. -/
def rightsHandsSpec : ChangeSpec := { name := "rightsHands", fn := fun _ => fun
  | [d1, d2, d3] => { results := [.lit (.bool true)], args := [d1, d2, d3] }
  | _ => none }
def rightsHandsRow : OpenClaim := { program := "ytglkgdkdcmilcaa", sum := "3c977dd64135a062b27441badb3f2db51420a90fcc786e7fac03b0bf7183f55c", func := "fermata/fermatalaw22.RightsHands", spec := "rightsHands", inPlace := ["internal/abi.NoEscape", "internal/bytealg.MakeNoZero"], unfollowed := true, recurses := true, apart := false }
def RightsHandsSaid : Prop := rightsHandsRow.holds Try.pinned (OpenSpec.ofChange rightsHandsSpec)

/-- ITS FALSE NEIGHBOUR: 'it returns false'. Refute it at one input. -/
def rightsHandsWrong : ChangeSpec := { name := "rightsHands", fn := fun _ => fun
  | [d1, d2, d3] => { results := [.lit (.bool false)], args := [d1, d2, d3] }
  | _ => none }
def RightsHandsWrongFalsely : Prop := rightsHandsRow.holds Try.pinned (OpenSpec.ofChange rightsHandsWrong)

/-- 'fermatalaw22.RightsAlgebra': WHATEVER THE INPUT: true; the input reads as it did. -/
def rightsAlgebraSpec : ChangeSpec := { name := "rightsAlgebra", fn := fun _ => fun
  | [d1, d2] => { results := [.lit (.bool true)], args := [d1, d2] }
  | _ => none }
def rightsAlgebraRow : OpenClaim := { program := "ytglkgdkdcmilcaa", sum := "3c977dd64135a062b27441badb3f2db51420a90fcc786e7fac03b0bf7183f55c", func := "fermata/fermatalaw22.RightsAlgebra", spec := "rightsAlgebra", inPlace := ["internal/abi.NoEscape", "internal/bytealg.MakeNoZero"], unfollowed := true, recurses := true, apart := false }
def RightsAlgebraSaid : Prop := rightsAlgebraRow.holds Try.pinned (OpenSpec.ofChange rightsAlgebraSpec)

/-- ITS FALSE NEIGHBOUR: 'it returns false'. Refute it at one input. -/
def rightsAlgebraWrong : ChangeSpec := { name := "rightsAlgebra", fn := fun _ => fun
  | [d1, d2] => { results := [.lit (.bool false)], args := [d1, d2] }
  | _ => none }
def RightsAlgebraWrongFalsely : Prop := rightsAlgebraRow.holds Try.pinned (OpenSpec.ofChange rightsAlgebraWrong)

/-- 'fermatalaw22.RightsTells': WHATEVER THE INPUT: true; the input reads as it did. -/
def rightsTellsSpec : ChangeSpec := { name := "rightsTells", fn := fun _ => fun
  | [d1, d2] => { results := [.lit (.bool true)], args := [d1, d2] }
  | _ => none }
def rightsTellsRow : OpenClaim := { program := "ytglkgdkdcmilcaa", sum := "3c977dd64135a062b27441badb3f2db51420a90fcc786e7fac03b0bf7183f55c", func := "fermata/fermatalaw22.RightsTells", spec := "rightsTells", inPlace := ["internal/abi.NoEscape", "internal/bytealg.MakeNoZero"], unfollowed := true, recurses := true, apart := false }
def RightsTellsSaid : Prop := rightsTellsRow.holds Try.pinned (OpenSpec.ofChange rightsTellsSpec)

/-- ITS FALSE NEIGHBOUR: 'it returns false'. Refute it at one input. -/
def rightsTellsWrong : ChangeSpec := { name := "rightsTells", fn := fun _ => fun
  | [d1, d2] => { results := [.lit (.bool false)], args := [d1, d2] }
  | _ => none }
def RightsTellsWrongFalsely : Prop := rightsTellsRow.holds Try.pinned (OpenSpec.ofChange rightsTellsWrong)

/-- 'fermatalaw22.RightsChains': WHATEVER THE INPUT: true; the input reads as it did. -/
def rightsChainsSpec : ChangeSpec := { name := "rightsChains", fn := fun _ => fun
  | [d] => { results := [.lit (.bool true)], args := [d] }
  | _ => none }
def rightsChainsRow : OpenClaim := { program := "ytglkgdkdcmilcaa", sum := "3c977dd64135a062b27441badb3f2db51420a90fcc786e7fac03b0bf7183f55c", func := "fermata/fermatalaw22.RightsChains", spec := "rightsChains", inPlace := ["internal/abi.NoEscape", "internal/bytealg.MakeNoZero"], unfollowed := true, recurses := true, apart := false }
def RightsChainsSaid : Prop := rightsChainsRow.holds Try.pinned (OpenSpec.ofChange rightsChainsSpec)

/-- ITS FALSE NEIGHBOUR: 'it returns false'. Refute it at one input. -/
def rightsChainsWrong : ChangeSpec := { name := "rightsChains", fn := fun _ => fun
  | [d] => { results := [.lit (.bool false)], args := [d] }
  | _ => none }
def RightsChainsWrongFalsely : Prop := rightsChainsRow.holds Try.pinned (OpenSpec.ofChange rightsChainsWrong)

/-- 'fermatalaw22.RightsWrong': WHATEVER THE INPUT: true; the input reads as it did. -/
def rightsWrongSpec : ChangeSpec := { name := "rightsWrong", fn := fun _ => fun
  | [d1, d2, d3, d4] => { results := [.lit (.bool true)], args := [d1, d2, d3, d4] }
  | _ => none }
def rightsWrongRow : OpenClaim := { program := "ytglkgdkdcmilcaa", sum := "3c977dd64135a062b27441badb3f2db51420a90fcc786e7fac03b0bf7183f55c", func := "fermata/fermatalaw22.RightsWrong", spec := "rightsWrong", inPlace := ["internal/abi.NoEscape", "internal/bytealg.MakeNoZero"], unfollowed := true, recurses := true, apart := false }
def RightsWrongSaid : Prop := rightsWrongRow.holds Try.pinned (OpenSpec.ofChange rightsWrongSpec)

/-- ITS FALSE NEIGHBOUR: 'it returns false'. Refute it at one input. -/
def rightsWrongWrong : ChangeSpec := { name := "rightsWrong", fn := fun _ => fun
  | [d1, d2, d3, d4] => { results := [.lit (.bool false)], args := [d1, d2, d3, d4] }
  | _ => none }
def RightsWrongWrongFalsely : Prop := rightsWrongRow.holds Try.pinned (OpenSpec.ofChange rightsWrongWrong)

/-- 'fermatalaw22.RightsSmall': WHATEVER THE INPUT: true; the input reads as it did. -/
def rightsSmallSpec : ChangeSpec := { name := "rightsSmall", fn := fun _ => fun
  | [] => { results := [.lit (.bool true)], args := [] }
  | _ => none }
def rightsSmallRow : OpenClaim := { program := "ytglkgdkdcmilcaa", sum := "3c977dd64135a062b27441badb3f2db51420a90fcc786e7fac03b0bf7183f55c", func := "fermata/fermatalaw22.RightsSmall", spec := "rightsSmall", inPlace := ["internal/abi.NoEscape", "internal/bytealg.MakeNoZero"], unfollowed := true, recurses := true, apart := false }
def RightsSmallSaid : Prop := rightsSmallRow.holds Try.pinned (OpenSpec.ofChange rightsSmallSpec)

/-- ITS FALSE NEIGHBOUR: 'it returns false'. Refute it at one input. -/
def rightsSmallWrong : ChangeSpec := { name := "rightsSmall", fn := fun _ => fun
  | [] => { results := [.lit (.bool false)], args := [] }
  | _ => none }
def RightsSmallWrongFalsely : Prop := rightsSmallRow.holds Try.pinned (OpenSpec.ofChange rightsSmallWrong)

/-- 'fermatalaw22.RightsTexts': WHATEVER THE INPUT: true; the input reads as it did. -/
def rightsTextsSpec : ChangeSpec := { name := "rightsTexts", fn := fun _ => fun
  | [d1, d2, d3] => { results := [.lit (.bool true)], args := [d1, d2, d3] }
  | _ => none }
def rightsTextsRow : OpenClaim := { program := "ytglkgdkdcmilcaa", sum := "3c977dd64135a062b27441badb3f2db51420a90fcc786e7fac03b0bf7183f55c", func := "fermata/fermatalaw22.RightsTexts", spec := "rightsTexts", inPlace := ["internal/abi.NoEscape", "internal/bytealg.MakeNoZero", "internal/bytealg.CountString", "internal/bytealg.IndexByteString", "internal/bytealg.IndexString"], unfollowed := true, recurses := true, named := ["internal/bytealg.MaxLen"], apart := false }
def RightsTextsSaid : Prop := rightsTextsRow.holds Try.pinned (OpenSpec.ofChange rightsTextsSpec)

/-- ITS FALSE NEIGHBOUR: 'it returns false'. Refute it at one input. -/
def rightsTextsWrong : ChangeSpec := { name := "rightsTexts", fn := fun _ => fun
  | [d1, d2, d3] => { results := [.lit (.bool false)], args := [d1, d2, d3] }
  | _ => none }
def RightsTextsWrongFalsely : Prop := rightsTextsRow.holds Try.pinned (OpenSpec.ofChange rightsTextsWrong)

/- THE SECOND FORM. 'bulk': how many values and letters a reading holds, each counted each time it is reached (what is shared counts as often as it is met; a slice's spare places count too). A statement '..UptoSaid' is the law's where the arguments, and the package variables that the reading takes, are together of bulk at most 1048576: NARROWER than '..Said'. Prove '..Said' where nothing that the law and all that it calls make is longer than what came in: it says more and counts as full. Else prove '..UptoSaid'. A law counts once. -/
mutual
def uptoBulk {H : Type} : DataW H → Nat
  | .lit (.string bytes) => bytes.length + 1
  | .lit _ => 1
  | .nil => 1
  | .ptr d => uptoBulk d + 1
  | .slice elems spare => uptoBulkAll elems + uptoBulkAll spare + 1
  | .agg parts => uptoBulkAll parts + 1
  | .iface _ d => uptoBulk d + 1
  | .map entries => uptoBulkEntries entries + 1
  | .held _ => 1
def uptoBulkAll {H : Type} : List (DataW H) → Nat
  | [] => 0
  | d :: r => uptoBulk d + uptoBulkAll r
def uptoBulkEntries {H : Type} : List (Lit × DataW H) → Nat
  | [] => 0
  | x :: r => uptoBulkEntry x + uptoBulkEntries r
def uptoBulkEntry {H : Type} : Lit × DataW H → Nat
  | (.string bytes, d) => bytes.length + uptoBulk d + 1
  | (_, d) => uptoBulk d + 1
 end
def uptoSmall : (H : Type) → List (DataW H) → Bool := fun _ ds => decide (uptoBulkAll ds ≤ 1048576)
def OpenSpec.upto (s : _root_.Go.ChangeSpec) : _root_.Go.OpenSpec := { _root_.Go.OpenSpec.ofChange s with cond := some uptoSmall }

/-- 'fermatalaw22.RightsReads', WHERE WHAT IT READS IS OF BULK AT MOST 1048576: true; the input reads as it did. -/
def rightsReadsUptoRow : OpenClaim := { program := "ytglkgdkdcmilcaa", sum := "3c977dd64135a062b27441badb3f2db51420a90fcc786e7fac03b0bf7183f55c", func := "fermata/fermatalaw22.RightsReads", spec := "rightsReads", inPlace := ["internal/abi.NoEscape", "internal/bytealg.MakeNoZero"], unfollowed := true, recurses := true, apart := false, narrowed := true }
def RightsReadsUptoSaid : Prop := rightsReadsUptoRow.holds Try.pinned (OpenSpec.upto rightsReadsSpec)

/-- 'fermatalaw22.RightsNever', WHERE WHAT IT READS IS OF BULK AT MOST 1048576: true; the input reads as it did. -/
def rightsNeverUptoRow : OpenClaim := { program := "ytglkgdkdcmilcaa", sum := "3c977dd64135a062b27441badb3f2db51420a90fcc786e7fac03b0bf7183f55c", func := "fermata/fermatalaw22.RightsNever", spec := "rightsNever", inPlace := ["internal/abi.NoEscape", "internal/bytealg.MakeNoZero"], unfollowed := true, recurses := true, apart := false, narrowed := true }
def RightsNeverUptoSaid : Prop := rightsNeverUptoRow.holds Try.pinned (OpenSpec.upto rightsNeverSpec)

/-- 'fermatalaw22.RightsHands', WHERE WHAT IT READS IS OF BULK AT MOST 1048576: true; the input reads as it did. -/
def rightsHandsUptoRow : OpenClaim := { program := "ytglkgdkdcmilcaa", sum := "3c977dd64135a062b27441badb3f2db51420a90fcc786e7fac03b0bf7183f55c", func := "fermata/fermatalaw22.RightsHands", spec := "rightsHands", inPlace := ["internal/abi.NoEscape", "internal/bytealg.MakeNoZero"], unfollowed := true, recurses := true, apart := false, narrowed := true }
def RightsHandsUptoSaid : Prop := rightsHandsUptoRow.holds Try.pinned (OpenSpec.upto rightsHandsSpec)

/-- 'fermatalaw22.RightsAlgebra', WHERE WHAT IT READS IS OF BULK AT MOST 1048576: true; the input reads as it did. -/
def rightsAlgebraUptoRow : OpenClaim := { program := "ytglkgdkdcmilcaa", sum := "3c977dd64135a062b27441badb3f2db51420a90fcc786e7fac03b0bf7183f55c", func := "fermata/fermatalaw22.RightsAlgebra", spec := "rightsAlgebra", inPlace := ["internal/abi.NoEscape", "internal/bytealg.MakeNoZero"], unfollowed := true, recurses := true, apart := false, narrowed := true }
def RightsAlgebraUptoSaid : Prop := rightsAlgebraUptoRow.holds Try.pinned (OpenSpec.upto rightsAlgebraSpec)

/-- 'fermatalaw22.RightsTells', WHERE WHAT IT READS IS OF BULK AT MOST 1048576: true; the input reads as it did. -/
def rightsTellsUptoRow : OpenClaim := { program := "ytglkgdkdcmilcaa", sum := "3c977dd64135a062b27441badb3f2db51420a90fcc786e7fac03b0bf7183f55c", func := "fermata/fermatalaw22.RightsTells", spec := "rightsTells", inPlace := ["internal/abi.NoEscape", "internal/bytealg.MakeNoZero"], unfollowed := true, recurses := true, apart := false, narrowed := true }
def RightsTellsUptoSaid : Prop := rightsTellsUptoRow.holds Try.pinned (OpenSpec.upto rightsTellsSpec)

/-- 'fermatalaw22.RightsChains', WHERE WHAT IT READS IS OF BULK AT MOST 1048576: true; the input reads as it did. -/
def rightsChainsUptoRow : OpenClaim := { program := "ytglkgdkdcmilcaa", sum := "3c977dd64135a062b27441badb3f2db51420a90fcc786e7fac03b0bf7183f55c", func := "fermata/fermatalaw22.RightsChains", spec := "rightsChains", inPlace := ["internal/abi.NoEscape", "internal/bytealg.MakeNoZero"], unfollowed := true, recurses := true, apart := false, narrowed := true }
def RightsChainsUptoSaid : Prop := rightsChainsUptoRow.holds Try.pinned (OpenSpec.upto rightsChainsSpec)

/-- 'fermatalaw22.RightsWrong', WHERE WHAT IT READS IS OF BULK AT MOST 1048576: true; the input reads as it did. -/
def rightsWrongUptoRow : OpenClaim := { program := "ytglkgdkdcmilcaa", sum := "3c977dd64135a062b27441badb3f2db51420a90fcc786e7fac03b0bf7183f55c", func := "fermata/fermatalaw22.RightsWrong", spec := "rightsWrong", inPlace := ["internal/abi.NoEscape", "internal/bytealg.MakeNoZero"], unfollowed := true, recurses := true, apart := false, narrowed := true }
def RightsWrongUptoSaid : Prop := rightsWrongUptoRow.holds Try.pinned (OpenSpec.upto rightsWrongSpec)

/-- 'fermatalaw22.RightsSmall', WHERE WHAT IT READS IS OF BULK AT MOST 1048576: true; the input reads as it did. -/
def rightsSmallUptoRow : OpenClaim := { program := "ytglkgdkdcmilcaa", sum := "3c977dd64135a062b27441badb3f2db51420a90fcc786e7fac03b0bf7183f55c", func := "fermata/fermatalaw22.RightsSmall", spec := "rightsSmall", inPlace := ["internal/abi.NoEscape", "internal/bytealg.MakeNoZero"], unfollowed := true, recurses := true, apart := false, narrowed := true }
def RightsSmallUptoSaid : Prop := rightsSmallUptoRow.holds Try.pinned (OpenSpec.upto rightsSmallSpec)

/-- 'fermatalaw22.RightsTexts', WHERE WHAT IT READS IS OF BULK AT MOST 1048576: true; the input reads as it did. -/
def rightsTextsUptoRow : OpenClaim := { program := "ytglkgdkdcmilcaa", sum := "3c977dd64135a062b27441badb3f2db51420a90fcc786e7fac03b0bf7183f55c", func := "fermata/fermatalaw22.RightsTexts", spec := "rightsTexts", inPlace := ["internal/abi.NoEscape", "internal/bytealg.MakeNoZero", "internal/bytealg.CountString", "internal/bytealg.IndexByteString", "internal/bytealg.IndexString"], unfollowed := true, recurses := true, named := ["internal/bytealg.MaxLen"], apart := false, narrowed := true }
def RightsTextsUptoSaid : Prop := rightsTextsUptoRow.holds Try.pinned (OpenSpec.upto rightsTextsSpec)

end Rows
end Go.Proofs.Ytglkgdkdcmilcaa

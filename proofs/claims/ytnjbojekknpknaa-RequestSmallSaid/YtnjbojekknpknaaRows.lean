/-
  No cell of these rows narrows 'for every input' (looked for: loops, veiled, ifaces, maps, wideKeys, modest, calm, conditions, laid).
  DERIVED. THE GIVEN ROWS OF THIS SEAT. 8 by the template 'for every input the law returns true; each argument reads behind the call as it read before'; 0 by the template 'total and deterministic' (their statements: YtnjbojekknpknaaTotals.lean).
  GIVEN WITH THE SEED: the statements are not yours to turn. If you find one false, say at which input.
  Laid BY PROGRAM, IN A SANDBOX (cutbox-rows.mjs): the forced cells as the released guide's own fill.sh prints them over the translation 54023dd9cd9d389f… (all of the seat's roots in one cut). By AI agents, Wed Nov 11 2026. No macro, syntax, notation, axiom, sorry.
-/
import Derived.Test.YtnjbojekknpknaaChecked
import GoSem.Claim
import GoSem.ClaimJoined
import GoSem.ClaimMapViews
import Derived.JoinedTies
import Derived.KernelRfl
namespace Go.Proofs.Ytnjbojekknpknaa
/- THE CELL 'sum', in the pinned program and in every row, IS THE sha256 OF THE DUMP (.gsa) THAT YtnjbojekknpknaaProg.lean LOADS. Nothing in Lean hashes anything: it is a label: what it is worth is what the hold of that sum in a sandbox is worth. -/
noncomputable def Try.pinned : Pinned := { name := "ytnjbojekknpknaa", sum := "54023dd9cd9d389ffd0fb8d809dc3c6a9d3a448ae2247dd0705c0744ec27a530", checked := Try.checked }
namespace Rows
def none {H : Type} : Left H := { results := [], args := [] }

/-- 'fermatalaw34.RequestReads': WHATEVER THE INPUT: true; the input reads as it did. -/
def requestReadsSpec : ChangeSpec := { name := "requestReads", fn := fun _ => fun
  | [d] => { results := [.lit (.bool true)], args := [d] }
  | _ => none }
def requestReadsRow : OpenClaim := { program := "ytnjbojekknpknaa", sum := "54023dd9cd9d389ffd0fb8d809dc3c6a9d3a448ae2247dd0705c0744ec27a530", func := "fermata/fermatalaw34.RequestReads", spec := "requestReads", unfollowed := true, recurses := true, apart := false }
def RequestReadsSaid : Prop := requestReadsRow.holds Try.pinned (OpenSpec.ofChange requestReadsSpec)

/-- ITS FALSE NEIGHBOUR: 'it returns false'. Refute it at one input. -/
def requestReadsWrong : ChangeSpec := { name := "requestReads", fn := fun _ => fun
  | [d] => { results := [.lit (.bool false)], args := [d] }
  | _ => none }
def RequestReadsWrongFalsely : Prop := requestReadsRow.holds Try.pinned (OpenSpec.ofChange requestReadsWrong)

/-- 'fermatalaw34.RequestWrong': WHATEVER THE INPUT: true; the input reads as it did. -/
def requestWrongSpec : ChangeSpec := { name := "requestWrong", fn := fun _ => fun
  | [d1, d2, d3] => { results := [.lit (.bool true)], args := [d1, d2, d3] }
  | _ => none }
def requestWrongRow : OpenClaim := { program := "ytnjbojekknpknaa", sum := "54023dd9cd9d389ffd0fb8d809dc3c6a9d3a448ae2247dd0705c0744ec27a530", func := "fermata/fermatalaw34.RequestWrong", spec := "requestWrong", unfollowed := true, recurses := true, apart := false }
def RequestWrongSaid : Prop := requestWrongRow.holds Try.pinned (OpenSpec.ofChange requestWrongSpec)

/-- ITS FALSE NEIGHBOUR: 'it returns false'. Refute it at one input. -/
def requestWrongWrong : ChangeSpec := { name := "requestWrong", fn := fun _ => fun
  | [d1, d2, d3] => { results := [.lit (.bool false)], args := [d1, d2, d3] }
  | _ => none }
def RequestWrongWrongFalsely : Prop := requestWrongRow.holds Try.pinned (OpenSpec.ofChange requestWrongWrong)

/-- 'fermatalaw34.RequestBack': WHATEVER THE INPUT: true; the input reads as it did. -/
def requestBackSpec : ChangeSpec := { name := "requestBack", fn := fun _ => fun
  | [d1, d2, d3] => { results := [.lit (.bool true)], args := [d1, d2, d3] }
  | _ => none }
def requestBackRow : OpenClaim := { program := "ytnjbojekknpknaa", sum := "54023dd9cd9d389ffd0fb8d809dc3c6a9d3a448ae2247dd0705c0744ec27a530", func := "fermata/fermatalaw34.RequestBack", spec := "requestBack", unfollowed := true, recurses := true, apart := false }
def RequestBackSaid : Prop := requestBackRow.holds Try.pinned (OpenSpec.ofChange requestBackSpec)

/-- ITS FALSE NEIGHBOUR: 'it returns false'. Refute it at one input. -/
def requestBackWrong : ChangeSpec := { name := "requestBack", fn := fun _ => fun
  | [d1, d2, d3] => { results := [.lit (.bool false)], args := [d1, d2, d3] }
  | _ => none }
def RequestBackWrongFalsely : Prop := requestBackRow.holds Try.pinned (OpenSpec.ofChange requestBackWrong)

/-- 'fermatalaw34.RequestWrites': WHATEVER THE INPUT: true; the input reads as it did. -/
def requestWritesSpec : ChangeSpec := { name := "requestWrites", fn := fun _ => fun
  | [d1, d2] => { results := [.lit (.bool true)], args := [d1, d2] }
  | _ => none }
def requestWritesRow : OpenClaim := { program := "ytnjbojekknpknaa", sum := "54023dd9cd9d389ffd0fb8d809dc3c6a9d3a448ae2247dd0705c0744ec27a530", func := "fermata/fermatalaw34.RequestWrites", spec := "requestWrites", unfollowed := true, recurses := true, apart := false }
def RequestWritesSaid : Prop := requestWritesRow.holds Try.pinned (OpenSpec.ofChange requestWritesSpec)

/-- ITS FALSE NEIGHBOUR: 'it returns false'. Refute it at one input. -/
def requestWritesWrong : ChangeSpec := { name := "requestWrites", fn := fun _ => fun
  | [d1, d2] => { results := [.lit (.bool false)], args := [d1, d2] }
  | _ => none }
def RequestWritesWrongFalsely : Prop := requestWritesRow.holds Try.pinned (OpenSpec.ofChange requestWritesWrong)

/-- 'fermatalaw34.RequestFields': WHATEVER THE INPUT: true; the input reads as it did. -/
def requestFieldsSpec : ChangeSpec := { name := "requestFields", fn := fun _ => fun
  | [d1, d2] => { results := [.lit (.bool true)], args := [d1, d2] }
  | _ => none }
def requestFieldsRow : OpenClaim := { program := "ytnjbojekknpknaa", sum := "54023dd9cd9d389ffd0fb8d809dc3c6a9d3a448ae2247dd0705c0744ec27a530", func := "fermata/fermatalaw34.RequestFields", spec := "requestFields", unfollowed := true, recurses := true, apart := false }
def RequestFieldsSaid : Prop := requestFieldsRow.holds Try.pinned (OpenSpec.ofChange requestFieldsSpec)

/-- ITS FALSE NEIGHBOUR: 'it returns false'. Refute it at one input. -/
def requestFieldsWrong : ChangeSpec := { name := "requestFields", fn := fun _ => fun
  | [d1, d2] => { results := [.lit (.bool false)], args := [d1, d2] }
  | _ => none }
def RequestFieldsWrongFalsely : Prop := requestFieldsRow.holds Try.pinned (OpenSpec.ofChange requestFieldsWrong)

/-- 'fermatalaw34.RequestSames': WHATEVER THE INPUT: true; the input reads as it did. -/
def requestSamesSpec : ChangeSpec := { name := "requestSames", fn := fun _ => fun
  | [d1, d2, d3] => { results := [.lit (.bool true)], args := [d1, d2, d3] }
  | _ => none }
def requestSamesRow : OpenClaim := { program := "ytnjbojekknpknaa", sum := "54023dd9cd9d389ffd0fb8d809dc3c6a9d3a448ae2247dd0705c0744ec27a530", func := "fermata/fermatalaw34.RequestSames", spec := "requestSames", unfollowed := true, recurses := true, apart := false }
def RequestSamesSaid : Prop := requestSamesRow.holds Try.pinned (OpenSpec.ofChange requestSamesSpec)

/-- ITS FALSE NEIGHBOUR: 'it returns false'. Refute it at one input. -/
def requestSamesWrong : ChangeSpec := { name := "requestSames", fn := fun _ => fun
  | [d1, d2, d3] => { results := [.lit (.bool false)], args := [d1, d2, d3] }
  | _ => none }
def RequestSamesWrongFalsely : Prop := requestSamesRow.holds Try.pinned (OpenSpec.ofChange requestSamesWrong)

/-- 'fermatalaw34.RequestCuts': WHATEVER THE INPUT: true; the input reads as it did. -/
def requestCutsSpec : ChangeSpec := { name := "requestCuts", fn := fun _ => fun
  | [d1, d2, d3, d4] => { results := [.lit (.bool true)], args := [d1, d2, d3, d4] }
  | _ => none }
def requestCutsRow : OpenClaim := { program := "ytnjbojekknpknaa", sum := "54023dd9cd9d389ffd0fb8d809dc3c6a9d3a448ae2247dd0705c0744ec27a530", func := "fermata/fermatalaw34.RequestCuts", spec := "requestCuts", unfollowed := true, recurses := true, apart := false }
def RequestCutsSaid : Prop := requestCutsRow.holds Try.pinned (OpenSpec.ofChange requestCutsSpec)

/-- ITS FALSE NEIGHBOUR: 'it returns false'. Refute it at one input. -/
def requestCutsWrong : ChangeSpec := { name := "requestCuts", fn := fun _ => fun
  | [d1, d2, d3, d4] => { results := [.lit (.bool false)], args := [d1, d2, d3, d4] }
  | _ => none }
def RequestCutsWrongFalsely : Prop := requestCutsRow.holds Try.pinned (OpenSpec.ofChange requestCutsWrong)

/-- 'fermatalaw34.RequestSmall': WHATEVER THE INPUT: true; the input reads as it did. -/
def requestSmallSpec : ChangeSpec := { name := "requestSmall", fn := fun _ => fun
  | [] => { results := [.lit (.bool true)], args := [] }
  | _ => none }
def requestSmallRow : OpenClaim := { program := "ytnjbojekknpknaa", sum := "54023dd9cd9d389ffd0fb8d809dc3c6a9d3a448ae2247dd0705c0744ec27a530", func := "fermata/fermatalaw34.RequestSmall", spec := "requestSmall", inPlace := ["slices.overlaps[byte]"], unfollowed := true, recurses := true, apart := false }
def RequestSmallSaid : Prop := requestSmallRow.holds Try.pinned (OpenSpec.ofChange requestSmallSpec)

/-- ITS FALSE NEIGHBOUR: 'it returns false'. Refute it at one input. -/
def requestSmallWrong : ChangeSpec := { name := "requestSmall", fn := fun _ => fun
  | [] => { results := [.lit (.bool false)], args := [] }
  | _ => none }
def RequestSmallWrongFalsely : Prop := requestSmallRow.holds Try.pinned (OpenSpec.ofChange requestSmallWrong)

/- THE SECOND FORM. 'bulk': how many values and letters a reading holds, each counted each time it is reached (what is shared counts as often as it is met; a slice's spare places count too). A statement '..UptoSaid' is the law's where the arguments, and the package variables that the reading takes, are together of bulk at most 1048576: NARROWER than '..Said'. Prove '..Said' where nothing that the law and all that it calls make is longer than what came in: it says more and counts as full. Else prove '..UptoSaid'. A law counts once. -/
mutual
def uptoBulk {H : Type} : DataW H → Nat
  | .lit (.string bytes) => bytes.length + 1
  | .lit _ => 1
  | .nil => 1
  | .ptr d => uptoBulk d + 1
  | .slice elems spare => uptoBulkAll elems + uptoBulkAll spare + 1
  | .agg parts => uptoBulkAll parts + 1
  | .iface _ d => uptoBulk d + 1
  | .map entries => uptoBulkEntries entries + 1
  | .held _ => 1
def uptoBulkAll {H : Type} : List (DataW H) → Nat
  | [] => 0
  | d :: r => uptoBulk d + uptoBulkAll r
def uptoBulkEntries {H : Type} : List (Lit × DataW H) → Nat
  | [] => 0
  | x :: r => uptoBulkEntry x + uptoBulkEntries r
def uptoBulkEntry {H : Type} : Lit × DataW H → Nat
  | (.string bytes, d) => bytes.length + uptoBulk d + 1
  | (_, d) => uptoBulk d + 1
 end
def uptoSmall : (H : Type) → List (DataW H) → Bool := fun _ ds => decide (uptoBulkAll ds ≤ 1048576)
def OpenSpec.upto (s : _root_.Go.ChangeSpec) : _root_.Go.OpenSpec := { _root_.Go.OpenSpec.ofChange s with cond := some uptoSmall }

/-- 'fermatalaw34.RequestReads', WHERE WHAT IT READS IS OF BULK AT MOST 1048576: true; the input reads as it did. -/
def requestReadsUptoRow : OpenClaim := { program := "ytnjbojekknpknaa", sum := "54023dd9cd9d389ffd0fb8d809dc3c6a9d3a448ae2247dd0705c0744ec27a530", func := "fermata/fermatalaw34.RequestReads", spec := "requestReads", unfollowed := true, recurses := true, apart := false, narrowed := true }
def RequestReadsUptoSaid : Prop := requestReadsUptoRow.holds Try.pinned (OpenSpec.upto requestReadsSpec)

/-- 'fermatalaw34.RequestWrong', WHERE WHAT IT READS IS OF BULK AT MOST 1048576: true; the input reads as it did. -/
def requestWrongUptoRow : OpenClaim := { program := "ytnjbojekknpknaa", sum := "54023dd9cd9d389ffd0fb8d809dc3c6a9d3a448ae2247dd0705c0744ec27a530", func := "fermata/fermatalaw34.RequestWrong", spec := "requestWrong", unfollowed := true, recurses := true, apart := false, narrowed := true }
def RequestWrongUptoSaid : Prop := requestWrongUptoRow.holds Try.pinned (OpenSpec.upto requestWrongSpec)

/-- 'fermatalaw34.RequestBack', WHERE WHAT IT READS IS OF BULK AT MOST 1048576: true; the input reads as it did. -/
def requestBackUptoRow : OpenClaim := { program := "ytnjbojekknpknaa", sum := "54023dd9cd9d389ffd0fb8d809dc3c6a9d3a448ae2247dd0705c0744ec27a530", func := "fermata/fermatalaw34.RequestBack", spec := "requestBack", unfollowed := true, recurses := true, apart := false, narrowed := true }
def RequestBackUptoSaid : Prop := requestBackUptoRow.holds Try.pinned (OpenSpec.upto requestBackSpec)

/-- 'fermatalaw34.RequestWrites', WHERE WHAT IT READS IS OF BULK AT MOST 1048576: true; the input reads as it did. -/
def requestWritesUptoRow : OpenClaim := { program := "ytnjbojekknpknaa", sum := "54023dd9cd9d389ffd0fb8d809dc3c6a9d3a448ae2247dd0705c0744ec27a530", func := "fermata/fermatalaw34.RequestWrites", spec := "requestWrites", unfollowed := true, recurses := true, apart := false, narrowed := true }
def RequestWritesUptoSaid : Prop := requestWritesUptoRow.holds Try.pinned (OpenSpec.upto requestWritesSpec)

/-- 'fermatalaw34.RequestFields', WHERE WHAT IT READS IS OF BULK AT MOST 1048576: true; the input reads as it did. -/
def requestFieldsUptoRow : OpenClaim := { program := "ytnjbojekknpknaa", sum := "54023dd9cd9d389ffd0fb8d809dc3c6a9d3a448ae2247dd0705c0744ec27a530", func := "fermata/fermatalaw34.RequestFields", spec := "requestFields", unfollowed := true, recurses := true, apart := false, narrowed := true }
def RequestFieldsUptoSaid : Prop := requestFieldsUptoRow.holds Try.pinned (OpenSpec.upto requestFieldsSpec)

/-- 'fermatalaw34.RequestSames', WHERE WHAT IT READS IS OF BULK AT MOST 1048576: true; the input reads as it did. -/
def requestSamesUptoRow : OpenClaim := { program := "ytnjbojekknpknaa", sum := "54023dd9cd9d389ffd0fb8d809dc3c6a9d3a448ae2247dd0705c0744ec27a530", func := "fermata/fermatalaw34.RequestSames", spec := "requestSames", unfollowed := true, recurses := true, apart := false, narrowed := true }
def RequestSamesUptoSaid : Prop := requestSamesUptoRow.holds Try.pinned (OpenSpec.upto requestSamesSpec)

/-- 'fermatalaw34.RequestCuts', WHERE WHAT IT READS IS OF BULK AT MOST 1048576: true; the input reads as it did. -/
def requestCutsUptoRow : OpenClaim := { program := "ytnjbojekknpknaa", sum := "54023dd9cd9d389ffd0fb8d809dc3c6a9d3a448ae2247dd0705c0744ec27a530", func := "fermata/fermatalaw34.RequestCuts", spec := "requestCuts", unfollowed := true, recurses := true, apart := false, narrowed := true }
def RequestCutsUptoSaid : Prop := requestCutsUptoRow.holds Try.pinned (OpenSpec.upto requestCutsSpec)

/-- 'fermatalaw34.RequestSmall', WHERE WHAT IT READS IS OF BULK AT MOST 1048576: true; the input reads as it did. -/
def requestSmallUptoRow : OpenClaim := { program := "ytnjbojekknpknaa", sum := "54023dd9cd9d389ffd0fb8d809dc3c6a9d3a448ae2247dd0705c0744ec27a530", func := "fermata/fermatalaw34.RequestSmall", spec := "requestSmall", inPlace := ["slices.overlaps[byte]"], unfollowed := true, recurses := true, apart := false, narrowed := true }
def RequestSmallUptoSaid : Prop := requestSmallUptoRow.holds Try.pinned (OpenSpec.upto requestSmallSpec)

end Rows
end Go.Proofs.Ytnjbojekknpknaa

/-
  No cell of these rows narrows 'for every input' (looked for: loops, veiled, ifaces, maps, wideKeys, modest, calm, conditions, laid).
  DERIVED. THE GIVEN ROWS OF THIS SEAT. 5 by the template 'for every input the law returns true; each argument reads behind the call as it read before'; 0 by the template 'total and deterministic' (their statements: YtdmhilnnendcoaaTotals.lean).
  GIVEN WITH THE SEED: the statements are not yours to turn. If you find one false, say at which input.
  Laid BY PROGRAM, IN A SANDBOX (cutbox-rows.mjs): the forced cells as the released guide's own fill.sh prints them over the translation 34cebf8a0551f278… (all of the seat's roots in one cut). By AI agents, Wed Nov 11 2026. No macro, syntax, notation, axiom, sorry.
-/
import Derived.Test.YtdmhilnnendcoaaChecked
import GoSem.Claim
import GoSem.ClaimJoined
import GoSem.ClaimMapViews
import Derived.JoinedTies
import Derived.KernelRfl
namespace Go.Proofs.Ytdmhilnnendcoaa
/- THE CELL 'sum', in the pinned program and in every row, IS THE sha256 OF THE DUMP (.gsa) THAT YtdmhilnnendcoaaProg.lean LOADS. Nothing in Lean hashes anything: it is a label: what it is worth is what the hold of that sum in a sandbox is worth. -/
noncomputable def Try.pinned : Pinned := { name := "ytdmhilnnendcoaa", sum := "34cebf8a0551f27870fdf921fa40beac7a705c0e2ffd69df6b2fd4b0aa38df2b", checked := Try.checked }
namespace Rows
def none {H : Type} : Left H := { results := [], args := [] }

/-- 'fermatalaw35.ResponseWrong': WHATEVER THE INPUT: true; the input reads as it did. -/
def responseWrongSpec : ChangeSpec := { name := "responseWrong", fn := fun _ => fun
  | [d1, d2, d3] => { results := [.lit (.bool true)], args := [d1, d2, d3] }
  | _ => none }
def responseWrongRow : OpenClaim := { program := "ytdmhilnnendcoaa", sum := "34cebf8a0551f27870fdf921fa40beac7a705c0e2ffd69df6b2fd4b0aa38df2b", func := "fermata/fermatalaw35.ResponseWrong", spec := "responseWrong", unfollowed := true, recurses := true, apart := false }
def ResponseWrongSaid : Prop := responseWrongRow.holds Try.pinned (OpenSpec.ofChange responseWrongSpec)

/-- ITS FALSE NEIGHBOUR: 'it returns false'. Refute it at one input. -/
def responseWrongWrong : ChangeSpec := { name := "responseWrong", fn := fun _ => fun
  | [d1, d2, d3] => { results := [.lit (.bool false)], args := [d1, d2, d3] }
  | _ => none }
def ResponseWrongWrongFalsely : Prop := responseWrongRow.holds Try.pinned (OpenSpec.ofChange responseWrongWrong)

/-- 'fermatalaw35.ResponseBack': WHATEVER THE INPUT: true; the input reads as it did. -/
def responseBackSpec : ChangeSpec := { name := "responseBack", fn := fun _ => fun
  | [d1, d2, d3] => { results := [.lit (.bool true)], args := [d1, d2, d3] }
  | _ => none }
def responseBackRow : OpenClaim := { program := "ytdmhilnnendcoaa", sum := "34cebf8a0551f27870fdf921fa40beac7a705c0e2ffd69df6b2fd4b0aa38df2b", func := "fermata/fermatalaw35.ResponseBack", spec := "responseBack", unfollowed := true, recurses := true, apart := false }
def ResponseBackSaid : Prop := responseBackRow.holds Try.pinned (OpenSpec.ofChange responseBackSpec)

/-- ITS FALSE NEIGHBOUR: 'it returns false'. Refute it at one input. -/
def responseBackWrong : ChangeSpec := { name := "responseBack", fn := fun _ => fun
  | [d1, d2, d3] => { results := [.lit (.bool false)], args := [d1, d2, d3] }
  | _ => none }
def ResponseBackWrongFalsely : Prop := responseBackRow.holds Try.pinned (OpenSpec.ofChange responseBackWrong)

/-- 'fermatalaw35.ResponseSames': WHATEVER THE INPUT: true; the input reads as it did. -/
def responseSamesSpec : ChangeSpec := { name := "responseSames", fn := fun _ => fun
  | [d1, d2] => { results := [.lit (.bool true)], args := [d1, d2] }
  | _ => none }
def responseSamesRow : OpenClaim := { program := "ytdmhilnnendcoaa", sum := "34cebf8a0551f27870fdf921fa40beac7a705c0e2ffd69df6b2fd4b0aa38df2b", func := "fermata/fermatalaw35.ResponseSames", spec := "responseSames", unfollowed := true, recurses := true, apart := false }
def ResponseSamesSaid : Prop := responseSamesRow.holds Try.pinned (OpenSpec.ofChange responseSamesSpec)

/-- ITS FALSE NEIGHBOUR: 'it returns false'. Refute it at one input. -/
def responseSamesWrong : ChangeSpec := { name := "responseSames", fn := fun _ => fun
  | [d1, d2] => { results := [.lit (.bool false)], args := [d1, d2] }
  | _ => none }
def ResponseSamesWrongFalsely : Prop := responseSamesRow.holds Try.pinned (OpenSpec.ofChange responseSamesWrong)

/-- 'fermatalaw35.ResponseCuts': WHATEVER THE INPUT: true; the input reads as it did. -/
def responseCutsSpec : ChangeSpec := { name := "responseCuts", fn := fun _ => fun
  | [d1, d2, d3] => { results := [.lit (.bool true)], args := [d1, d2, d3] }
  | _ => none }
def responseCutsRow : OpenClaim := { program := "ytdmhilnnendcoaa", sum := "34cebf8a0551f27870fdf921fa40beac7a705c0e2ffd69df6b2fd4b0aa38df2b", func := "fermata/fermatalaw35.ResponseCuts", spec := "responseCuts", unfollowed := true, recurses := true, apart := false }
def ResponseCutsSaid : Prop := responseCutsRow.holds Try.pinned (OpenSpec.ofChange responseCutsSpec)

/-- ITS FALSE NEIGHBOUR: 'it returns false'. Refute it at one input. -/
def responseCutsWrong : ChangeSpec := { name := "responseCuts", fn := fun _ => fun
  | [d1, d2, d3] => { results := [.lit (.bool false)], args := [d1, d2, d3] }
  | _ => none }
def ResponseCutsWrongFalsely : Prop := responseCutsRow.holds Try.pinned (OpenSpec.ofChange responseCutsWrong)

/-- 'fermatalaw35.ResponseGreat': WHATEVER THE INPUT: true; the input reads as it did. -/
def responseGreatSpec : ChangeSpec := { name := "responseGreat", fn := fun _ => fun
  | [d1, d2, d3] => { results := [.lit (.bool true)], args := [d1, d2, d3] }
  | _ => none }
def responseGreatRow : OpenClaim := { program := "ytdmhilnnendcoaa", sum := "34cebf8a0551f27870fdf921fa40beac7a705c0e2ffd69df6b2fd4b0aa38df2b", func := "fermata/fermatalaw35.ResponseGreat", spec := "responseGreat", unfollowed := true, recurses := true, apart := false }
def ResponseGreatSaid : Prop := responseGreatRow.holds Try.pinned (OpenSpec.ofChange responseGreatSpec)

/-- ITS FALSE NEIGHBOUR: 'it returns false'. Refute it at one input. -/
def responseGreatWrong : ChangeSpec := { name := "responseGreat", fn := fun _ => fun
  | [d1, d2, d3] => { results := [.lit (.bool false)], args := [d1, d2, d3] }
  | _ => none }
def ResponseGreatWrongFalsely : Prop := responseGreatRow.holds Try.pinned (OpenSpec.ofChange responseGreatWrong)

/- THE SECOND FORM. 'bulk': how many values and letters a reading holds, each counted each time it is reached (what is shared counts as often as it is met; a slice's spare places count too). A statement '..UptoSaid' is the law's where the arguments, and the package variables that the reading takes, are together of bulk at most 1048576: NARROWER than '..Said'. Prove '..Said' where nothing that the law and all that it calls make is longer than what came in: it says more and counts as full. Else prove '..UptoSaid'. A law counts once. -/
mutual
def uptoBulk {H : Type} : DataW H → Nat
  | .lit (.string bytes) => bytes.length + 1
  | .lit _ => 1
  | .nil => 1
  | .ptr d => uptoBulk d + 1
  | .slice elems spare => uptoBulkAll elems + uptoBulkAll spare + 1
  | .agg parts => uptoBulkAll parts + 1
  | .iface _ d => uptoBulk d + 1
  | .map entries => uptoBulkEntries entries + 1
  | .held _ => 1
def uptoBulkAll {H : Type} : List (DataW H) → Nat
  | [] => 0
  | d :: r => uptoBulk d + uptoBulkAll r
def uptoBulkEntries {H : Type} : List (Lit × DataW H) → Nat
  | [] => 0
  | x :: r => uptoBulkEntry x + uptoBulkEntries r
def uptoBulkEntry {H : Type} : Lit × DataW H → Nat
  | (.string bytes, d) => bytes.length + uptoBulk d + 1
  | (_, d) => uptoBulk d + 1
 end
def uptoSmall : (H : Type) → List (DataW H) → Bool := fun _ ds => decide (uptoBulkAll ds ≤ 1048576)
def OpenSpec.upto (s : _root_.Go.ChangeSpec) : _root_.Go.OpenSpec := { _root_.Go.OpenSpec.ofChange s with cond := some uptoSmall }

/-- 'fermatalaw35.ResponseWrong', WHERE WHAT IT READS IS OF BULK AT MOST 1048576: true; the input reads as it did. -/
def responseWrongUptoRow : OpenClaim := { program := "ytdmhilnnendcoaa", sum := "34cebf8a0551f27870fdf921fa40beac7a705c0e2ffd69df6b2fd4b0aa38df2b", func := "fermata/fermatalaw35.ResponseWrong", spec := "responseWrong", unfollowed := true, recurses := true, apart := false, narrowed := true }
def ResponseWrongUptoSaid : Prop := responseWrongUptoRow.holds Try.pinned (OpenSpec.upto responseWrongSpec)

/-- 'fermatalaw35.ResponseBack', WHERE WHAT IT READS IS OF BULK AT MOST 1048576: true; the input reads as it did. -/
def responseBackUptoRow : OpenClaim := { program := "ytdmhilnnendcoaa", sum := "34cebf8a0551f27870fdf921fa40beac7a705c0e2ffd69df6b2fd4b0aa38df2b", func := "fermata/fermatalaw35.ResponseBack", spec := "responseBack", unfollowed := true, recurses := true, apart := false, narrowed := true }
def ResponseBackUptoSaid : Prop := responseBackUptoRow.holds Try.pinned (OpenSpec.upto responseBackSpec)

/-- 'fermatalaw35.ResponseSames', WHERE WHAT IT READS IS OF BULK AT MOST 1048576: true; the input reads as it did. -/
def responseSamesUptoRow : OpenClaim := { program := "ytdmhilnnendcoaa", sum := "34cebf8a0551f27870fdf921fa40beac7a705c0e2ffd69df6b2fd4b0aa38df2b", func := "fermata/fermatalaw35.ResponseSames", spec := "responseSames", unfollowed := true, recurses := true, apart := false, narrowed := true }
def ResponseSamesUptoSaid : Prop := responseSamesUptoRow.holds Try.pinned (OpenSpec.upto responseSamesSpec)

/-- 'fermatalaw35.ResponseCuts', WHERE WHAT IT READS IS OF BULK AT MOST 1048576: true; the input reads as it did. -/
def responseCutsUptoRow : OpenClaim := { program := "ytdmhilnnendcoaa", sum := "34cebf8a0551f27870fdf921fa40beac7a705c0e2ffd69df6b2fd4b0aa38df2b", func := "fermata/fermatalaw35.ResponseCuts", spec := "responseCuts", unfollowed := true, recurses := true, apart := false, narrowed := true }
def ResponseCutsUptoSaid : Prop := responseCutsUptoRow.holds Try.pinned (OpenSpec.upto responseCutsSpec)

/-- 'fermatalaw35.ResponseGreat', WHERE WHAT IT READS IS OF BULK AT MOST 1048576: true; the input reads as it did. -/
def responseGreatUptoRow : OpenClaim := { program := "ytdmhilnnendcoaa", sum := "34cebf8a0551f27870fdf921fa40beac7a705c0e2ffd69df6b2fd4b0aa38df2b", func := "fermata/fermatalaw35.ResponseGreat", spec := "responseGreat", unfollowed := true, recurses := true, apart := false, narrowed := true }
def ResponseGreatUptoSaid : Prop := responseGreatUptoRow.holds Try.pinned (OpenSpec.upto responseGreatSpec)

end Rows
end Go.Proofs.Ytdmhilnnendcoaa

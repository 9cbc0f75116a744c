/-
  DERIVED. GIVEN WITH THE SEED: THE CARDS: each row of YtjjjbafnplmjoaaGreatDoorRows.lean that lists a variable, with what it lists TIED to the program's text (the seventh form; the later family's looks); each row that meets fmt, with fmt's text TOLD by the authors' own Lean function (tested against real Go, not proved from fmt's source: count such statements apart). THE CARD IS WHAT COUNTS. Prove the row's statement (the work); the ties are given (YtjjjbafnplmjoaaGreatDoorTie.lean); close each card by the builder's one call (the guide's Derived/Test/ToyasCard.lean, 'card_holds'). Laid BY PROGRAM, IN A SANDBOX (cutbox-door.mjs). By AI agents, Wed Nov 11 2026. No macro, syntax, notation, axiom, sorry.
-/
import Derived.Test.YtjjjbafnplmjoaaGreatDoorRows
import GoSem.ClaimSeven
namespace Go.Proofs.YtjjjbafnplmjoaaGreatDoor
namespace Rows

/-- THE TIED CARD OF 'fermatalaw15.AsmSmall'. -/
def asmSmallCard : Claim7 := { stood := { row := asmSmallRow, standIns := [], harness := (true, "2a45b87100ba841e102e65501b571a7d166ccfb1575ab2bbd9d22c08a7e74a20"), looks := true }, kinds := [], alts := [], laidByText := true, laidKinds := [.data, .data, .data, .sentinel, .sentinel], laidTests := true, laidLooks := .later }
def AsmSmallCardSaid : Prop := Claim7.holds Tryz.pinned (.plain (OpenSpec.ofChange asmSmallSpec)) asmSmallCard

/-- THE TIED CARD OF 'fermatalaw15.AsmWrong'. -/
def asmWrongCard : Claim7 := { stood := { row := asmWrongRow, standIns := [], harness := (true, "2a45b87100ba841e102e65501b571a7d166ccfb1575ab2bbd9d22c08a7e74a20"), looks := true }, kinds := [], alts := [], laidByText := true, laidKinds := [.data, .data, .data, .data, .sentinel, .sentinel, .pinned], laidTests := true, laidLooks := .later }
def AsmWrongCardSaid : Prop := Claim7.holds Tryz.pinned (.plain (OpenSpec.ofChange asmWrongSpec)) asmWrongCard

/-- THE TIED CARD OF 'fermatalaw15.AsmLoose'. -/
def asmLooseCard : Claim7 := { stood := { row := asmLooseRow, standIns := [], harness := (true, "2a45b87100ba841e102e65501b571a7d166ccfb1575ab2bbd9d22c08a7e74a20"), looks := true }, kinds := [], alts := [], laidByText := true, laidKinds := [.data, .data, .data, .data, .sentinel, .sentinel, .listed, .data, .pinned], laidTests := true, laidLooks := .later }
def AsmLooseCardSaid : Prop := Claim7.holds Tryz.pinned (.plain (OpenSpec.ofChange asmLooseSpec)) asmLooseCard

/-- THE SECOND FORM's CARD OF 'fermatalaw15.AsmSmall'. -/
def asmSmallUptoCard : Claim7 := { stood := { row := asmSmallUptoRow, standIns := [], harness := (true, "2a45b87100ba841e102e65501b571a7d166ccfb1575ab2bbd9d22c08a7e74a20"), looks := true }, kinds := [], alts := [], laidByText := true, laidKinds := [.data, .data, .data, .sentinel, .sentinel], laidTests := true, laidLooks := .later }
def AsmSmallUptoCardSaid : Prop := Claim7.holds Tryz.pinned (.plain (OpenSpec.upto asmSmallSpec)) asmSmallUptoCard

/-- THE SECOND FORM's CARD OF 'fermatalaw15.AsmWrong'. -/
def asmWrongUptoCard : Claim7 := { stood := { row := asmWrongUptoRow, standIns := [], harness := (true, "2a45b87100ba841e102e65501b571a7d166ccfb1575ab2bbd9d22c08a7e74a20"), looks := true }, kinds := [], alts := [], laidByText := true, laidKinds := [.data, .data, .data, .data, .sentinel, .sentinel, .pinned], laidTests := true, laidLooks := .later }
def AsmWrongUptoCardSaid : Prop := Claim7.holds Tryz.pinned (.plain (OpenSpec.upto asmWrongSpec)) asmWrongUptoCard

/-- THE SECOND FORM's CARD OF 'fermatalaw15.AsmLoose'. -/
def asmLooseUptoCard : Claim7 := { stood := { row := asmLooseUptoRow, standIns := [], harness := (true, "2a45b87100ba841e102e65501b571a7d166ccfb1575ab2bbd9d22c08a7e74a20"), looks := true }, kinds := [], alts := [], laidByText := true, laidKinds := [.data, .data, .data, .data, .sentinel, .sentinel, .listed, .data, .pinned], laidTests := true, laidLooks := .later }
def AsmLooseUptoCardSaid : Prop := Claim7.holds Tryz.pinned (.plain (OpenSpec.upto asmLooseSpec)) asmLooseUptoCard
end Rows
end Go.Proofs.YtjjjbafnplmjoaaGreatDoor

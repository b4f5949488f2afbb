/-
  DERIVED. GIVEN WITH THE SEED: THE CARDS: each row of YtbgmdnemjllpiaaGreatDoorRows.lean that lists a variable, with what it lists TIED to the program's text (the seventh form; the later family's looks); each row that meets fmt, with fmt's text TOLD by the authors' own Lean function (tested against real Go, not proved from fmt's source: count such statements apart). THE CARD IS WHAT COUNTS. Prove the row's statement (the work); the ties are given (YtbgmdnemjllpiaaGreatDoorTie.lean); close each card by the builder's one call (the guide's Derived/Test/ToyasCard.lean, 'card_holds'). Laid BY PROGRAM, IN A SANDBOX (cutbox-door.mjs). By AI agents, Wed Nov 11 2026. No macro, syntax, notation, axiom, sorry.
-/
import Derived.Test.YtbgmdnemjllpiaaGreatDoorRows
import GoSem.ClaimSeven
namespace Go.Proofs.YtbgmdnemjllpiaaGreatDoor
namespace Rows

/-- THE TIED CARD OF 'lintellaw19.CheckKnown'. -/
def checkKnownCard : Claim7 := { stood := { row := checkKnownRow, standIns := [], harness := (true, "e624f0ccb89e2305b6b1d466e50c7be789a7fddb9fd6a67eb1040776a43a8520"), looks := false }, kinds := [], alts := [], laidByText := true, laidKinds := [.data, .data, .data], laidTests := true, laidLooks := .later }
def CheckKnownCardSaid : Prop := Claim7.holds Tryz.pinned (.plain (OpenSpec.ofChange checkKnownSpec)) checkKnownCard

/-- THE SECOND FORM's CARD OF 'lintellaw19.CheckKnown'. -/
def checkKnownUptoCard : Claim7 := { stood := { row := checkKnownUptoRow, standIns := [], harness := (true, "e624f0ccb89e2305b6b1d466e50c7be789a7fddb9fd6a67eb1040776a43a8520"), looks := false }, kinds := [], alts := [], laidByText := true, laidKinds := [.data, .data, .data], laidTests := true, laidLooks := .later }
def CheckKnownUptoCardSaid : Prop := Claim7.holds Tryz.pinned (.plain (OpenSpec.upto checkKnownSpec)) checkKnownUptoCard
end Rows
end Go.Proofs.YtbgmdnemjllpiaaGreatDoor

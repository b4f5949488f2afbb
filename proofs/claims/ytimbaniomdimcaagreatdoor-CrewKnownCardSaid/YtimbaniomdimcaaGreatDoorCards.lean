/-
  DERIVED. GIVEN WITH THE SEED: THE CARDS: each row of YtimbaniomdimcaaGreatDoorRows.lean that lists a variable, with what it lists TIED to the program's text (the seventh form; the later family's looks); each row that meets fmt, with fmt's text TOLD by the authors' own Lean function (tested against real Go, not proved from fmt's source: count such statements apart). THE CARD IS WHAT COUNTS. Prove the row's statement (the work); the ties are given (YtimbaniomdimcaaGreatDoorTie.lean); close each card by the builder's one call (the guide's Derived/Test/ToyasCard.lean, 'card_holds'). Laid BY PROGRAM, IN A SANDBOX (cutbox-door.mjs). By AI agents, Wed Nov 11 2026. No macro, syntax, notation, axiom, sorry.
-/
import Derived.Test.YtimbaniomdimcaaGreatDoorRows
import GoSem.ClaimSeven
namespace Go.Proofs.YtimbaniomdimcaaGreatDoor
namespace Rows

/-- THE TIED CARD OF 'lintellaw24.CrewKnown'. -/
def crewKnownCard : Claim7 := { stood := { row := crewKnownRow, standIns := [], harness := (true, "e0348a5c9971b475a8f5f01915cfcec656258b2ea6829a90e083471c28372bba"), looks := true }, kinds := [], alts := [], laidByText := true, laidKinds := [.data, .data, .data, .data, .pinned], laidTests := true, laidLooks := .later }
def CrewKnownCardSaid : Prop := Claim7.holds Tryz.pinned (.plain (OpenSpec.ofChange crewKnownSpec)) crewKnownCard

/-- THE SECOND FORM's CARD OF 'lintellaw24.CrewKnown'. -/
def crewKnownUptoCard : Claim7 := { stood := { row := crewKnownUptoRow, standIns := [], harness := (true, "e0348a5c9971b475a8f5f01915cfcec656258b2ea6829a90e083471c28372bba"), looks := true }, kinds := [], alts := [], laidByText := true, laidKinds := [.data, .data, .data, .data, .pinned], laidTests := true, laidLooks := .later }
def CrewKnownUptoCardSaid : Prop := Claim7.holds Tryz.pinned (.plain (OpenSpec.upto crewKnownSpec)) crewKnownUptoCard
end Rows
end Go.Proofs.YtimbaniomdimcaaGreatDoor

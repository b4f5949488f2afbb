/-
  DERIVED. GIVEN WITH THE SEED: THE CARDS: each row of YtbecnapcgehliaaGreatDoorRows.lean that lists a variable, with what it lists TIED to the program's text (the seventh form; the later family's looks); each row that meets fmt, with fmt's text TOLD by the authors' own Lean function (tested against real Go, not proved from fmt's source: count such statements apart). THE CARD IS WHAT COUNTS. Prove the row's statement (the work); the ties are given (YtbecnapcgehliaaGreatDoorTie.lean); close each card by the builder's one call (the guide's Derived/Test/ToyasCard.lean, 'card_holds'). Laid BY PROGRAM, IN A SANDBOX (cutbox-door.mjs). By AI agents, Wed Nov 11 2026. No macro, syntax, notation, axiom, sorry.
-/
import Derived.Test.YtbecnapcgehliaaGreatDoorRows
import GoSem.ClaimSeven
namespace Go.Proofs.YtbecnapcgehliaaGreatDoor
namespace Rows

/-- THE TIED CARD OF 'lintellaw19.CheckShow'. -/
def checkShowCard : Claim7 := { stood := { row := checkShowRow, standIns := [], harness := (true, "2f1b6a5a630f190678410fe0e1726d303a48e8f6cb543f901e36877925af2621"), looks := false }, kinds := [], alts := [], laidByText := true, laidKinds := [.data, .data, .data], laidTests := true, laidLooks := .later }
def CheckShowCardSaid : Prop := Claim7.holds Tryz.pinned (.plain (OpenSpec.ofChange checkShowSpec)) checkShowCard

/-- THE SECOND FORM's CARD OF 'lintellaw19.CheckShow'. -/
def checkShowUptoCard : Claim7 := { stood := { row := checkShowUptoRow, standIns := [], harness := (true, "2f1b6a5a630f190678410fe0e1726d303a48e8f6cb543f901e36877925af2621"), looks := false }, kinds := [], alts := [], laidByText := true, laidKinds := [.data, .data, .data], laidTests := true, laidLooks := .later }
def CheckShowUptoCardSaid : Prop := Claim7.holds Tryz.pinned (.plain (OpenSpec.upto checkShowSpec)) checkShowUptoCard
end Rows
end Go.Proofs.YtbecnapcgehliaaGreatDoor

/-
  DERIVED. GIVEN WITH THE SEED: THE CARDS: each row of YtkpdjdgagjolaaaGreatDoorRows.lean that lists a variable, with what it lists TIED to the program's text (the seventh form; the later family's looks); each row that meets fmt, with fmt's text TOLD by the authors' own Lean function (tested against real Go, not proved from fmt's source: count such statements apart). THE CARD IS WHAT COUNTS. Prove the row's statement (the work); the ties are given (YtkpdjdgagjolaaaGreatDoorTie.lean); close each card by the builder's one call (the guide's Derived/Test/ToyasCard.lean, 'card_holds'). Laid BY PROGRAM, IN A SANDBOX (cutbox-door.mjs). By AI agents, Wed Nov 11 2026. No macro, syntax, notation, axiom, sorry.
-/
import Derived.Test.YtkpdjdgagjolaaaGreatDoorRows
import GoSem.ClaimSeven
namespace Go.Proofs.YtkpdjdgagjolaaaGreatDoor
namespace Rows

/-- THE TIED CARD OF 'lintellaw26.MendKnown'. -/
def mendKnownCard : Claim7 := { stood := { row := mendKnownRow, standIns := [], harness := (true, "14f22a9af18a898bd99ea81d99c5881ca7aa46823ac35fa13cb83eaaf6331d56"), looks := false }, kinds := [], alts := [], laidByText := true, laidKinds := [.data, .data, .data], laidTests := true, laidLooks := .later }
def MendKnownCardSaid : Prop := Claim7.holds Tryz.pinned (.plain (OpenSpec.ofChange mendKnownSpec)) mendKnownCard

/-- THE SECOND FORM's CARD OF 'lintellaw26.MendKnown'. -/
def mendKnownUptoCard : Claim7 := { stood := { row := mendKnownUptoRow, standIns := [], harness := (true, "14f22a9af18a898bd99ea81d99c5881ca7aa46823ac35fa13cb83eaaf6331d56"), looks := false }, kinds := [], alts := [], laidByText := true, laidKinds := [.data, .data, .data], laidTests := true, laidLooks := .later }
def MendKnownUptoCardSaid : Prop := Claim7.holds Tryz.pinned (.plain (OpenSpec.upto mendKnownSpec)) mendKnownUptoCard
end Rows
end Go.Proofs.YtkpdjdgagjolaaaGreatDoor

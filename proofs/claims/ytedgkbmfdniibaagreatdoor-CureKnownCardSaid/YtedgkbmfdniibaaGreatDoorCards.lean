/-
  DERIVED. GIVEN WITH THE SEED: THE CARDS: each row of YtedgkbmfdniibaaGreatDoorRows.lean that lists a variable, with what it lists TIED to the program's text (the seventh form; the later family's looks); each row that meets fmt, with fmt's text TOLD by the authors' own Lean function (tested against real Go, not proved from fmt's source: count such statements apart). THE CARD IS WHAT COUNTS. Prove the row's statement (the work); the ties are given (YtedgkbmfdniibaaGreatDoorTie.lean); close each card by the builder's one call (the guide's Derived/Test/ToyasCard.lean, 'card_holds'). Laid BY PROGRAM, IN A SANDBOX (cutbox-door.mjs). By AI agents, Wed Nov 11 2026. No macro, syntax, notation, axiom, sorry.
-/
import Derived.Test.YtedgkbmfdniibaaGreatDoorRows
import GoSem.ClaimSeven
namespace Go.Proofs.YtedgkbmfdniibaaGreatDoor
namespace Rows

/-- THE TIED CARD OF 'lintellaw25.CureKnown'. -/
def cureKnownCard : Claim7 := { stood := { row := cureKnownRow, standIns := [], harness := (true, "4736a500df1cfada49825f3335cf4689ac71ef801e078987e392517333c2ec18"), looks := false }, kinds := [], alts := [], laidByText := true, laidKinds := [.data, .data, .data], laidTests := true, laidLooks := .later }
def CureKnownCardSaid : Prop := Claim7.holds Tryz.pinned (.plain (OpenSpec.ofChange cureKnownSpec)) cureKnownCard

/-- THE SECOND FORM's CARD OF 'lintellaw25.CureKnown'. -/
def cureKnownUptoCard : Claim7 := { stood := { row := cureKnownUptoRow, standIns := [], harness := (true, "4736a500df1cfada49825f3335cf4689ac71ef801e078987e392517333c2ec18"), looks := false }, kinds := [], alts := [], laidByText := true, laidKinds := [.data, .data, .data], laidTests := true, laidLooks := .later }
def CureKnownUptoCardSaid : Prop := Claim7.holds Tryz.pinned (.plain (OpenSpec.upto cureKnownSpec)) cureKnownUptoCard
end Rows
end Go.Proofs.YtedgkbmfdniibaaGreatDoor

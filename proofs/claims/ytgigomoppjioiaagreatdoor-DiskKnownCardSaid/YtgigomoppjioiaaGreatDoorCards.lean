/-
  DERIVED. GIVEN WITH THE SEED: THE CARDS: each row of YtgigomoppjioiaaGreatDoorRows.lean that lists a variable, with what it lists TIED to the program's text (the seventh form; the later family's looks); each row that meets fmt, with fmt's text TOLD by the authors' own Lean function (tested against real Go, not proved from fmt's source: count such statements apart). THE CARD IS WHAT COUNTS. Prove the row's statement (the work); the ties are given (YtgigomoppjioiaaGreatDoorTie.lean); close each card by the builder's one call (the guide's Derived/Test/ToyasCard.lean, 'card_holds'). Laid BY PROGRAM, IN A SANDBOX (cutbox-door.mjs). By AI agents, Wed Nov 11 2026. No macro, syntax, notation, axiom, sorry.
-/
import Derived.Test.YtgigomoppjioiaaGreatDoorRows
import GoSem.ClaimSeven
namespace Go.Proofs.YtgigomoppjioiaaGreatDoor
namespace Rows

/-- THE TIED CARD OF 'lintellaw22.DiskKnown'. -/
def diskKnownCard : Claim7 := { stood := { row := diskKnownRow, standIns := [], harness := (true, "54e605909b67ac3da2d14b55e6d693498d9927785f698abe24d7d40598ed25f2"), looks := true }, kinds := [], alts := [], laidByText := true, laidKinds := [.data, .data, .data, .data, .pinned], laidTests := true, laidLooks := .later }
def DiskKnownCardSaid : Prop := Claim7.holds Tryz.pinned (.plain (OpenSpec.ofChange diskKnownSpec)) diskKnownCard

/-- THE SECOND FORM's CARD OF 'lintellaw22.DiskKnown'. -/
def diskKnownUptoCard : Claim7 := { stood := { row := diskKnownUptoRow, standIns := [], harness := (true, "54e605909b67ac3da2d14b55e6d693498d9927785f698abe24d7d40598ed25f2"), looks := true }, kinds := [], alts := [], laidByText := true, laidKinds := [.data, .data, .data, .data, .pinned], laidTests := true, laidLooks := .later }
def DiskKnownUptoCardSaid : Prop := Claim7.holds Tryz.pinned (.plain (OpenSpec.upto diskKnownSpec)) diskKnownUptoCard
end Rows
end Go.Proofs.YtgigomoppjioiaaGreatDoor

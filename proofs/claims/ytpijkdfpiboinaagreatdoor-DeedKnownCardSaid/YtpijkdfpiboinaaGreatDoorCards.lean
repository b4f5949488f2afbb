/-
  DERIVED. GIVEN WITH THE SEED: THE CARDS: each row of YtpijkdfpiboinaaGreatDoorRows.lean that lists a variable, with what it lists TIED to the program's text (the seventh form; the later family's looks); each row that meets fmt, with fmt's text TOLD by the authors' own Lean function (tested against real Go, not proved from fmt's source: count such statements apart). THE CARD IS WHAT COUNTS. Prove the row's statement (the work); the ties are given (YtpijkdfpiboinaaGreatDoorTie.lean); close each card by the builder's one call (the guide's Derived/Test/ToyasCard.lean, 'card_holds'). Laid BY PROGRAM, IN A SANDBOX (cutbox-door.mjs). By AI agents, Wed Nov 11 2026. No macro, syntax, notation, axiom, sorry.
-/
import Derived.Test.YtpijkdfpiboinaaGreatDoorRows
import GoSem.ClaimSeven
namespace Go.Proofs.YtpijkdfpiboinaaGreatDoor
namespace Rows

/-- THE TIED CARD OF 'lintellaw21.DeedKnown'. -/
def deedKnownCard : Claim7 := { stood := { row := deedKnownRow, standIns := [], harness := (true, "7c71440253619ab6fbc21f5f3e809a630bf34edc4ca83857b30e4c2eff98e325"), looks := true }, kinds := [], alts := [], laidByText := true, laidKinds := [.data, .data, .data, .data, .pinned], laidTests := true, laidLooks := .later }
def DeedKnownCardSaid : Prop := Claim7.holds Tryz.pinned (.plain (OpenSpec.ofChange deedKnownSpec)) deedKnownCard

/-- THE SECOND FORM's CARD OF 'lintellaw21.DeedKnown'. -/
def deedKnownUptoCard : Claim7 := { stood := { row := deedKnownUptoRow, standIns := [], harness := (true, "7c71440253619ab6fbc21f5f3e809a630bf34edc4ca83857b30e4c2eff98e325"), looks := true }, kinds := [], alts := [], laidByText := true, laidKinds := [.data, .data, .data, .data, .pinned], laidTests := true, laidLooks := .later }
def DeedKnownUptoCardSaid : Prop := Claim7.holds Tryz.pinned (.plain (OpenSpec.upto deedKnownSpec)) deedKnownUptoCard
end Rows
end Go.Proofs.YtpijkdfpiboinaaGreatDoor

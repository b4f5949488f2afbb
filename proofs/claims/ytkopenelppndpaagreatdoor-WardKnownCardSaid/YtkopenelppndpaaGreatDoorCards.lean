/-
  DERIVED. GIVEN WITH THE SEED: THE CARDS: each row of YtkopenelppndpaaGreatDoorRows.lean that lists a variable, with what it lists TIED to the program's text (the seventh form; the later family's looks); each row that meets fmt, with fmt's text TOLD by the authors' own Lean function (tested against real Go, not proved from fmt's source: count such statements apart). THE CARD IS WHAT COUNTS. Prove the row's statement (the work); the ties are given (YtkopenelppndpaaGreatDoorTie.lean); close each card by the builder's one call (the guide's Derived/Test/ToyasCard.lean, 'card_holds'). Laid BY PROGRAM, IN A SANDBOX (cutbox-door.mjs). By AI agents, Wed Nov 11 2026. No macro, syntax, notation, axiom, sorry.
-/
import Derived.Test.YtkopenelppndpaaGreatDoorRows
import GoSem.ClaimSeven
namespace Go.Proofs.YtkopenelppndpaaGreatDoor
namespace Rows

/-- THE TIED CARD OF 'lintellaw27.WardKnown'. -/
def wardKnownCard : Claim7 := { stood := { row := wardKnownRow, standIns := [], harness := (true, "16bfd2ff72c29424d697d5be6a153387deed2b5d6a73046163f1eabf19ff0f2f"), looks := true }, kinds := [], alts := [], laidByText := true, laidKinds := [.data, .data, .data, .data, .pinned], laidTests := true, laidLooks := .later }
def WardKnownCardSaid : Prop := Claim7.holds Tryz.pinned (.plain (OpenSpec.ofChange wardKnownSpec)) wardKnownCard

/-- THE SECOND FORM's CARD OF 'lintellaw27.WardKnown'. -/
def wardKnownUptoCard : Claim7 := { stood := { row := wardKnownUptoRow, standIns := [], harness := (true, "16bfd2ff72c29424d697d5be6a153387deed2b5d6a73046163f1eabf19ff0f2f"), looks := true }, kinds := [], alts := [], laidByText := true, laidKinds := [.data, .data, .data, .data, .pinned], laidTests := true, laidLooks := .later }
def WardKnownUptoCardSaid : Prop := Claim7.holds Tryz.pinned (.plain (OpenSpec.upto wardKnownSpec)) wardKnownUptoCard
end Rows
end Go.Proofs.YtkopenelppndpaaGreatDoor

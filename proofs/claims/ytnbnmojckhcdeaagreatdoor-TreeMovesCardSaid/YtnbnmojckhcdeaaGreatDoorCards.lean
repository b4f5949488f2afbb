/-
  DERIVED. GIVEN WITH THE SEED: THE CARDS: each row of YtnbnmojckhcdeaaGreatDoorRows.lean that lists a variable, with what it lists TIED to the program's text (the seventh form; the later family's looks); each row that meets fmt, with fmt's text TOLD by the authors' own Lean function (tested against real Go, not proved from fmt's source: count such statements apart). THE CARD IS WHAT COUNTS. Prove the row's statement (the work); the ties are given (YtnbnmojckhcdeaaGreatDoorTie.lean); close each card by the builder's one call (the guide's Derived/Test/ToyasCard.lean, 'card_holds'). Laid BY PROGRAM, IN A SANDBOX (cutbox-door.mjs). By AI agents, Wed Nov 11 2026. No macro, syntax, notation, axiom, sorry.
-/
import Derived.Test.YtnbnmojckhcdeaaGreatDoorRows
import GoSem.ClaimSeven
namespace Go.Proofs.YtnbnmojckhcdeaaGreatDoor
namespace Rows

/-- THE TIED CARD OF 'lintellaw17.TreeRefused'. -/
def treeRefusedCard : Claim7 := { stood := { row := treeRefusedRow, standIns := [], harness := (true, "0fca3fce416701086bb3c740c4c6a7497f4c56779a68a4da66625de49e83879e"), looks := true }, kinds := [], alts := [], laidByText := true, laidKinds := [.data, .pinned], laidTests := true, laidLooks := .later }
def TreeRefusedCardSaid : Prop := Claim7.holds Tryz.pinned (.plain (OpenSpec.ofChange treeRefusedSpec)) treeRefusedCard

/-- THE TIED CARD OF 'lintellaw17.TreeApart'. -/
def treeApartCard : Claim7 := { stood := { row := treeApartRow, standIns := [], harness := (true, "0fca3fce416701086bb3c740c4c6a7497f4c56779a68a4da66625de49e83879e"), looks := true }, kinds := [], alts := [], laidByText := true, laidKinds := [.data, .pinned], laidTests := true, laidLooks := .later }
def TreeApartCardSaid : Prop := Claim7.holds Tryz.pinned (.plain (OpenSpec.ofChange treeApartSpec)) treeApartCard

/-- THE TIED CARD OF 'lintellaw17.TreeMoves'. -/
def treeMovesCard : Claim7 := { stood := { row := treeMovesRow, standIns := [], harness := (true, "0fca3fce416701086bb3c740c4c6a7497f4c56779a68a4da66625de49e83879e"), looks := true }, kinds := [], alts := [], laidByText := true, laidKinds := [.data, .pinned], laidTests := true, laidLooks := .later }
def TreeMovesCardSaid : Prop := Claim7.holds Tryz.pinned (.plain (OpenSpec.ofChange treeMovesSpec)) treeMovesCard

/-- THE SECOND FORM's CARD OF 'lintellaw17.TreeRefused'. -/
def treeRefusedUptoCard : Claim7 := { stood := { row := treeRefusedUptoRow, standIns := [], harness := (true, "0fca3fce416701086bb3c740c4c6a7497f4c56779a68a4da66625de49e83879e"), looks := true }, kinds := [], alts := [], laidByText := true, laidKinds := [.data, .pinned], laidTests := true, laidLooks := .later }
def TreeRefusedUptoCardSaid : Prop := Claim7.holds Tryz.pinned (.plain (OpenSpec.upto treeRefusedSpec)) treeRefusedUptoCard

/-- THE SECOND FORM's CARD OF 'lintellaw17.TreeApart'. -/
def treeApartUptoCard : Claim7 := { stood := { row := treeApartUptoRow, standIns := [], harness := (true, "0fca3fce416701086bb3c740c4c6a7497f4c56779a68a4da66625de49e83879e"), looks := true }, kinds := [], alts := [], laidByText := true, laidKinds := [.data, .pinned], laidTests := true, laidLooks := .later }
def TreeApartUptoCardSaid : Prop := Claim7.holds Tryz.pinned (.plain (OpenSpec.upto treeApartSpec)) treeApartUptoCard

/-- THE SECOND FORM's CARD OF 'lintellaw17.TreeMoves'. -/
def treeMovesUptoCard : Claim7 := { stood := { row := treeMovesUptoRow, standIns := [], harness := (true, "0fca3fce416701086bb3c740c4c6a7497f4c56779a68a4da66625de49e83879e"), looks := true }, kinds := [], alts := [], laidByText := true, laidKinds := [.data, .pinned], laidTests := true, laidLooks := .later }
def TreeMovesUptoCardSaid : Prop := Claim7.holds Tryz.pinned (.plain (OpenSpec.upto treeMovesSpec)) treeMovesUptoCard
end Rows
end Go.Proofs.YtnbnmojckhcdeaaGreatDoor

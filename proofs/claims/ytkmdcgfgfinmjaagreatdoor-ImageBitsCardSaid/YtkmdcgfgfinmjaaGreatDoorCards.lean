/-
  DERIVED. GIVEN WITH THE SEED: THE CARDS: each row of YtkmdcgfgfinmjaaGreatDoorRows.lean that lists a variable, with what it lists TIED to the program's text (the seventh form; the later family's looks); each row that meets fmt, with fmt's text TOLD by the authors' own Lean function (tested against real Go, not proved from fmt's source: count such statements apart). THE CARD IS WHAT COUNTS. Prove the row's statement (the work); the ties are given (YtkmdcgfgfinmjaaGreatDoorTie.lean); close each card by the builder's one call (the guide's Derived/Test/ToyasCard.lean, 'card_holds'). Laid BY PROGRAM, IN A SANDBOX (cutbox-door.mjs). By AI agents, Wed Nov 11 2026. No macro, syntax, notation, axiom, sorry.
-/
import Derived.Test.YtkmdcgfgfinmjaaGreatDoorRows
import GoSem.ClaimSeven
namespace Go.Proofs.YtkmdcgfgfinmjaaGreatDoor
namespace Rows

/-- THE TIED CARD OF 'lintellaw18.ImageOpens'. -/
def imageOpensCard : Claim7 := { stood := { row := imageOpensRow, standIns := [], harness := (true, "ee3f228011a55a3c2570630ed57e5d4dab840d7fe35a056e58f7f0500f997240"), looks := false }, kinds := [], alts := [], laidByText := true, laidKinds := [.data, .data, .data], laidTests := true, laidLooks := .later }
def ImageOpensCardSaid : Prop := Claim7.holds Tryz.pinned (.plain (OpenSpec.ofChange imageOpensSpec)) imageOpensCard

/-- THE TIED CARD OF 'lintellaw18.ImageBits'. -/
def imageBitsCard : Claim7 := { stood := { row := imageBitsRow, standIns := [], harness := (true, "ee3f228011a55a3c2570630ed57e5d4dab840d7fe35a056e58f7f0500f997240"), looks := false }, kinds := [], alts := [], laidByText := true, laidKinds := [.data, .data, .data], laidTests := true, laidLooks := .later }
def ImageBitsCardSaid : Prop := Claim7.holds Tryz.pinned (.plain (OpenSpec.ofChange imageBitsSpec)) imageBitsCard

/-- THE TIED CARD OF 'lintellaw18.ImageMakes'. -/
def imageMakesCard : Claim7 := { stood := { row := imageMakesRow, standIns := [], harness := (true, "ee3f228011a55a3c2570630ed57e5d4dab840d7fe35a056e58f7f0500f997240"), looks := false }, kinds := [], alts := [], laidByText := true, laidKinds := [.data, .data, .data], laidTests := true, laidLooks := .later }
def ImageMakesCardSaid : Prop := Claim7.holds Tryz.pinned (.plain (OpenSpec.ofChange imageMakesSpec)) imageMakesCard

/-- THE SECOND FORM's CARD OF 'lintellaw18.ImageOpens'. -/
def imageOpensUptoCard : Claim7 := { stood := { row := imageOpensUptoRow, standIns := [], harness := (true, "ee3f228011a55a3c2570630ed57e5d4dab840d7fe35a056e58f7f0500f997240"), looks := false }, kinds := [], alts := [], laidByText := true, laidKinds := [.data, .data, .data], laidTests := true, laidLooks := .later }
def ImageOpensUptoCardSaid : Prop := Claim7.holds Tryz.pinned (.plain (OpenSpec.upto imageOpensSpec)) imageOpensUptoCard

/-- THE SECOND FORM's CARD OF 'lintellaw18.ImageBits'. -/
def imageBitsUptoCard : Claim7 := { stood := { row := imageBitsUptoRow, standIns := [], harness := (true, "ee3f228011a55a3c2570630ed57e5d4dab840d7fe35a056e58f7f0500f997240"), looks := false }, kinds := [], alts := [], laidByText := true, laidKinds := [.data, .data, .data], laidTests := true, laidLooks := .later }
def ImageBitsUptoCardSaid : Prop := Claim7.holds Tryz.pinned (.plain (OpenSpec.upto imageBitsSpec)) imageBitsUptoCard

/-- THE SECOND FORM's CARD OF 'lintellaw18.ImageMakes'. -/
def imageMakesUptoCard : Claim7 := { stood := { row := imageMakesUptoRow, standIns := [], harness := (true, "ee3f228011a55a3c2570630ed57e5d4dab840d7fe35a056e58f7f0500f997240"), looks := false }, kinds := [], alts := [], laidByText := true, laidKinds := [.data, .data, .data], laidTests := true, laidLooks := .later }
def ImageMakesUptoCardSaid : Prop := Claim7.holds Tryz.pinned (.plain (OpenSpec.upto imageMakesSpec)) imageMakesUptoCard
end Rows
end Go.Proofs.YtkmdcgfgfinmjaaGreatDoor

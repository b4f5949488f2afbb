/-
  DERIVED. GIVEN WITH THE SEED: THE CARDS: each row of YtdgcebfncbmbfaaGreatDoorRows.lean that lists a variable, with what it lists TIED to the program's text (the seventh form; the later family's looks); each row that meets fmt, with fmt's text TOLD by the authors' own Lean function (tested against real Go, not proved from fmt's source: count such statements apart). THE CARD IS WHAT COUNTS. Prove the row's statement (the work); the ties are given (YtdgcebfncbmbfaaGreatDoorTie.lean); close each card by the builder's one call (the guide's Derived/Test/ToyasCard.lean, 'card_holds'). Laid BY PROGRAM, IN A SANDBOX (cutbox-door.mjs). By AI agents, Wed Nov 11 2026. No macro, syntax, notation, axiom, sorry.
-/
import Derived.Test.YtdgcebfncbmbfaaGreatDoorRows
import GoSem.ClaimSeven
namespace Go.Proofs.YtdgcebfncbmbfaaGreatDoor
namespace Rows

/-- THE TIED CARD OF 'lintellaw18.ImageMakes'. -/
def imageMakesCard : Claim7 := { stood := { row := imageMakesRow, standIns := [], harness := (true, "a79e7143ecd5e63ca7b391ee80d0af31cca3e0e0f0a9e28d57c5d255c1e62aeb"), looks := false }, kinds := [], alts := [], laidByText := true, laidKinds := [.data, .data, .data], laidTests := true, laidLooks := .later }
def ImageMakesCardSaid : Prop := Claim7.holds Tryz.pinned (.plain (OpenSpec.ofChange imageMakesSpec)) imageMakesCard

/-- THE SECOND FORM's CARD OF 'lintellaw18.ImageMakes'. -/
def imageMakesUptoCard : Claim7 := { stood := { row := imageMakesUptoRow, standIns := [], harness := (true, "a79e7143ecd5e63ca7b391ee80d0af31cca3e0e0f0a9e28d57c5d255c1e62aeb"), looks := false }, kinds := [], alts := [], laidByText := true, laidKinds := [.data, .data, .data], laidTests := true, laidLooks := .later }
def ImageMakesUptoCardSaid : Prop := Claim7.holds Tryz.pinned (.plain (OpenSpec.upto imageMakesSpec)) imageMakesUptoCard
end Rows
end Go.Proofs.YtdgcebfncbmbfaaGreatDoor

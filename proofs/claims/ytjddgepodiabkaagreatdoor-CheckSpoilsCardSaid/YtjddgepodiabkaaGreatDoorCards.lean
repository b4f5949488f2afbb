/-
  DERIVED. GIVEN WITH THE SEED: THE CARDS: each row of YtjddgepodiabkaaGreatDoorRows.lean that lists a variable, with what it lists TIED to the program's text (the seventh form; the later family's looks); each row that meets fmt, with fmt's text TOLD by the authors' own Lean function (tested against real Go, not proved from fmt's source: count such statements apart). THE CARD IS WHAT COUNTS. Prove the row's statement (the work); the ties are given (YtjddgepodiabkaaGreatDoorTie.lean); close each card by the builder's one call (the guide's Derived/Test/ToyasCard.lean, 'card_holds'). Laid BY PROGRAM, IN A SANDBOX (cutbox-door.mjs). By AI agents, Wed Nov 11 2026. No macro, syntax, notation, axiom, sorry.
-/
import Derived.Test.YtjddgepodiabkaaGreatDoorRows
import GoSem.ClaimSeven
namespace Go.Proofs.YtjddgepodiabkaaGreatDoor
namespace Rows

/-- THE TIED CARD OF 'lintellaw19.CheckSpoils'. -/
def checkSpoilsCard : Claim7 := { stood := { row := checkSpoilsRow, standIns := [], harness := (true, "ab6c38fe1697389e86d03ecc682011fcda7a5a81c8e2d0870dc39ae40bde8659"), looks := false }, kinds := [], alts := [], laidByText := true, laidKinds := [.data, .data, .data], laidTests := true, laidLooks := .later }
def CheckSpoilsCardSaid : Prop := Claim7.holds Tryz.pinned (.plain (OpenSpec.ofChange checkSpoilsSpec)) checkSpoilsCard

/-- THE TIED CARD OF 'lintellaw19.CheckCounts'. -/
def checkCountsCard : Claim7 := { stood := { row := checkCountsRow, standIns := [], harness := (true, "ab6c38fe1697389e86d03ecc682011fcda7a5a81c8e2d0870dc39ae40bde8659"), looks := false }, kinds := [], alts := [], laidByText := true, laidKinds := [.data, .data, .data], laidTests := true, laidLooks := .later }
def CheckCountsCardSaid : Prop := Claim7.holds Tryz.pinned (.plain (OpenSpec.ofChange checkCountsSpec)) checkCountsCard

/-- THE SECOND FORM's CARD OF 'lintellaw19.CheckSpoils'. -/
def checkSpoilsUptoCard : Claim7 := { stood := { row := checkSpoilsUptoRow, standIns := [], harness := (true, "ab6c38fe1697389e86d03ecc682011fcda7a5a81c8e2d0870dc39ae40bde8659"), looks := false }, kinds := [], alts := [], laidByText := true, laidKinds := [.data, .data, .data], laidTests := true, laidLooks := .later }
def CheckSpoilsUptoCardSaid : Prop := Claim7.holds Tryz.pinned (.plain (OpenSpec.upto checkSpoilsSpec)) checkSpoilsUptoCard

/-- THE SECOND FORM's CARD OF 'lintellaw19.CheckCounts'. -/
def checkCountsUptoCard : Claim7 := { stood := { row := checkCountsUptoRow, standIns := [], harness := (true, "ab6c38fe1697389e86d03ecc682011fcda7a5a81c8e2d0870dc39ae40bde8659"), looks := false }, kinds := [], alts := [], laidByText := true, laidKinds := [.data, .data, .data], laidTests := true, laidLooks := .later }
def CheckCountsUptoCardSaid : Prop := Claim7.holds Tryz.pinned (.plain (OpenSpec.upto checkCountsSpec)) checkCountsUptoCard
end Rows
end Go.Proofs.YtjddgepodiabkaaGreatDoor

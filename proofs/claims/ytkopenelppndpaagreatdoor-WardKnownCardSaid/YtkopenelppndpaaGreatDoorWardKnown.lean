/-
  'wardKnown': at every start the law 'WardKnown' returns true; it has no parameters. Conditions: those of the given row alone. The frame was written by the kit's own program; the walk is the evaluator's run.
-/
import Derived.Test.YtkopenelppndpaaGreatDoorRows
import Derived.Test.YtkopenelppndpaaGreatDoorCards
import Derived.Test.YtkopenelppndpaaGreatDoorTie
import Derived.SevenTiedAt
import Derived.Lay
import Derived.LaidMore
import Derived.MakeChecks
import Derived.WalkKit
import Derived.ProofKit
import Derived.OpenShut
import Derived.Below
import Derived.Test.YtkopenelppndpaaGreatDoorWardKnownRun
import Derived.Test.YtkopenelppndpaaGreatDoorWardKnownOver
import Derived.Test.YtkopenelppndpaaGreatDoorWardKnownFa
import Derived.Test.YtkopenelppndpaaGreatDoorWardKnownFb
import Derived.Test.YtkopenelppndpaaGreatDoorWardKnownFc
namespace Go.Proofs.YtkopenelppndpaaGreatDoor.wardKnown
open Go.Gev Go.ChangeShapes Go.WideShapes Go.ChangeAt Go.RowKit
set_option linter.unusedVariables false      -- a walk need not use every 'w<i>' (that an integer argument fits its kind)

/-- ████ THE STATEMENT: the row, tied to the program's text ████ -/
theorem proved : Rows.WardKnownCardSaid :=
  Claim7.holds_tied_plain_at .later [] [.data, .data, .data, .data, .pinned] true (true, "16bfd2ff72c29424d697d5be6a153387deed2b5d6a73046163f1eabf19ff0f2f") true
    over (fun _ h => by cases h) wf1 (fun _ h => by cases h) wardKnown_row_tie rfl ⟨rfl, rfl⟩ main1 rfl
    (fun f fn hf hfn => by
      obtain rfl : f = 3 := Option.some.inj (named1.symm.trans hf) |>.symm
      obtain rfl : fn = Tryz.f3 := (Option.some.inj (Tryz.func3.symm.trans hfn)).symm
      exact ⟨looks1, fun j t ht => by
        rw [Tryz.params3] at ht
        rcases j with _ | j <;> simp at ht⟩)
    goes1
#print axioms proved
end Go.Proofs.YtkopenelppndpaaGreatDoor.wardKnown

/- A fact about the program of 'WardKnown', by itself (for memory). -/
import Derived.Test.YtkopenelppndpaaGreatDoorRows
import Derived.Test.YtkopenelppndpaaGreatDoorCards
import Derived.Test.YtkopenelppndpaaGreatDoorTie
import Derived.SevenTiedAt
import Derived.Lay
import Derived.LaidMore
import Derived.MakeChecks
import Derived.WalkKit
import Derived.ProofKit
import Derived.OpenShut
import Derived.Below
namespace Go.Proofs.YtkopenelppndpaaGreatDoor.wardKnown
open Go.ChangeShapes Go.WideShapes Go.ChangeAt Go.RowKit
theorem looks1 : true = Tryz.pinned.checked.prog.looks [] := by kernel_rfl
end Go.Proofs.YtkopenelppndpaaGreatDoor.wardKnown

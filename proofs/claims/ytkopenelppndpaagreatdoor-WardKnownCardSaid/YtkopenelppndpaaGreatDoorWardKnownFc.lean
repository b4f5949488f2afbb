/- A fact about the program of 'WardKnown', by itself (for memory). -/
import Derived.Test.YtkopenelppndpaaGreatDoorRows
import Derived.Test.YtkopenelppndpaaGreatDoorCards
import Derived.Test.YtkopenelppndpaaGreatDoorTie
import Derived.SevenTiedAt
import Derived.Lay
import Derived.LaidMore
import Derived.MakeChecks
import Derived.WalkKit
import Derived.ProofKit
import Derived.OpenShut
import Derived.Below
namespace Go.Proofs.YtkopenelppndpaaGreatDoor.wardKnown
open Go.ChangeShapes Go.WideShapes Go.ChangeAt Go.RowKit
theorem wf1 : Rows.wardKnownRow.wfByText (OpenSpec.ofChange Rows.wardKnownSpec) = true := by kernel_rfl
theorem main1 : Tryz.pinned.checked.prog.mainIs = some (true, "16bfd2ff72c29424d697d5be6a153387deed2b5d6a73046163f1eabf19ff0f2f".toList) := by kernel_rfl
theorem named1 : Tryz.pinned.checked.prog.funcNamed Rows.wardKnownRow.func = some 3 := by kernel_rfl
end Go.Proofs.YtkopenelppndpaaGreatDoor.wardKnown

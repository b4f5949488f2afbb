/- Stage 3 of 'CrewKnown': a call that is run by the kernel, and its summary. Written by a program. -/
import Derived.Test.YtimbaniomdimcaaGreatDoorCrewKnownTab
import Derived.Test.YtimbaniomdimcaaGreatDoorBaseLinks
import Derived.Test.YtimbaniomdimcaaGreatDoorCrewKnownSt2
namespace Go.Proofs.YtimbaniomdimcaaGreatDoor.crewKnown
open Go Go.Gev Go.Proofs.YtimbaniomdimcaaGreatDoor.base
noncomputable def a3 : List Value := []
noncomputable def h3 : Hs := ⟨E, 0, 0⟩
noncomputable def v3 : Value := wT
noncomputable def o3 : Hs := ⟨E, 0, 0⟩
noncomputable def m3 : SmK := memoG a3 h3 v3 o3
theorem st3 : isOut v3 o3 (runK (tabF (tabOf Tryz.prog 1000000 entries) s2) 1000 4 a3 h3) = true := by kernel_rfl
theorem mem3 : SumOk Tryz.prog 4 m3 := memo_sum follows named (tabOf_ok entries_ok) s2_ok (by kernel_rfl) st3
noncomputable def c3 : SmK := m3
theorem c3_ok : SumOk Tryz.prog 4 c3 := mem3
noncomputable def s3 : List (Nat × SmK) := (4, c3) :: s2
theorem s3_ok : SumsOk Tryz.prog s3 := ⟨c3_ok, s2_ok⟩
end Go.Proofs.YtimbaniomdimcaaGreatDoor.crewKnown

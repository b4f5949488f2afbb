/- Stage 4 of 'CrewKnown': a call that is run by the kernel, and its summary. Written by a program. -/
import Derived.Test.YtimbaniomdimcaaGreatDoorCrewKnownTab
import Derived.Test.YtimbaniomdimcaaGreatDoorBaseLinks
import Derived.Test.YtimbaniomdimcaaGreatDoorCrewKnownSt3
namespace Go.Proofs.YtimbaniomdimcaaGreatDoor.crewKnown
open Go Go.Gev Go.Proofs.YtimbaniomdimcaaGreatDoor.base
noncomputable def a4 : List Value := [(wP 2 0)]
noncomputable def h4 : Hs := ⟨k211, 907, 0⟩
noncomputable def v4 : Value := (.tuple #[(wP 928 0), (wI 0)])
noncomputable def o4 : Hs := ⟨k241, 929, 0⟩
noncomputable def m4 : SmK := memoG a4 h4 v4 o4
theorem st4 : isOut v4 o4 (runK (tabF (tabOf Tryz.prog 1000000 entries) s3) 1000 18 a4 h4) = true := by kernel_rfl
theorem mem4 : SumOk Tryz.prog 18 m4 := memo_sum follows named (tabOf_ok entries_ok) s3_ok (by kernel_rfl) st4
noncomputable def c4 : SmK := (orG m4 c0)
theorem c4_ok : SumOk Tryz.prog 18 c4 := (mem4.or c0_ok)
noncomputable def s4 : List (Nat × SmK) := (18, c4) :: s3
theorem s4_ok : SumsOk Tryz.prog s4 := ⟨c4_ok, s3_ok⟩
end Go.Proofs.YtimbaniomdimcaaGreatDoor.crewKnown

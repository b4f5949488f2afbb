/- Stage 1 of 'CrewKnown': a call that is run by the kernel, and its summary. Written by a program. -/
import Derived.Test.YtimbaniomdimcaaGreatDoorCrewKnownTab
import Derived.Test.YtimbaniomdimcaaGreatDoorBaseLinks
import Derived.Test.YtimbaniomdimcaaGreatDoorCrewKnownSt0
namespace Go.Proofs.YtimbaniomdimcaaGreatDoor.crewKnown
open Go Go.Gev Go.Proofs.YtimbaniomdimcaaGreatDoor.base
noncomputable def a1 : List Value := [(wP 989 0)]
noncomputable def h1 : Hs := ⟨k169, 1094, 930⟩
noncomputable def v1 : Value := (.tuple #[(wL 1094 0 8 8), (wL 1095 0 6 6)])
noncomputable def o1 : Hs := ⟨k175, 1096, 930⟩
noncomputable def m1 : SmK := memoG a1 h1 v1 o1
theorem st1 : isOut v1 o1 (runK (tabF (tabOf Tryz.prog 1000000 entries) s0) 1000 119 a1 h1) = true := by kernel_rfl
theorem mem1 : SumOk Tryz.prog 119 m1 := memo_sum follows named (tabOf_ok entries_ok) s0_ok (by kernel_rfl) st1
noncomputable def c1 : SmK := m1
theorem c1_ok : SumOk Tryz.prog 119 c1 := mem1
noncomputable def s1 : List (Nat × SmK) := (119, c1) :: s0
theorem s1_ok : SumsOk Tryz.prog s1 := ⟨c1_ok, s0_ok⟩
end Go.Proofs.YtimbaniomdimcaaGreatDoor.crewKnown

/- Stage 6 of 'CrewKnown': a call that is run by the kernel, and its summary. Written by a program. -/
import Derived.Test.YtimbaniomdimcaaGreatDoorCrewKnownTab
import Derived.Test.YtimbaniomdimcaaGreatDoorBaseLinks
import Derived.Test.YtimbaniomdimcaaGreatDoorCrewKnownSt5
namespace Go.Proofs.YtimbaniomdimcaaGreatDoor.crewKnown
open Go Go.Gev Go.Proofs.YtimbaniomdimcaaGreatDoor.base
noncomputable def a6 : List Value := [(wP 928 0), (wI 2), (.agg #[(wI 12), (wS [47, 97]), (wS []), (wI 0), (wI 0), (.slice none 0 0)])]
noncomputable def h6 : Hs := ⟨k275, 946, 946⟩
noncomputable def v6 : Value := (.tuple #[(.agg #[(wI 2), (wI 0), (wI 0), (wI 0), (wI 0), (.slice none 0 0), (.slice none 0 0), (.slice none 0 0), (.slice none 0 0)]), (wI 0)])
noncomputable def o6 : Hs := ⟨k275, 946, 946⟩
noncomputable def m6 : SmK := memoG a6 h6 v6 o6
theorem st6 : isOut v6 o6 (runK (tabF (tabOf Tryz.prog 1000000 entries) s5) 1000 41 a6 h6) = true := by kernel_rfl
theorem mem6 : SumOk Tryz.prog 41 m6 := memo_sum follows named (tabOf_ok entries_ok) s5_ok (by kernel_rfl) st6
noncomputable def c6 : SmK := (orG m6 c5)
theorem c6_ok : SumOk Tryz.prog 41 c6 := (mem6.or c5_ok)
noncomputable def s6 : List (Nat × SmK) := (41, c6) :: s5
theorem s6_ok : SumsOk Tryz.prog s6 := ⟨c6_ok, s5_ok⟩
end Go.Proofs.YtimbaniomdimcaaGreatDoor.crewKnown

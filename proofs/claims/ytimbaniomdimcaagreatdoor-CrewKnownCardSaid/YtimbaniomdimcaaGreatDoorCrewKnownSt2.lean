/- Stage 2 of 'CrewKnown': a call that is run by the kernel, and its summary. Written by a program. -/
import Derived.Test.YtimbaniomdimcaaGreatDoorCrewKnownTab
import Derived.Test.YtimbaniomdimcaaGreatDoorBaseLinks
import Derived.Test.YtimbaniomdimcaaGreatDoorCrewKnownSt1
namespace Go.Proofs.YtimbaniomdimcaaGreatDoor.crewKnown
open Go Go.Gev Go.Proofs.YtimbaniomdimcaaGreatDoor.base
noncomputable def a2 : List Value := [(wP 918 0), (wI 0), (.agg #[(wI 1), (wS [47, 97]), (wS []), (wI 0), (wI 0), (.slice none 0 0)])]
noncomputable def h2 : Hs := ⟨k184, 927, 927⟩
noncomputable def v2 : Value := (.tuple #[(.agg #[(wI 0), (wI 3), (wI 0), (wI 0), (wI 0), (.slice none 0 0), (.slice none 0 0), (wL 927 0 8 8), (wL 928 0 6 6)]), (wI 0)])
noncomputable def o2 : Hs := ⟨k187, 929, 927⟩
noncomputable def m2 : SmK := memoG a2 h2 v2 o2
theorem st2 : isOut v2 o2 (runK (tabF (tabOf Tryz.prog 1000000 entries) s1) 1000 41 a2 h2) = true := by kernel_rfl
theorem mem2 : SumOk Tryz.prog 41 m2 := memo_sum follows named (tabOf_ok entries_ok) s1_ok (by kernel_rfl) st2
noncomputable def c2 : SmK := m2
theorem c2_ok : SumOk Tryz.prog 41 c2 := mem2
noncomputable def s2 : List (Nat × SmK) := (41, c2) :: s1
theorem s2_ok : SumsOk Tryz.prog s2 := ⟨c2_ok, s1_ok⟩
end Go.Proofs.YtimbaniomdimcaaGreatDoor.crewKnown

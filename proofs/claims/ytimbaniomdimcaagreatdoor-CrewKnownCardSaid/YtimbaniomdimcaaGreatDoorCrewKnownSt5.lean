/- Stage 5 of 'CrewKnown': a call that is run by the kernel, and its summary. Written by a program. -/
import Derived.Test.YtimbaniomdimcaaGreatDoorCrewKnownTab
import Derived.Test.YtimbaniomdimcaaGreatDoorBaseLinks
import Derived.Test.YtimbaniomdimcaaGreatDoorCrewKnownSt4
namespace Go.Proofs.YtimbaniomdimcaaGreatDoor.crewKnown
open Go Go.Gev Go.Proofs.YtimbaniomdimcaaGreatDoor.base
noncomputable def a5 : List Value := [(wP 928 0), (wI 1), (.agg #[(wI 13), (wS [47]), (wS []), (wI 0), (wI 0), (.slice none 0 0)])]
noncomputable def h5 : Hs := ⟨k262, 943, 943⟩
noncomputable def v5 : Value := (.tuple #[(.agg #[(wI 0), (wI 1), (wI 0), (wI 0), (wI 0), (.slice none 0 0), (wL 943 0 1 1), (.slice none 0 0), (.slice none 0 0)]), (wI 0)])
noncomputable def o5 : Hs := ⟨k265, 944, 943⟩
noncomputable def m5 : SmK := memoG a5 h5 v5 o5
theorem st5 : isOut v5 o5 (runK (tabF (tabOf Tryz.prog 1000000 entries) s4) 1000 41 a5 h5) = true := by kernel_rfl
theorem mem5 : SumOk Tryz.prog 41 m5 := memo_sum follows named (tabOf_ok entries_ok) s4_ok (by kernel_rfl) st5
noncomputable def c5 : SmK := (orG m5 c2)
theorem c5_ok : SumOk Tryz.prog 41 c5 := (mem5.or c2_ok)
noncomputable def s5 : List (Nat × SmK) := (41, c5) :: s4
theorem s5_ok : SumsOk Tryz.prog s5 := ⟨c5_ok, s4_ok⟩
end Go.Proofs.YtimbaniomdimcaaGreatDoor.crewKnown

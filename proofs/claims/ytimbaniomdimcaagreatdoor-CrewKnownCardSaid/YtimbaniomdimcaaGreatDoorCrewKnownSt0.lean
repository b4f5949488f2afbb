/- Stage 0 of 'CrewKnown': a call that is run by the kernel, and its summary. Written by a program. -/
import Derived.Test.YtimbaniomdimcaaGreatDoorCrewKnownTab
import Derived.Test.YtimbaniomdimcaaGreatDoorBaseLinks
import Derived.Test.YtimbaniomdimcaaGreatDoorCrewKnownDat0
namespace Go.Proofs.YtimbaniomdimcaaGreatDoor.crewKnown
open Go Go.Gev Go.Proofs.YtimbaniomdimcaaGreatDoor.base
noncomputable def a0 : List Value := [(wP 2 0)]
noncomputable def h0 : Hs := ⟨k62, 907, 0⟩
noncomputable def v0 : Value := (.tuple #[(wP 918 0), (wI 0)])
noncomputable def o0 : Hs := ⟨k81, 919, 0⟩
noncomputable def m0 : SmK := memoG a0 h0 v0 o0
theorem st0 : isOut v0 o0 (runK (tabF (tabOf Tryz.prog 1000000 entries) sumsL) 1000 18 a0 h0) = true := by kernel_rfl
theorem mem0 : SumOk Tryz.prog 18 m0 := memo_sum follows named (tabOf_ok entries_ok) sumsL_ok (by kernel_rfl) st0
noncomputable def c0 : SmK := m0
theorem c0_ok : SumOk Tryz.prog 18 c0 := mem0
noncomputable def s0 : List (Nat × SmK) := (18, c0) :: sumsL
theorem s0_ok : SumsOk Tryz.prog s0 := ⟨c0_ok, sumsL_ok⟩
end Go.Proofs.YtimbaniomdimcaaGreatDoor.crewKnown

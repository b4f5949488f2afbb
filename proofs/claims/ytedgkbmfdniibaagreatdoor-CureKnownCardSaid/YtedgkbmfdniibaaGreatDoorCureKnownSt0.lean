/- Stage 0 of 'CureKnown': a call that is run by the kernel, and its summary. Written by a program. -/
import Derived.Test.YtedgkbmfdniibaaGreatDoorCureKnownTab
import Derived.Test.YtedgkbmfdniibaaGreatDoorBaseKept
import Derived.Test.YtedgkbmfdniibaaGreatDoorCureKnownDat0
namespace Go.Proofs.YtedgkbmfdniibaaGreatDoor.cureKnown
open Go Go.Gev Go.Proofs.YtedgkbmfdniibaaGreatDoor.base
noncomputable def a0 : List Value := [(wL 0 0 512 512)]
noncomputable def h0 : Hs := ⟨(W k7 E E), 1, 1⟩
noncomputable def v0 : Value := (.tuple #[(wP 3 0), (wI 0)])
noncomputable def o0 : Hs := ⟨(W k7 (W k8 E E) (W k7 E (W k9 E E))), 4, 1⟩
noncomputable def m0 : SmK := memoG a0 h0 v0 o0
theorem st0 : isOut v0 o0 (runK (tabF (tabOf Tryz.prog 1000000 entries) sumsP) 1000 28 a0 h0) = true := by kernel_rfl
theorem mem0 : SumOk Tryz.prog 28 m0 := memo_sum follows named (tabOf_ok entries_ok) sumsP_ok (by kernel_rfl) st0
noncomputable def c0 : SmK := m0
theorem c0_ok : SumOk Tryz.prog 28 c0 := mem0
noncomputable def s0 : List (Nat × SmK) := (28, c0) :: sumsP
theorem s0_ok : SumsOk Tryz.prog s0 := ⟨c0_ok, sumsP_ok⟩
end Go.Proofs.YtedgkbmfdniibaaGreatDoor.cureKnown

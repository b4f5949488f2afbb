/- Stage 1 of 'CureKnown': a call that is run by the kernel, and its summary. Written by a program. -/
import Derived.Test.YtedgkbmfdniibaaGreatDoorCureKnownTab
import Derived.Test.YtedgkbmfdniibaaGreatDoorBaseKept
import Derived.Test.YtedgkbmfdniibaaGreatDoorCureKnownSt0
namespace Go.Proofs.YtedgkbmfdniibaaGreatDoor.cureKnown
open Go Go.Gev Go.Proofs.YtedgkbmfdniibaaGreatDoor.base
noncomputable def a1 : List Value := [(wL 0 0 512 512)]
noncomputable def h1 : Hs := ⟨(W k7 E (W k7 E E)), 2, 2⟩
noncomputable def v1 : Value := (.tuple #[(wP 4 0), (wI 0)])
noncomputable def o1 : Hs := ⟨(W k7 (W k7 E (W k10 E E)) (W k7 E (W k11 E E))), 5, 2⟩
noncomputable def m1 : SmK := memoG a1 h1 v1 o1
theorem st1 : isOut v1 o1 (runK (tabF (tabOf Tryz.prog 1000000 entries) s0) 1000 28 a1 h1) = true := by kernel_rfl
theorem mem1 : SumOk Tryz.prog 28 m1 := memo_sum follows named (tabOf_ok entries_ok) s0_ok (by kernel_rfl) st1
noncomputable def c1 : SmK := (orG m1 c0)
theorem c1_ok : SumOk Tryz.prog 28 c1 := (mem1.or c0_ok)
noncomputable def s1 : List (Nat × SmK) := (28, c1) :: s0
theorem s1_ok : SumsOk Tryz.prog s1 := ⟨c1_ok, s0_ok⟩
end Go.Proofs.YtedgkbmfdniibaaGreatDoor.cureKnown

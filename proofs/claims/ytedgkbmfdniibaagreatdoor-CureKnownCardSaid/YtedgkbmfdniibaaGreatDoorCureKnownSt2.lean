/- Stage 2 of 'CureKnown': a call that is run by the kernel, and its summary. Written by a program. -/
import Derived.Test.YtedgkbmfdniibaaGreatDoorCureKnownTab
import Derived.Test.YtedgkbmfdniibaaGreatDoorBaseKept
import Derived.Test.YtedgkbmfdniibaaGreatDoorCureKnownSt1
namespace Go.Proofs.YtedgkbmfdniibaaGreatDoor.cureKnown
open Go Go.Gev Go.Proofs.YtedgkbmfdniibaaGreatDoor.base
noncomputable def a2 : List Value := [(wL 18 0 512 512)]
noncomputable def h2 : Hs := ⟨k17, 19, 19⟩
noncomputable def v2 : Value := (.tuple #[(wP 21 0), (wI 0)])
noncomputable def o2 : Hs := ⟨(W k7 k22 (W k15 (M (M E (W k23 E E)) (M (W k21 E E) (W k16 E E))) (M (M E (W k7 E E)) (M (W k24 E E) (M E E))))), 27, 19⟩
noncomputable def m2 : SmK := memoG a2 h2 v2 o2
theorem st2 : isOut v2 o2 (runK (tabF (tabOf Tryz.prog 1000000 entries) s1) 1000 28 a2 h2) = true := by kernel_rfl
theorem mem2 : SumOk Tryz.prog 28 m2 := memo_sum follows named (tabOf_ok entries_ok) s1_ok (by kernel_rfl) st2
noncomputable def c2 : SmK := (orG m2 c1)
theorem c2_ok : SumOk Tryz.prog 28 c2 := (mem2.or c1_ok)
noncomputable def s2 : List (Nat × SmK) := (28, c2) :: s1
theorem s2_ok : SumsOk Tryz.prog s2 := ⟨c2_ok, s1_ok⟩
end Go.Proofs.YtedgkbmfdniibaaGreatDoor.cureKnown

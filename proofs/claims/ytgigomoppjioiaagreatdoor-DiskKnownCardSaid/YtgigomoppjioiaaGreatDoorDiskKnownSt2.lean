/- Stage 2 of 'DiskKnown': a call that is run by the kernel, and its summary. Written by a program. -/
import Derived.Test.YtgigomoppjioiaaGreatDoorDiskKnownTab
import Derived.Test.YtgigomoppjioiaaGreatDoorBaseLinks
import Derived.Test.YtgigomoppjioiaaGreatDoorDiskKnownSt1
namespace Go.Proofs.YtgigomoppjioiaaGreatDoor.diskKnown
open Go Go.Gev Go.Proofs.YtgigomoppjioiaaGreatDoor.base
noncomputable def a2 : List Value := [(wP 2 0)]
noncomputable def h2 : Hs := ⟨(W k0 (W k51 (M (W (.row (W (wP 13 0) E E) 1 87 1 true false) k54 k58) (W k59 k63 k66)) (W (.row (W (wL 1 0 512 512) E E) 1 55 0 true false) (M k68 k70) (W (.row (W (wP 7 0) E E) 1 87 1 true false) k75 k77))) (W k19 k96 (W (.row (W (wP 2 0) E E) 1 23 0 true false) k104 k112))), 390, 0⟩
noncomputable def v2 : Value := (.tuple #[(wP 401 0), (wI 0)])
noncomputable def o2 : Hs := ⟨(W k0 (W k51 (M (W (.row (W (wP 13 0) E E) 1 87 1 true false) k114 k124) (W k59 k125 k66)) (W (.row (W (wL 1 0 512 512) E E) 1 55 0 true false) (M k126 k70) (W (.row (W (wP 7 0) E E) 1 87 1 true false) k127 k128))) (W k19 k132 (W (.row (W (wP 2 0) E E) 1 23 0 true false) (W (.row (W (wP 10 0) E E) 1 87 1 true false) k133 k103) (W k9 k134 k135)))), 402, 0⟩
noncomputable def m2 : SmK := memoG a2 h2 v2 o2
theorem st2 : isOut v2 o2 (runK (tabF (tabOf Tryz.prog 1000000 entries) s1) 1000 6 a2 h2) = true := by kernel_rfl
theorem mem2 : SumOk Tryz.prog 6 m2 := memo_sum follows named (tabOf_ok entries_ok) s1_ok (by kernel_rfl) st2
noncomputable def c2 : SmK := (orG m2 c0)
theorem c2_ok : SumOk Tryz.prog 6 c2 := (mem2.or c0_ok)
noncomputable def s2 : List (Nat × SmK) := (6, c2) :: s1
theorem s2_ok : SumsOk Tryz.prog s2 := ⟨c2_ok, s1_ok⟩
end Go.Proofs.YtgigomoppjioiaaGreatDoor.diskKnown

/- Stage 0 of 'DiskKnown': a call that is run by the kernel, and its summary. Written by a program. -/
import Derived.Test.YtgigomoppjioiaaGreatDoorDiskKnownTab
import Derived.Test.YtgigomoppjioiaaGreatDoorBaseLinks
import Derived.Test.YtgigomoppjioiaaGreatDoorDiskKnownDat0
namespace Go.Proofs.YtgigomoppjioiaaGreatDoor.diskKnown
open Go Go.Gev Go.Proofs.YtgigomoppjioiaaGreatDoor.base
noncomputable def a0 : List Value := [(wP 2 0)]
noncomputable def h0 : Hs := ⟨(W k0 (W k1 (M k6 k7) (W (.row (W (wL 1 0 512 512) E E) 1 55 0 true false) k10 k11)) (W k19 (W (.row (W (wI 8) E E) 1 3 0 true true) k20 k22) (W (.row (W (wP 2 0) E E) 1 23 0 true false) k23 k24))), 199, 0⟩
noncomputable def v0 : Value := (.tuple #[(wP 210 0), (wI 0)])
noncomputable def o0 : Hs := ⟨(W k0 (W k1 (M k26 k29) (W (.row (W (wL 1 0 512 512) E E) 1 55 0 true false) k30 k32)) (W k19 (W (.row (W (wI 8) E E) 1 3 0 true true) k33 k35) (W (.row (W (wP 2 0) E E) 1 23 0 true false) k36 k38))), 211, 0⟩
noncomputable def m0 : SmK := memoG a0 h0 v0 o0
theorem st0 : isOut v0 o0 (runK (tabF (tabOf Tryz.prog 1000000 entries) sumsL) 1000 6 a0 h0) = true := by kernel_rfl
theorem mem0 : SumOk Tryz.prog 6 m0 := memo_sum follows named (tabOf_ok entries_ok) sumsL_ok (by kernel_rfl) st0
noncomputable def c0 : SmK := m0
theorem c0_ok : SumOk Tryz.prog 6 c0 := mem0
noncomputable def s0 : List (Nat × SmK) := (6, c0) :: sumsL
theorem s0_ok : SumsOk Tryz.prog s0 := ⟨c0_ok, sumsL_ok⟩
end Go.Proofs.YtgigomoppjioiaaGreatDoor.diskKnown

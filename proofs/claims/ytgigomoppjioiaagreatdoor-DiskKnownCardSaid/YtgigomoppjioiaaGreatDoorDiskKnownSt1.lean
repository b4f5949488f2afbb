/- Stage 1 of 'DiskKnown': a call that is run by the kernel, and its summary. Written by a program. -/
import Derived.Test.YtgigomoppjioiaaGreatDoorDiskKnownTab
import Derived.Test.YtgigomoppjioiaaGreatDoorBaseLinks
import Derived.Test.YtgigomoppjioiaaGreatDoorDiskKnownSt0
namespace Go.Proofs.YtgigomoppjioiaaGreatDoor.diskKnown
open Go Go.Gev Go.Proofs.YtgigomoppjioiaaGreatDoor.base
noncomputable def a1 : List Value := [(wL 215 0 512 512), (wI 0), (.agg #[(wI 1), (wS [47, 97]), (wS []), (wI 0), (wI 0), (.slice none 0 0)])]
noncomputable def h1 : Hs := ⟨(W k0 (W k1 (M k40 k29) (W (.row (W (wL 1 0 512 512) E E) 1 55 0 true false) k42 k32)) (W k19 (W (.row (W (wI 8) E E) 1 3 0 true true) k44 k35) (W (.row (W (wP 2 0) E E) 1 23 0 true false) k45 k46))), 216, 213⟩
noncomputable def v1 : Value := (.agg #[(wI 0), (wI 3), (wI 0), (wI 0), (wI 0), (.slice none 0 0), (.slice none 0 0), (wL 216 0 8 8), (wL 217 0 6 6)])
noncomputable def o1 : Hs := ⟨(W k0 (W k1 (M k40 k29) (W (.row (W (wL 1 0 512 512) E E) 1 55 0 true false) k42 k48)) (W k19 (W (.row (W (wI 8) E E) 1 3 0 true true) k44 k50) (W (.row (W (wP 2 0) E E) 1 23 0 true false) k45 k46))), 218, 213⟩
noncomputable def m1 : SmK := memoG a1 h1 v1 o1
theorem st1 : isOut v1 o1 (runK (tabF (tabOf Tryz.prog 1000000 entries) s0) 1000 30 a1 h1) = true := by kernel_rfl
theorem mem1 : SumOk Tryz.prog 30 m1 := memo_sum follows named (tabOf_ok entries_ok) s0_ok (by kernel_rfl) st1
noncomputable def c1 : SmK := m1
theorem c1_ok : SumOk Tryz.prog 30 c1 := mem1
noncomputable def s1 : List (Nat × SmK) := (30, c1) :: s0
theorem s1_ok : SumsOk Tryz.prog s1 := ⟨c1_ok, s0_ok⟩
end Go.Proofs.YtgigomoppjioiaaGreatDoor.diskKnown

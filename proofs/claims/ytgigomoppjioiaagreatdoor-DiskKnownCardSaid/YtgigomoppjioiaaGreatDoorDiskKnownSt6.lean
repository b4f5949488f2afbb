/- Stage 6 of 'DiskKnown': a call that is run by the kernel, and its summary. Written by a program. -/
import Derived.Test.YtgigomoppjioiaaGreatDoorDiskKnownTab
import Derived.Test.YtgigomoppjioiaaGreatDoorBaseLinks
import Derived.Test.YtgigomoppjioiaaGreatDoorDiskKnownSt5
namespace Go.Proofs.YtgigomoppjioiaaGreatDoor.diskKnown
open Go Go.Gev Go.Proofs.YtgigomoppjioiaaGreatDoor.base
noncomputable def a6 : List Value := [(wP 200 0)]
noncomputable def h6 : Hs := ⟨(W k143 (W (.row (W (wP 1 0) E E) 1 23 0 true false) (W k2 (M k144 k145) (W (.row (W (wP 9 0) E E) 1 87 1 true false) k146 k147)) (W (.row (W (wI 8) E E) 1 3 0 true true) (W k2 k150 k151) (M k153 k154))) (W k155 (M k159 (W k2 k160 k161)) (W (.row (W (wL 0 0 512 512) E E) 1 55 0 true false) (M k162 k163) k165))), 397, 198⟩
noncomputable def v6 : Value := (.tuple #[(wP 408 0), (wI 0)])
noncomputable def o6 : Hs := ⟨(W k143 (W (.row (W (wP 1 0) E E) 1 23 0 true false) (W k2 (M k166 k168) (W (.row (W (wP 9 0) E E) 1 87 1 true false) k146 k170)) (W (.row (W (wI 8) E E) 1 3 0 true true) (W k2 k150 k171) (M k173 k175))) (W k155 (M k178 (W k2 k160 k179)) (W (.row (W (wL 0 0 512 512) E E) 1 55 0 true false) (M k162 k180) k182))), 409, 198⟩
noncomputable def m6 : SmK := memoG a6 h6 v6 o6
theorem st6 : isOut v6 o6 (runK (tabF (tabOf Tryz.prog 1000000 entries) s5) 1000 6 a6 h6) = true := by kernel_rfl
theorem mem6 : SumOk Tryz.prog 6 m6 := memo_sum follows named (tabOf_ok entries_ok) s5_ok (by kernel_rfl) st6
noncomputable def c6 : SmK := (orG m6 c2)
theorem c6_ok : SumOk Tryz.prog 6 c6 := (mem6.or c2_ok)
noncomputable def s6 : List (Nat × SmK) := (6, c6) :: s5
theorem s6_ok : SumsOk Tryz.prog s6 := ⟨c6_ok, s5_ok⟩
end Go.Proofs.YtgigomoppjioiaaGreatDoor.diskKnown

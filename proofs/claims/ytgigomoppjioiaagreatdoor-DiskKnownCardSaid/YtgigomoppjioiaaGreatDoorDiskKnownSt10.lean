/- Stage 10 of 'DiskKnown': a call that is run by the kernel, and its summary. Written by a program. -/
import Derived.Test.YtgigomoppjioiaaGreatDoorDiskKnownTab
import Derived.Test.YtgigomoppjioiaaGreatDoorBaseLinks
import Derived.Test.YtgigomoppjioiaaGreatDoorDiskKnownSt9
namespace Go.Proofs.YtgigomoppjioiaaGreatDoor.diskKnown
open Go Go.Gev Go.Proofs.YtgigomoppjioiaaGreatDoor.base
noncomputable def a10 : List Value := [(wL 723 0 512 512)]
noncomputable def h10 : Hs := ⟨(W k143 (W (.row (W (wP 1 0) E E) 1 23 0 true false) k334 k341) (W k155 (M k344 (W k2 k346 (M k347 k348))) k355)), 724, 724⟩
noncomputable def v10 : Value := (.slice none 0 0)
noncomputable def o10 : Hs := ⟨(W k143 (W (.row (W (wP 1 0) E E) 1 23 0 true false) k334 k341) (W k155 (M k344 (W k2 k346 (M k347 k348))) k355)), 724, 724⟩
noncomputable def m10 : SmK := memoG a10 h10 v10 o10
theorem st10 : isOut v10 o10 (runK (tabF (tabOf Tryz.prog 1000000 entries) s9) 1000 43 a10 h10) = true := by kernel_rfl
theorem mem10 : SumOk Tryz.prog 43 m10 := memo_sum follows named (tabOf_ok entries_ok) s9_ok (by kernel_rfl) st10
noncomputable def c10 : SmK := (orG m10 c4)
theorem c10_ok : SumOk Tryz.prog 43 c10 := (mem10.or c4_ok)
noncomputable def s10 : List (Nat × SmK) := (43, c10) :: s9
theorem s10_ok : SumsOk Tryz.prog s10 := ⟨c10_ok, s9_ok⟩
end Go.Proofs.YtgigomoppjioiaaGreatDoor.diskKnown

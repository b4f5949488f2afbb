/- Stage 5 of 'DiskKnown': a call that is run by the kernel, and its summary. Written by a program. -/
import Derived.Test.YtgigomoppjioiaaGreatDoorDiskKnownTab
import Derived.Test.YtgigomoppjioiaaGreatDoorBaseLinks
import Derived.Test.YtgigomoppjioiaaGreatDoorDiskKnownSt4
namespace Go.Proofs.YtgigomoppjioiaaGreatDoor.diskKnown
open Go Go.Gev Go.Proofs.YtgigomoppjioiaaGreatDoor.base
noncomputable def a5 : List Value := []
noncomputable def h5 : Hs := ⟨E, 0, 0⟩
noncomputable def v5 : Value := wT
noncomputable def o5 : Hs := ⟨E, 0, 0⟩
noncomputable def m5 : SmK := memoG a5 h5 v5 o5
theorem st5 : isOut v5 o5 (runK (tabF (tabOf Tryz.prog 1000000 entries) s4) 1000 4 a5 h5) = true := by kernel_rfl
theorem mem5 : SumOk Tryz.prog 4 m5 := memo_sum follows named (tabOf_ok entries_ok) s4_ok (by kernel_rfl) st5
noncomputable def c5 : SmK := m5
theorem c5_ok : SumOk Tryz.prog 4 c5 := mem5
noncomputable def s5 : List (Nat × SmK) := (4, c5) :: s4
theorem s5_ok : SumsOk Tryz.prog s5 := ⟨c5_ok, s4_ok⟩
end Go.Proofs.YtgigomoppjioiaaGreatDoor.diskKnown

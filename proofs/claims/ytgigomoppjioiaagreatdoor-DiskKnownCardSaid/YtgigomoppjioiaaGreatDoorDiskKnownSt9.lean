/- Stage 9 of 'DiskKnown': a call that is run by the kernel, and its summary. Written by a program. -/
import Derived.Test.YtgigomoppjioiaaGreatDoorDiskKnownTab
import Derived.Test.YtgigomoppjioiaaGreatDoorBaseLinks
import Derived.Test.YtgigomoppjioiaaGreatDoorDiskKnownSt8
namespace Go.Proofs.YtgigomoppjioiaaGreatDoor.diskKnown
open Go Go.Gev Go.Proofs.YtgigomoppjioiaaGreatDoor.base
noncomputable def a9 : List Value := [(wP 595 0)]
noncomputable def h9 : Hs := ⟨(W k143 k261 k285), 649, 0⟩
noncomputable def v9 : Value := (.tuple #[(wP 690 0), (wI 0)])
noncomputable def o9 : Hs := ⟨(W k143 (W (.row (W (wP 1 0) E E) 1 23 0 true false) (W k2 k290 (W (.row (W (wP 9 0) E E) 1 87 1 true false) (M k292 k297) (W k2 k299 k300))) k313) (W k155 (M k317 (W k2 k319 (M k320 k321))) (W (.row (W (wL 0 0 512 512) E E) 1 55 0 true false) k324 (W (.row (W (wP 6 0) E E) 1 87 1 true false) k327 k328)))), 705, 0⟩
noncomputable def m9 : SmK := memoG a9 h9 v9 o9
theorem st9 : isOut v9 o9 (runK (tabF (tabOf Tryz.prog 1000000 entries) s8) 1000 11 a9 h9) = true := by kernel_rfl
theorem mem9 : SumOk Tryz.prog 11 m9 := memo_sum follows named (tabOf_ok entries_ok) s8_ok (by kernel_rfl) st9
noncomputable def c9 : SmK := m9
theorem c9_ok : SumOk Tryz.prog 11 c9 := mem9
noncomputable def s9 : List (Nat × SmK) := (11, c9) :: s8
theorem s9_ok : SumsOk Tryz.prog s9 := ⟨c9_ok, s8_ok⟩
end Go.Proofs.YtgigomoppjioiaaGreatDoor.diskKnown

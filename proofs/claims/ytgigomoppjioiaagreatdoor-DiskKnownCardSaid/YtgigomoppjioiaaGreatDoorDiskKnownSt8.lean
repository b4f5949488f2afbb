/- Stage 8 of 'DiskKnown': a call that is run by the kernel, and its summary. Written by a program. -/
import Derived.Test.YtgigomoppjioiaaGreatDoorDiskKnownTab
import Derived.Test.YtgigomoppjioiaaGreatDoorBaseLinks
import Derived.Test.YtgigomoppjioiaaGreatDoorDiskKnownSt7
namespace Go.Proofs.YtgigomoppjioiaaGreatDoor.diskKnown
open Go Go.Gev Go.Proofs.YtgigomoppjioiaaGreatDoor.base
noncomputable def a8 : List Value := [(wP 200 0)]
noncomputable def h8 : Hs := ⟨(W k143 k223 (W k155 (M (W (.row (W (wP 12 0) E E) 1 87 1 true false) k224 k228) (W k2 k230 k233)) (W (.row (W (wL 0 0 512 512) E E) 1 55 0 true false) (M k237 k241) (W (.row (W (wP 6 0) E E) 1 87 1 true false) k242 k243)))), 583, 0⟩
noncomputable def v8 : Value := (.tuple #[(wP 595 0), (wI 0)])
noncomputable def o8 : Hs := ⟨(W k143 k261 k285), 649, 0⟩
noncomputable def m8 : SmK := memoG a8 h8 v8 o8
theorem st8 : isOut v8 o8 (runK (tabF (tabOf Tryz.prog 1000000 entries) s7) 1000 6 a8 h8) = true := by kernel_rfl
theorem mem8 : SumOk Tryz.prog 6 m8 := memo_sum follows named (tabOf_ok entries_ok) s7_ok (by kernel_rfl) st8
noncomputable def c8 : SmK := (orG m8 c6)
theorem c8_ok : SumOk Tryz.prog 6 c8 := (mem8.or c6_ok)
noncomputable def s8 : List (Nat × SmK) := (6, c8) :: s7
theorem s8_ok : SumsOk Tryz.prog s8 := ⟨c8_ok, s7_ok⟩
end Go.Proofs.YtgigomoppjioiaaGreatDoor.diskKnown

/- Stage 0 of 'MendKnown': a call that is run by the kernel, and its summary. Written by a program. -/
import Derived.Test.YtkpdjdgagjolaaaGreatDoorMendKnownTab
import Derived.Test.YtkpdjdgagjolaaaGreatDoorBaseSum
import Derived.Test.YtkpdjdgagjolaaaGreatDoorMendKnownDat0
namespace Go.Proofs.YtkpdjdgagjolaaaGreatDoor.mendKnown
open Go Go.Gev Go.Proofs.YtkpdjdgagjolaaaGreatDoor.base
noncomputable def a0 : List Value := [(wL 213 0 512 512)]
noncomputable def h0 : Hs := ⟨(W k7 (W (.row (W (wP 1 0) E E) 1 26 0 true false) (W k8 k10 k13) (W (.row (W (wI 8) E E) 1 3 0 true true) k16 k19)) (W k20 (M k24 k26) (W (.row (W (wL 0 0 512 512) E E) 1 31 0 true false) k29 k31))), 214, 214⟩
noncomputable def v0 : Value := (.tuple #[(wP 216 0), (wI 0)])
noncomputable def o0 : Hs := ⟨(W k7 (W (.row (W (wP 1 0) E E) 1 26 0 true false) (W k8 k32 k13) (W (.row (W (wI 8) E E) 1 3 0 true true) k16 k34)) (W k20 (M k24 k26) (W (.row (W (wL 0 0 512 512) E E) 1 31 0 true false) k29 k36))), 217, 214⟩
noncomputable def m0 : SmK := memoG a0 h0 v0 o0
theorem st0 : isOut v0 o0 (runK (tabF (tabOf Tryz.prog 1000000 entries) sums) 1000 53 a0 h0) = true := by kernel_rfl
theorem mem0 : SumOk Tryz.prog 53 m0 := memo_sum follows named (tabOf_ok entries_ok) sums_ok (by kernel_rfl) st0
noncomputable def c0 : SmK := m0
theorem c0_ok : SumOk Tryz.prog 53 c0 := mem0
noncomputable def s0 : List (Nat × SmK) := (53, c0) :: sums
theorem s0_ok : SumsOk Tryz.prog s0 := ⟨c0_ok, sums_ok⟩
end Go.Proofs.YtkpdjdgagjolaaaGreatDoor.mendKnown

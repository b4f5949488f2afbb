/- Stage 1 of 'MendKnown': a call that is run by the kernel, and its summary. Written by a program. -/
import Derived.Test.YtkpdjdgagjolaaaGreatDoorMendKnownTab
import Derived.Test.YtkpdjdgagjolaaaGreatDoorBaseSum
import Derived.Test.YtkpdjdgagjolaaaGreatDoorMendKnownSt0
namespace Go.Proofs.YtkpdjdgagjolaaaGreatDoor.mendKnown
open Go Go.Gev Go.Proofs.YtkpdjdgagjolaaaGreatDoor.base
noncomputable def a1 : List Value := [(wP 1 0)]
noncomputable def h1 : Hs := ⟨(W k7 (W (.row (W (wP 1 0) E E) 1 26 0 true false) (W k8 k37 k38) (W (.row (W (wI 8) E E) 1 3 0 true true) k39 k40)) (W k20 (M k41 k42) (W (.row (W (wL 0 0 512 512) E E) 1 31 0 true false) k43 k44))), 198, 0⟩
noncomputable def v1 : Value := (.tuple #[(wI 0), (wI 0)])
noncomputable def o1 : Hs := ⟨(W k7 (W (.row (W (wP 1 0) E E) 1 26 0 true false) (W k8 k37 k38) (W (.row (W (wI 8) E E) 1 3 0 true true) k39 k40)) (W k20 (M k41 k42) (W (.row (W (wL 0 0 512 512) E E) 1 31 0 true false) k43 k44))), 198, 0⟩
noncomputable def m1 : SmK := memoG a1 h1 v1 o1
theorem st1 : isOut v1 o1 (runK (tabF (tabOf Tryz.prog 1000000 entries) s0) 1000 5 a1 h1) = true := by kernel_rfl
theorem mem1 : SumOk Tryz.prog 5 m1 := memo_sum follows named (tabOf_ok entries_ok) s0_ok (by kernel_rfl) st1
noncomputable def c1 : SmK := m1
theorem c1_ok : SumOk Tryz.prog 5 c1 := mem1
noncomputable def s1 : List (Nat × SmK) := (5, c1) :: s0
theorem s1_ok : SumsOk Tryz.prog s1 := ⟨c1_ok, s0_ok⟩
end Go.Proofs.YtkpdjdgagjolaaaGreatDoor.mendKnown

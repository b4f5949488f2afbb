/- Stage 1 of 'DeedKnown': a call that is run by the kernel, and its summary. Written by a program. -/
import Derived.Test.YtpijkdfpiboinaaGreatDoorDeedKnownTab
import Derived.Test.YtpijkdfpiboinaaGreatDoorBaseLinks
import Derived.Test.YtpijkdfpiboinaaGreatDoorDeedKnownSt0
namespace Go.Proofs.YtpijkdfpiboinaaGreatDoor.deedKnown
open Go Go.Gev Go.Proofs.YtpijkdfpiboinaaGreatDoor.base
noncomputable def a1 : List Value := [(wL 0 0 512 512), (wI 0), (wL 8 0 4 4)]
noncomputable def h1 : Hs := ⟨(W k7 (W k8 (M E E) (W k9 E (W k10 E E))) (W k11 (W k14 E E) (W k15 E (W (.row (W (wB 120) E E) 1 5 0 true true) E E)))), 9, 0⟩
noncomputable def v1 : Value := (.tuple #[(wL 32 0 512 512), (wL 34 0 4 4)])
noncomputable def o1 : Hs := ⟨(W k7 (W k8 (M (W k20 (W (.row (W (wB 0) E (W (wB 120) E E)) 2 5 1 true true) E E) (W k21 E E)) (W k22 (W k27 E E) (W k28 E (W k29 E E)))) (W k9 (W k30 (M E E) (W k31 E E)) (W k10 (W k32 E E) (M E (W k27 E E))))) (W k11 (W k14 (W k33 (W k34 E E) (M E E)) (W k7 (W k35 E E) (W k36 E (W k37 E E)))) (W k15 (W k38 (W k39 E E) (W k20 E E)) (W (.row (W (wB 120) E E) 1 5 0 true true) (W k40 E E) (W k41 E (W k42 E E)))))), 35, 0⟩
noncomputable def m1 : SmK := memoG a1 h1 v1 o1
theorem st1 : isOut v1 o1 (runK (tabF (tabOf Tryz.prog 1000000 entries) s0) 1000 8 a1 h1) = true := by kernel_rfl
theorem mem1 : SumOk Tryz.prog 8 m1 := memo_sum follows named (tabOf_ok entries_ok) s0_ok (by kernel_rfl) st1
noncomputable def c1 : SmK := m1
theorem c1_ok : SumOk Tryz.prog 8 c1 := mem1
noncomputable def s1 : List (Nat × SmK) := (8, c1) :: s0
theorem s1_ok : SumsOk Tryz.prog s1 := ⟨c1_ok, s0_ok⟩
end Go.Proofs.YtpijkdfpiboinaaGreatDoor.deedKnown

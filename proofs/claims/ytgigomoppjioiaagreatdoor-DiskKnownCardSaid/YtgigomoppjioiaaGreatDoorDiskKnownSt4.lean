/- Stage 4 of 'DiskKnown': a call that is run by the kernel, and its summary. Written by a program. -/
import Derived.Test.YtgigomoppjioiaaGreatDoorDiskKnownTab
import Derived.Test.YtgigomoppjioiaaGreatDoorBaseLinks
import Derived.Test.YtgigomoppjioiaaGreatDoorDiskKnownSt3
namespace Go.Proofs.YtgigomoppjioiaaGreatDoor.diskKnown
open Go Go.Gev Go.Proofs.YtgigomoppjioiaaGreatDoor.base
noncomputable def a4 : List Value := [(wL 403 0 512 512)]
noncomputable def h4 : Hs := ⟨(W k0 (W k51 (M (W (.row (W (wP 13 0) E E) 1 87 1 true false) k114 k124) (W k59 k125 k140)) (W (.row (W (wL 1 0 512 512) E E) 1 55 0 true false) (M k126 k70) (W (.row (W (wP 7 0) E E) 1 87 1 true false) k127 k128))) (W k19 k132 (W (.row (W (wP 2 0) E E) 1 23 0 true false) (W (.row (W (wP 10 0) E E) 1 87 1 true false) k133 k141) (W k9 k134 k135)))), 404, 404⟩
noncomputable def v4 : Value := (.slice none 0 0)
noncomputable def o4 : Hs := ⟨(W k0 (W k51 (M (W (.row (W (wP 13 0) E E) 1 87 1 true false) k114 k124) (W k59 k125 k140)) (W (.row (W (wL 1 0 512 512) E E) 1 55 0 true false) (M k126 k70) (W (.row (W (wP 7 0) E E) 1 87 1 true false) k127 k128))) (W k19 k132 (W (.row (W (wP 2 0) E E) 1 23 0 true false) (W (.row (W (wP 10 0) E E) 1 87 1 true false) k133 k141) (W k9 k134 k135)))), 404, 404⟩
noncomputable def m4 : SmK := memoG a4 h4 v4 o4
theorem st4 : isOut v4 o4 (runK (tabF (tabOf Tryz.prog 1000000 entries) s3) 1000 43 a4 h4) = true := by kernel_rfl
theorem mem4 : SumOk Tryz.prog 43 m4 := memo_sum follows named (tabOf_ok entries_ok) s3_ok (by kernel_rfl) st4
noncomputable def c4 : SmK := m4
theorem c4_ok : SumOk Tryz.prog 43 c4 := mem4
noncomputable def s4 : List (Nat × SmK) := (43, c4) :: s3
theorem s4_ok : SumsOk Tryz.prog s4 := ⟨c4_ok, s3_ok⟩
end Go.Proofs.YtgigomoppjioiaaGreatDoor.diskKnown

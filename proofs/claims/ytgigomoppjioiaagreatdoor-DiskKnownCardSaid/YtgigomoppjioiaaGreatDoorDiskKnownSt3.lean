/- Stage 3 of 'DiskKnown': a call that is run by the kernel, and its summary. Written by a program. -/
import Derived.Test.YtgigomoppjioiaaGreatDoorDiskKnownTab
import Derived.Test.YtgigomoppjioiaaGreatDoorBaseLinks
import Derived.Test.YtgigomoppjioiaaGreatDoorDiskKnownSt2
namespace Go.Proofs.YtgigomoppjioiaaGreatDoor.diskKnown
open Go Go.Gev Go.Proofs.YtgigomoppjioiaaGreatDoor.base
noncomputable def a3 : List Value := [(wP 401 0), (wI 0), (.agg #[(wI 12), (wS [47, 97]), (wS []), (wI 0), (wI 0), (.slice none 0 0)])]
noncomputable def h3 : Hs := ⟨(W k0 (W k51 (M (W (.row (W (wP 13 0) E E) 1 87 1 true false) k114 k124) (W k59 k125 k137)) (W (.row (W (wL 1 0 512 512) E E) 1 55 0 true false) (M k126 k70) (W (.row (W (wP 7 0) E E) 1 87 1 true false) k127 k128))) (W k19 k132 (W (.row (W (wP 2 0) E E) 1 23 0 true false) (W (.row (W (wP 10 0) E E) 1 87 1 true false) k133 k138) (W k9 k134 k135)))), 404, 402⟩
noncomputable def v3 : Value := (.tuple #[(.agg #[(wI 0), (wI 3), (wI 2), (wI 1), (wI 0), (.slice none 0 0), (.slice none 0 0), (.slice none 0 0), (.slice none 0 0)]), (wI 0)])
noncomputable def o3 : Hs := ⟨(W k0 (W k51 (M (W (.row (W (wP 13 0) E E) 1 87 1 true false) k114 k124) (W k59 k125 k137)) (W (.row (W (wL 1 0 512 512) E E) 1 55 0 true false) (M k126 k70) (W (.row (W (wP 7 0) E E) 1 87 1 true false) k127 k128))) (W k19 k132 (W (.row (W (wP 2 0) E E) 1 23 0 true false) (W (.row (W (wP 10 0) E E) 1 87 1 true false) k133 k138) (W k9 k134 k135)))), 404, 402⟩
noncomputable def m3 : SmK := memoG a3 h3 v3 o3
theorem st3 : isOut v3 o3 (runK (tabF (tabOf Tryz.prog 1000000 entries) s2) 1000 9 a3 h3) = true := by kernel_rfl
theorem mem3 : SumOk Tryz.prog 9 m3 := memo_sum follows named (tabOf_ok entries_ok) s2_ok (by kernel_rfl) st3
noncomputable def c3 : SmK := m3
theorem c3_ok : SumOk Tryz.prog 9 c3 := mem3
noncomputable def s3 : List (Nat × SmK) := (9, c3) :: s2
theorem s3_ok : SumsOk Tryz.prog s3 := ⟨c3_ok, s2_ok⟩
end Go.Proofs.YtgigomoppjioiaaGreatDoor.diskKnown

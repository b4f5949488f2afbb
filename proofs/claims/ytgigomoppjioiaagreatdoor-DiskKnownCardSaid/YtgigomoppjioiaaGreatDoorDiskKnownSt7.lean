/- Stage 7 of 'DiskKnown': a call that is run by the kernel, and its summary. Written by a program. -/
import Derived.Test.YtgigomoppjioiaaGreatDoorDiskKnownTab
import Derived.Test.YtgigomoppjioiaaGreatDoorBaseLinks
import Derived.Test.YtgigomoppjioiaaGreatDoorDiskKnownSt6
namespace Go.Proofs.YtgigomoppjioiaaGreatDoor.diskKnown
open Go Go.Gev Go.Proofs.YtgigomoppjioiaaGreatDoor.base
noncomputable def a7 : List Value := [(wL 411 0 512 512), (wI 0), (.agg #[(wI 2), (wS [47, 102]), (wS []), (wI 0), (wI 0), (.slice none 0 0)])]
noncomputable def h7 : Hs := ⟨(W k143 (W (.row (W (wP 1 0) E E) 1 23 0 true false) (W k2 (M k166 k168) (W (.row (W (wP 9 0) E E) 1 87 1 true false) k183 k170)) (W (.row (W (wI 8) E E) 1 3 0 true true) (W k2 k150 k171) (M k173 k175))) (W k155 (M k178 (W k2 k185 k179)) (W (.row (W (wL 0 0 512 512) E E) 1 55 0 true false) (M k186 k180) k182))), 412, 409⟩
noncomputable def v7 : Value := (.agg #[(wI 0), (wI 3), (wI 0), (wI 0), (wI 0), (.slice none 0 0), (.slice none 0 0), (wL 412 0 8 8), (wL 413 0 6 6)])
noncomputable def o7 : Hs := ⟨(W k143 (W (.row (W (wP 1 0) E E) 1 23 0 true false) (W k2 (M k166 k168) (W (.row (W (wP 9 0) E E) 1 87 1 true false) k183 k170)) (W (.row (W (wI 8) E E) 1 3 0 true true) (W k2 k188 k171) (M k173 k175))) (W k155 (M k190 (W k2 k185 k179)) (W (.row (W (wL 0 0 512 512) E E) 1 55 0 true false) (M k186 k180) k182))), 414, 409⟩
noncomputable def m7 : SmK := memoG a7 h7 v7 o7
theorem st7 : isOut v7 o7 (runK (tabF (tabOf Tryz.prog 1000000 entries) s6) 1000 30 a7 h7) = true := by kernel_rfl
theorem mem7 : SumOk Tryz.prog 30 m7 := memo_sum follows named (tabOf_ok entries_ok) s6_ok (by kernel_rfl) st7
noncomputable def c7 : SmK := (orG m7 c1)
theorem c7_ok : SumOk Tryz.prog 30 c7 := (mem7.or c1_ok)
noncomputable def s7 : List (Nat × SmK) := (30, c7) :: s6
theorem s7_ok : SumsOk Tryz.prog s7 := ⟨c7_ok, s6_ok⟩
end Go.Proofs.YtgigomoppjioiaaGreatDoor.diskKnown

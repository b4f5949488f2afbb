/- Stage 3 of 'MendKnown': a call that is run by the kernel, and its summary. Written by a program. -/
import Derived.Test.YtkpdjdgagjolaaaGreatDoorMendKnownTab
import Derived.Test.YtkpdjdgagjolaaaGreatDoorBaseSum
import Derived.Test.YtkpdjdgagjolaaaGreatDoorMendKnownSt2
namespace Go.Proofs.YtkpdjdgagjolaaaGreatDoor.mendKnown
open Go Go.Gev Go.Proofs.YtkpdjdgagjolaaaGreatDoor.base
noncomputable def a3 : List Value := [(wP 201 0)]
noncomputable def h3 : Hs := ⟨(W k46 (W (.row (W (wP 1 0) E E) 1 26 0 true false) (W k9 (M k106 k107) (W (.row (W (wP 9 0) E E) 1 93 1 true false) k108 k109)) (W (.row (W (wI 8) E E) 1 3 0 true true) (W k9 k110 k111) (M k112 k113))) (W k20 (M (W (.row (W (wP 12 0) E E) 1 93 1 true false) k114 k115) (W k9 k116 k117)) (W (.row (W (wL 0 0 512 512) E E) 1 31 0 true false) (M k118 k119) k121))), 398, 0⟩
noncomputable def v3 : Value := (.tuple #[(wI 17), (wI 0)])
noncomputable def o3 : Hs := ⟨k187, 635, 0⟩
noncomputable def m3 : SmK := memoG a3 h3 v3 o3
theorem st3 : isOut v3 o3 (runK (tabF (tabOf Tryz.prog 1000000 entries) s2) 1000 5 a3 h3) = true := by kernel_rfl
theorem mem3 : SumOk Tryz.prog 5 m3 := memo_sum follows named (tabOf_ok entries_ok) s2_ok (by kernel_rfl) st3
noncomputable def c3 : SmK := (orG m3 c1)
theorem c3_ok : SumOk Tryz.prog 5 c3 := (mem3.or c1_ok)
noncomputable def s3 : List (Nat × SmK) := (5, c3) :: s2
theorem s3_ok : SumsOk Tryz.prog s3 := ⟨c3_ok, s2_ok⟩
end Go.Proofs.YtkpdjdgagjolaaaGreatDoor.mendKnown

/- Stage 4 of 'MendKnown': a call that is run by the kernel, and its summary. Written by a program. -/
import Derived.Test.YtkpdjdgagjolaaaGreatDoorMendKnownTab
import Derived.Test.YtkpdjdgagjolaaaGreatDoorBaseSum
import Derived.Test.YtkpdjdgagjolaaaGreatDoorMendKnownSt3
namespace Go.Proofs.YtkpdjdgagjolaaaGreatDoor.mendKnown
open Go Go.Gev Go.Proofs.YtkpdjdgagjolaaaGreatDoor.base
noncomputable def a4 : List Value := [(wL 651 0 512 512)]
noncomputable def h4 : Hs := ⟨k208, 652, 652⟩
noncomputable def v4 : Value := (.tuple #[(wP 654 0), (wI 0)])
noncomputable def o4 : Hs := ⟨k217, 655, 652⟩
noncomputable def m4 : SmK := memoG a4 h4 v4 o4
theorem st4 : isOut v4 o4 (runK (tabF (tabOf Tryz.prog 1000000 entries) s3) 1000 53 a4 h4) = true := by kernel_rfl
theorem mem4 : SumOk Tryz.prog 53 m4 := memo_sum follows named (tabOf_ok entries_ok) s3_ok (by kernel_rfl) st4
noncomputable def c4 : SmK := (orG m4 c2)
theorem c4_ok : SumOk Tryz.prog 53 c4 := (mem4.or c2_ok)
noncomputable def s4 : List (Nat × SmK) := (53, c4) :: s3
theorem s4_ok : SumsOk Tryz.prog s4 := ⟨c4_ok, s3_ok⟩
end Go.Proofs.YtkpdjdgagjolaaaGreatDoor.mendKnown

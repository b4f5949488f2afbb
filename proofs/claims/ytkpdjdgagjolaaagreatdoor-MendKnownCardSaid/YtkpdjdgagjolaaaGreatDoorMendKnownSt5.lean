/- Stage 5 of 'MendKnown': a call that is run by the kernel, and its summary. Written by a program. -/
import Derived.Test.YtkpdjdgagjolaaaGreatDoorMendKnownTab
import Derived.Test.YtkpdjdgagjolaaaGreatDoorBaseSum
import Derived.Test.YtkpdjdgagjolaaaGreatDoorMendKnownSt4
namespace Go.Proofs.YtkpdjdgagjolaaaGreatDoor.mendKnown
open Go Go.Gev Go.Proofs.YtkpdjdgagjolaaaGreatDoor.base
noncomputable def a5 : List Value := [(wP 201 0)]
noncomputable def h5 : Hs := ⟨k218, 636, 0⟩
noncomputable def v5 : Value := (.tuple #[(wI 0), (wI 0)])
noncomputable def o5 : Hs := ⟨k218, 636, 0⟩
noncomputable def m5 : SmK := memoG a5 h5 v5 o5
theorem st5 : isOut v5 o5 (runK (tabF (tabOf Tryz.prog 1000000 entries) s4) 1000 5 a5 h5) = true := by kernel_rfl
theorem mem5 : SumOk Tryz.prog 5 m5 := memo_sum follows named (tabOf_ok entries_ok) s4_ok (by kernel_rfl) st5
noncomputable def c5 : SmK := (orG m5 c3)
theorem c5_ok : SumOk Tryz.prog 5 c5 := (mem5.or c3_ok)
noncomputable def s5 : List (Nat × SmK) := (5, c5) :: s4
theorem s5_ok : SumsOk Tryz.prog s5 := ⟨c5_ok, s4_ok⟩
end Go.Proofs.YtkpdjdgagjolaaaGreatDoor.mendKnown

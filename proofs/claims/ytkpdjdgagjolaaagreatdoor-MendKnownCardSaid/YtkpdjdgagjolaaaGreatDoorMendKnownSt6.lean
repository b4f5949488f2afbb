/- Stage 6 of 'MendKnown': a call that is run by the kernel, and its summary. Written by a program. -/
import Derived.Test.YtkpdjdgagjolaaaGreatDoorMendKnownTab
import Derived.Test.YtkpdjdgagjolaaaGreatDoorBaseSum
import Derived.Test.YtkpdjdgagjolaaaGreatDoorMendKnownSt5
namespace Go.Proofs.YtkpdjdgagjolaaaGreatDoor.mendKnown
open Go Go.Gev Go.Proofs.YtkpdjdgagjolaaaGreatDoor.base
noncomputable def a6 : List Value := [(wL 636 0 512 512)]
noncomputable def h6 : Hs := ⟨k221, 637, 637⟩
noncomputable def v6 : Value := (.tuple #[(wP 639 0), (wI 0)])
noncomputable def o6 : Hs := ⟨k230, 640, 637⟩
noncomputable def m6 : SmK := memoG a6 h6 v6 o6
theorem st6 : isOut v6 o6 (runK (tabF (tabOf Tryz.prog 1000000 entries) s5) 1000 53 a6 h6) = true := by kernel_rfl
theorem mem6 : SumOk Tryz.prog 53 m6 := memo_sum follows named (tabOf_ok entries_ok) s5_ok (by kernel_rfl) st6
noncomputable def c6 : SmK := (orG m6 c4)
theorem c6_ok : SumOk Tryz.prog 53 c6 := (mem6.or c4_ok)
noncomputable def s6 : List (Nat × SmK) := (53, c6) :: s5
theorem s6_ok : SumsOk Tryz.prog s6 := ⟨c6_ok, s5_ok⟩
end Go.Proofs.YtkpdjdgagjolaaaGreatDoor.mendKnown

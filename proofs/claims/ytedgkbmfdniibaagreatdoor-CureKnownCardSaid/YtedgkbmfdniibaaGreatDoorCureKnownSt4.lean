/- Stage 4 of 'CureKnown': a call that is run by the kernel, and its summary. Written by a program. -/
import Derived.Test.YtedgkbmfdniibaaGreatDoorCureKnownTab
import Derived.Test.YtedgkbmfdniibaaGreatDoorBaseKept
import Derived.Test.YtedgkbmfdniibaaGreatDoorCureKnownSt3
namespace Go.Proofs.YtedgkbmfdniibaaGreatDoor.cureKnown
open Go Go.Gev Go.Proofs.YtedgkbmfdniibaaGreatDoor.base
noncomputable def a4 : List Value := [(wL 23 0 512 512)]
noncomputable def h4 : Hs := ⟨(W k7 k56 (W k15 (M (M E (W k32 E E)) (M E (W k16 E E))) (M (M E (W k7 E E)) (M (W k30 E E) (M E E))))), 24, 24⟩
noncomputable def v4 : Value := (.tuple #[(wP 26 0), (wI 0)])
noncomputable def o4 : Hs := ⟨(W k7 (W (.row (W (wI 0) E (W (wU 7) E E)) 2 34 2 true true) (W (.row (W (wI 2) E (W (wU 7) E E)) 2 34 2 true true) (W (.row (W (wI 6) E (W (wU 7) E E)) 2 34 2 true true) k58 k60) (W (.row (W (wI 4) E (W (wU 7) E E)) 2 34 2 true true) k62 k64)) (W (.row (W (wI 1) E (W (wU 7) E E)) 2 34 2 true true) (W (.row (W (wI 5) E (W (wU 7) E E)) 2 34 2 true true) k65 k66) (W (.row (W (wI 3) E (W (wU 7) E E)) 2 34 2 true true) k70 k72))) (W k15 (M (M k73 k74) (M k76 k79)) (M (M k80 k82) (M k84 k86)))), 259, 24⟩
noncomputable def m4 : SmK := memoG a4 h4 v4 o4
theorem st4 : isOut v4 o4 (runK (tabF (tabOf Tryz.prog 1000000 entries) s3) 1000 28 a4 h4) = true := by kernel_rfl
theorem mem4 : SumOk Tryz.prog 28 m4 := memo_sum follows named (tabOf_ok entries_ok) s3_ok (by kernel_rfl) st4
noncomputable def c4 : SmK := (orG m4 c2)
theorem c4_ok : SumOk Tryz.prog 28 c4 := (mem4.or c2_ok)
noncomputable def s4 : List (Nat × SmK) := (28, c4) :: s3
theorem s4_ok : SumsOk Tryz.prog s4 := ⟨c4_ok, s3_ok⟩
end Go.Proofs.YtedgkbmfdniibaaGreatDoor.cureKnown

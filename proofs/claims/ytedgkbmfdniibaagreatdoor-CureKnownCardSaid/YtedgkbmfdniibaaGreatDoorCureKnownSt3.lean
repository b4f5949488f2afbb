/- Stage 3 of 'CureKnown': a call that is run by the kernel, and its summary. Written by a program. -/
import Derived.Test.YtedgkbmfdniibaaGreatDoorCureKnownTab
import Derived.Test.YtedgkbmfdniibaaGreatDoorBaseKept
import Derived.Test.YtedgkbmfdniibaaGreatDoorCureKnownSt2
namespace Go.Proofs.YtedgkbmfdniibaaGreatDoor.cureKnown
open Go Go.Gev Go.Proofs.YtedgkbmfdniibaaGreatDoor.base
noncomputable def a3 : List Value := [(wP 26 0)]
noncomputable def h3 : Hs := ⟨(W k7 k31 (W k15 (M (M E (W k32 E E)) (M (W k33 E E) (W k16 E E))) (M (M E (W k7 E E)) (M (W k30 E E) (M E E))))), 27, 24⟩
noncomputable def v3 : Value := (.tuple #[])
noncomputable def o3 : Hs := ⟨(W k7 (W (.row (W (wI 0) E (W (wU 7) E E)) 2 34 2 true true) k38 k49) (W k15 k53 k55)), 81, 24⟩
noncomputable def m3 : SmK := memoG a3 h3 v3 o3
theorem st3 : isOut v3 o3 (runK (tabF (tabOf Tryz.prog 1000000 entries) s2) 1000 53 a3 h3) = true := by kernel_rfl
theorem mem3 : SumOk Tryz.prog 53 m3 := memo_sum follows named (tabOf_ok entries_ok) s2_ok (by kernel_rfl) st3
noncomputable def c3 : SmK := m3
theorem c3_ok : SumOk Tryz.prog 53 c3 := mem3
noncomputable def s3 : List (Nat × SmK) := (53, c3) :: s2
theorem s3_ok : SumsOk Tryz.prog s3 := ⟨c3_ok, s2_ok⟩
end Go.Proofs.YtedgkbmfdniibaaGreatDoor.cureKnown

/- Stage 2 of 'MendKnown': a call that is run by the kernel, and its summary. Written by a program. -/
import Derived.Test.YtkpdjdgagjolaaaGreatDoorMendKnownTab
import Derived.Test.YtkpdjdgagjolaaaGreatDoorBaseSum
import Derived.Test.YtkpdjdgagjolaaaGreatDoorMendKnownSt1
namespace Go.Proofs.YtkpdjdgagjolaaaGreatDoor.mendKnown
open Go Go.Gev Go.Proofs.YtkpdjdgagjolaaaGreatDoor.base
noncomputable def a2 : List Value := [(wL 413 0 512 512)]
noncomputable def h2 : Hs := ⟨(W k46 (W (.row (W (wP 1 0) E E) 1 26 0 true false) (W k9 (M k50 k51) (W (.row (W (wP 9 0) E E) 1 93 1 true false) k52 k53)) (W (.row (W (wI 8) E E) 1 3 0 true true) (W k9 k55 k57) (M k59 k60))) (W k20 (M (W (.row (W (wP 12 0) E E) 1 93 1 true false) k63 k64) (W k9 k67 k68)) (W (.row (W (wL 0 0 512 512) E E) 1 31 0 true false) (M k71 k73) k76))), 414, 414⟩
noncomputable def v2 : Value := (.tuple #[(wP 416 0), (wI 0)])
noncomputable def o2 : Hs := ⟨(W k46 (W (.row (W (wP 1 0) E E) 1 26 0 true false) (W k9 (M k77 k79) (W (.row (W (wP 9 0) E E) 1 93 1 true false) k81 k83)) (W (.row (W (wI 8) E E) 1 3 0 true true) (W k9 k85 k86) (M k88 k90))) (W k20 (M (W (.row (W (wP 12 0) E E) 1 93 1 true false) k92 k94) (W k9 k95 k97)) (W (.row (W (wL 0 0 512 512) E E) 1 31 0 true false) (M k99 k101) (W (.row (W (wP 6 0) E E) 1 93 1 true false) k103 k105)))), 430, 414⟩
noncomputable def m2 : SmK := memoG a2 h2 v2 o2
theorem st2 : isOut v2 o2 (runK (tabF (tabOf Tryz.prog 1000000 entries) s1) 1000 53 a2 h2) = true := by kernel_rfl
theorem mem2 : SumOk Tryz.prog 53 m2 := memo_sum follows named (tabOf_ok entries_ok) s1_ok (by kernel_rfl) st2
noncomputable def c2 : SmK := (orG m2 c0)
theorem c2_ok : SumOk Tryz.prog 53 c2 := (mem2.or c0_ok)
noncomputable def s2 : List (Nat × SmK) := (53, c2) :: s1
theorem s2_ok : SumsOk Tryz.prog s2 := ⟨c2_ok, s1_ok⟩
end Go.Proofs.YtkpdjdgagjolaaaGreatDoor.mendKnown

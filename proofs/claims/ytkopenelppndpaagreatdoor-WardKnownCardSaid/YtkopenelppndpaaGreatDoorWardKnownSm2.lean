/- Stages of 'WardKnown': calls that are run by the kernel, and their summaries. Written by a program. -/
import Derived.Test.YtkopenelppndpaaGreatDoorWardKnownTab
import Derived.Test.YtkopenelppndpaaGreatDoorBaseLinks
import Derived.Test.YtkopenelppndpaaGreatDoorWardKnownSm1
namespace Go.Proofs.YtkopenelppndpaaGreatDoor.wardKnown
open Go Go.Gev Go.Proofs.YtkopenelppndpaaGreatDoor.base
noncomputable def a8 : List Value := [(wP 3 0)]
noncomputable def h8 : Hs := ⟨(W k0 (W k8 k219 (W (.row (W (wP 3 0) E E) 1 52 0 true false) k224 (W k14 k227 k231))) (W k0 (W (.row (W (wL 2 0 512 512) E E) 1 48 0 true false) (M k233 k234) (W (.row (W (wP 8 0) E E) 1 100 1 true false) k235 k237)) (W k107 (W k108 k238 k241) (M k243 k245)))), 399, 399⟩
noncomputable def v8 : Value := (.tuple #[(wP 410 0), (wI 0)])
noncomputable def o8 : Hs := ⟨(W k0 (W k8 k250 (W (.row (W (wP 3 0) E E) 1 52 0 true false) k252 (W k14 k253 k254))) (W k0 (W (.row (W (wL 2 0 512 512) E E) 1 48 0 true false) (M k233 k255) (W (.row (W (wP 8 0) E E) 1 100 1 true false) k256 k257)) (W k107 (W k108 k238 k258) (M k260 k268)))), 411, 399⟩
noncomputable def m8 : SmK := memoG a8 h8 v8 o8
theorem st8 : isOut v8 o8 (runK (tabF (tabOf Tryz.prog 1000000 entries) s7) 1000 37 a8 h8) = true := by kernel_rfl
theorem mem8 : SumOk Tryz.prog 37 m8 := memo_sum follows named (tabOf_ok entries_ok) s7_ok (by kernel_rfl) st8
noncomputable def c8 : SmK := (orG m8 c6)
theorem c8_ok : SumOk Tryz.prog 37 c8 := (mem8.or c6_ok)
noncomputable def s8 : List (Nat × SmK) := (37, c8) :: s7
theorem s8_ok : SumsOk Tryz.prog s8 := ⟨c8_ok, s7_ok⟩
noncomputable def a9 : List Value := [(wL 418 0 512 512)]
noncomputable def h9 : Hs := ⟨(W k0 (W k8 (W (.row (W (wI 8) E E) 1 3 0 true true) (W k57 k269 k246) (M k248 k272)) (W (.row (W (wP 3 0) E E) 1 52 0 true false) k274 (W k14 k276 k277))) (W k0 (W (.row (W (wL 2 0 512 512) E E) 1 48 0 true false) (M k279 k255) (W (.row (W (wP 8 0) E E) 1 100 1 true false) k256 k280)) (W k281 (W k108 k282 k258) (M k260 k283)))), 419, 418⟩
noncomputable def v9 : Value := (wL 419 0 1 1)
noncomputable def o9 : Hs := ⟨(W k0 (W k8 (W (.row (W (wI 8) E E) 1 3 0 true true) (W k57 k269 k246) (M k248 k272)) (W (.row (W (wP 3 0) E E) 1 52 0 true false) k274 (W k14 k276 k277))) (W k0 (W (.row (W (wL 2 0 512 512) E E) 1 48 0 true false) (M k279 k255) (W (.row (W (wP 8 0) E E) 1 100 1 true false) k256 k280)) (W k281 (W k108 k282 k285) (M k260 k283)))), 420, 418⟩
noncomputable def m9 : SmK := memoG a9 h9 v9 o9
theorem st9 : isOut v9 o9 (runK (tabF (tabOf Tryz.prog 1000000 entries) s8) 1000 29 a9 h9) = true := by kernel_rfl
theorem mem9 : SumOk Tryz.prog 29 m9 := memo_sum follows named (tabOf_ok entries_ok) s8_ok (by kernel_rfl) st9
noncomputable def c9 : SmK := (orG m9 c4)
theorem c9_ok : SumOk Tryz.prog 29 c9 := (mem9.or c4_ok)
noncomputable def s9 : List (Nat × SmK) := (29, c9) :: s8
theorem s9_ok : SumsOk Tryz.prog s9 := ⟨c9_ok, s8_ok⟩
noncomputable def a10 : List Value := [(wP 3 0)]
noncomputable def h10 : Hs := ⟨(W k0 (W k8 (W (.row (W (wI 8) E E) 1 3 0 true true) (W k57 k269 k246) (M k248 k286)) (W (.row (W (wP 3 0) E E) 1 52 0 true false) k288 (W k14 k276 k277))) (W k0 (W (.row (W (wL 2 0 512 512) E E) 1 48 0 true false) (M k279 k290) (W (.row (W (wP 8 0) E E) 1 100 1 true false) k256 k280)) (W k281 (W k108 k282 k292) (M k260 k283)))), 422, 420⟩
noncomputable def v10 : Value := (.tuple #[(wP 433 0), (wI 0)])
noncomputable def o10 : Hs := ⟨(W k0 (W k8 (W (.row (W (wI 8) E E) 1 3 0 true true) (W k57 k294 k295) (M k296 k286)) (W (.row (W (wP 3 0) E E) 1 52 0 true false) k297 (W k14 k298 k299))) (W k0 (W (.row (W (wL 2 0 512 512) E E) 1 48 0 true false) (M k300 k290) (W (.row (W (wP 8 0) E E) 1 100 1 true false) k301 k303)) (W k281 (W k108 k304 k292) (M k305 k306)))), 434, 420⟩
noncomputable def m10 : SmK := memoG a10 h10 v10 o10
theorem st10 : isOut v10 o10 (runK (tabF (tabOf Tryz.prog 1000000 entries) s9) 1000 37 a10 h10) = true := by kernel_rfl
theorem mem10 : SumOk Tryz.prog 37 m10 := memo_sum follows named (tabOf_ok entries_ok) s9_ok (by kernel_rfl) st10
noncomputable def c10 : SmK := (orG m10 c8)
theorem c10_ok : SumOk Tryz.prog 37 c10 := (mem10.or c8_ok)
noncomputable def s10 : List (Nat × SmK) := (37, c10) :: s9
theorem s10_ok : SumsOk Tryz.prog s10 := ⟨c10_ok, s9_ok⟩
noncomputable def a11 : List Value := [(wL 436 0 512 512)]
noncomputable def h11 : Hs := ⟨(W k0 (W k8 (W (.row (W (wI 8) E E) 1 3 0 true true) (W k57 k294 k308) (M k296 k309)) (W (.row (W (wP 3 0) E E) 1 52 0 true false) k311 (W k14 k298 k299))) (W k0 (W (.row (W (wL 2 0 512 512) E E) 1 48 0 true false) (M k300 k313) (W (.row (W (wP 8 0) E E) 1 100 1 true false) k301 k303)) (W k281 (W k108 k304 k314) (M k305 k306)))), 439, 439⟩
noncomputable def v11 : Value := (wL 439 0 1 1)
noncomputable def o11 : Hs := ⟨(W k0 (W k8 (W (.row (W (wI 8) E E) 1 3 0 true true) (W k57 k294 k308) (M k296 k309)) (W (.row (W (wP 3 0) E E) 1 52 0 true false) k311 (W k14 k298 k299))) (W k0 (W (.row (W (wL 2 0 512 512) E E) 1 48 0 true false) (M k300 k313) (W (.row (W (wP 8 0) E E) 1 100 1 true false) k301 k303)) (W k281 (W k108 k304 k314) (M k315 k306)))), 440, 439⟩
noncomputable def m11 : SmK := memoG a11 h11 v11 o11
theorem st11 : isOut v11 o11 (runK (tabF (tabOf Tryz.prog 1000000 entries) s10) 1000 29 a11 h11) = true := by kernel_rfl
theorem mem11 : SumOk Tryz.prog 29 m11 := memo_sum follows named (tabOf_ok entries_ok) s10_ok (by kernel_rfl) st11
noncomputable def c11 : SmK := (orG m11 c9)
theorem c11_ok : SumOk Tryz.prog 29 c11 := (mem11.or c9_ok)
noncomputable def s11 : List (Nat × SmK) := (29, c11) :: s10
theorem s11_ok : SumsOk Tryz.prog s11 := ⟨c11_ok, s10_ok⟩
end Go.Proofs.YtkopenelppndpaaGreatDoor.wardKnown

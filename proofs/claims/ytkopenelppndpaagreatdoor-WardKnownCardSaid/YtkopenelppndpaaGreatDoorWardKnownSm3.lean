/- Stages of 'WardKnown': calls that are run by the kernel, and their summaries. Written by a program. -/
import Derived.Test.YtkopenelppndpaaGreatDoorWardKnownTab
import Derived.Test.YtkopenelppndpaaGreatDoorBaseLinks
import Derived.Test.YtkopenelppndpaaGreatDoorWardKnownSm2
namespace Go.Proofs.YtkopenelppndpaaGreatDoor.wardKnown
open Go Go.Gev Go.Proofs.YtkopenelppndpaaGreatDoor.base
noncomputable def a12 : List Value := [(wL 436 0 512 512)]
noncomputable def h12 : Hs := ⟨(W k0 (W k8 (W (.row (W (wI 8) E E) 1 3 0 true true) (W k57 k317 k319) (M k320 k309)) (W (.row (W (wP 3 0) E E) 1 52 0 true false) k323 (W k14 k325 k299))) (W k0 (W (.row (W (wL 2 0 512 512) E E) 1 48 0 true false) (M k326 k313) (W (.row (W (wP 8 0) E E) 1 100 1 true false) k328 k303)) (W k281 (W k108 k330 k314) (M k315 k331)))), 448, 447⟩
noncomputable def v12 : Value := (.slice none 0 0)
noncomputable def o12 : Hs := ⟨(W k0 (W k8 (W (.row (W (wI 8) E E) 1 3 0 true true) (W k57 k317 k319) (M k320 k309)) (W (.row (W (wP 3 0) E E) 1 52 0 true false) k323 (W k14 k325 k299))) (W k0 (W (.row (W (wL 2 0 512 512) E E) 1 48 0 true false) (M k326 k313) (W (.row (W (wP 8 0) E E) 1 100 1 true false) k328 k303)) (W k281 (W k108 k330 k314) (M k315 k331)))), 448, 447⟩
noncomputable def m12 : SmK := memoG a12 h12 v12 o12
theorem st12 : isOut v12 o12 (runK (tabF (tabOf Tryz.prog 1000000 entries) s11) 1000 29 a12 h12) = true := by kernel_rfl
theorem mem12 : SumOk Tryz.prog 29 m12 := memo_sum follows named (tabOf_ok entries_ok) s11_ok (by kernel_rfl) st12
noncomputable def c12 : SmK := (orG m12 c11)
theorem c12_ok : SumOk Tryz.prog 29 c12 := (mem12.or c11_ok)
noncomputable def s12 : List (Nat × SmK) := (29, c12) :: s11
theorem s12_ok : SumsOk Tryz.prog s12 := ⟨c12_ok, s11_ok⟩
noncomputable def a13 : List Value := [(wL 436 0 512 512)]
noncomputable def h13 : Hs := ⟨(W k0 (W k8 (W (.row (W (wI 8) E E) 1 3 0 true true) (W k57 k332 k334) (M k335 k336)) (W (.row (W (wP 3 0) E E) 1 52 0 true false) (W (.row (W (wP 11 0) E E) 1 100 1 true false) k337 k338) (W k14 k339 k340))) (W k0 (W (.row (W (wL 2 0 512 512) E E) 1 48 0 true false) (M k341 k342) (W (.row (W (wP 8 0) E E) 1 100 1 true false) k343 k344)) (W k281 (W k108 k345 k346) (M k347 k348)))), 469, 447⟩
noncomputable def v13 : Value := (.slice none 0 0)
noncomputable def o13 : Hs := ⟨(W k0 (W k8 (W (.row (W (wI 8) E E) 1 3 0 true true) (W k57 k332 k334) (M k335 k336)) (W (.row (W (wP 3 0) E E) 1 52 0 true false) (W (.row (W (wP 11 0) E E) 1 100 1 true false) k337 k338) (W k14 k339 k340))) (W k0 (W (.row (W (wL 2 0 512 512) E E) 1 48 0 true false) (M k341 k342) (W (.row (W (wP 8 0) E E) 1 100 1 true false) k343 k344)) (W k281 (W k108 k345 k346) (M k347 k348)))), 469, 447⟩
noncomputable def m13 : SmK := memoG a13 h13 v13 o13
theorem st13 : isOut v13 o13 (runK (tabF (tabOf Tryz.prog 1000000 entries) s12) 1000 29 a13 h13) = true := by kernel_rfl
theorem mem13 : SumOk Tryz.prog 29 m13 := memo_sum follows named (tabOf_ok entries_ok) s12_ok (by kernel_rfl) st13
noncomputable def c13 : SmK := (orG m13 c12)
theorem c13_ok : SumOk Tryz.prog 29 c13 := (mem13.or c12_ok)
noncomputable def s13 : List (Nat × SmK) := (29, c13) :: s12
theorem s13_ok : SumsOk Tryz.prog s13 := ⟨c13_ok, s12_ok⟩
noncomputable def a14 : List Value := [(wL 435 0 512 512)]
noncomputable def h14 : Hs := ⟨(W k0 (W k8 (W (.row (W (wI 8) E E) 1 3 0 true true) (W k57 k294 k295) (M k296 k309)) (W (.row (W (wP 3 0) E E) 1 52 0 true false) k297 (W k14 k298 k299))) (W k0 (W (.row (W (wL 2 0 512 512) E E) 1 48 0 true false) (M k300 k290) (W (.row (W (wP 8 0) E E) 1 100 1 true false) k301 k303)) (W k281 (W k108 k304 k314) (M k305 k306)))), 436, 436⟩
noncomputable def v14 : Value := (.tuple #[(wP 438 0), (wI 0)])
noncomputable def o14 : Hs := ⟨(W k0 (W k8 (W (.row (W (wI 8) E E) 1 3 0 true true) (W k57 k317 k319) (M k320 k309)) (W (.row (W (wP 3 0) E E) 1 52 0 true false) k323 (W k14 k325 k299))) (W k0 (W (.row (W (wL 2 0 512 512) E E) 1 48 0 true false) (M k326 k313) (W (.row (W (wP 8 0) E E) 1 100 1 true false) k328 k303)) (W k281 (W k108 k330 k314) (M k315 k306)))), 447, 436⟩
noncomputable def m14 : SmK := memoG a14 h14 v14 o14
theorem st14 : isOut v14 o14 (runK (tabF (tabOf Tryz.prog 1000000 entries) s13) 1000 108 a14 h14) = true := by kernel_rfl
theorem mem14 : SumOk Tryz.prog 108 m14 := memo_sum follows named (tabOf_ok entries_ok) s13_ok (by kernel_rfl) st14
noncomputable def c14 : SmK := m14
theorem c14_ok : SumOk Tryz.prog 108 c14 := mem14
noncomputable def s14 : List (Nat × SmK) := (108, c14) :: s13
theorem s14_ok : SumsOk Tryz.prog s14 := ⟨c14_ok, s13_ok⟩
noncomputable def a15 : List Value := [(wP 3 0)]
noncomputable def h15 : Hs := ⟨(W k0 (W k8 (W (.row (W (wI 8) E E) 1 3 0 true true) (W k57 k269 k246) (M k248 k286)) (W (.row (W (wP 3 0) E E) 1 52 0 true false) k274 (W k14 k276 k277))) (W k0 (W (.row (W (wL 2 0 512 512) E E) 1 48 0 true false) (M k279 k255) (W (.row (W (wP 8 0) E E) 1 100 1 true false) k256 k280)) (W k281 (W k108 k282 k292) (M k260 k283)))), 420, 419⟩
noncomputable def v15 : Value := (.tuple #[(wI 18), (wI 0)])
noncomputable def o15 : Hs := ⟨(W k0 k373 (W k0 k393 (W k394 (W k108 k396 k398) k405))), 598, 3⟩
noncomputable def m15 : SmK := memoG a15 h15 v15 o15
theorem st15 : isOut v15 o15 (runK (tabF (tabOf Tryz.prog 1000000 entries) s14) 1000 23 a15 h15) = true := by kernel_rfl
theorem mem15 : SumOk Tryz.prog 23 m15 := memo_sum follows named (tabOf_ok entries_ok) s14_ok (by kernel_rfl) st15
noncomputable def c15 : SmK := m15
theorem c15_ok : SumOk Tryz.prog 23 c15 := mem15
noncomputable def s15 : List (Nat × SmK) := (23, c15) :: s14
theorem s15_ok : SumsOk Tryz.prog s15 := ⟨c15_ok, s14_ok⟩
end Go.Proofs.YtkopenelppndpaaGreatDoor.wardKnown

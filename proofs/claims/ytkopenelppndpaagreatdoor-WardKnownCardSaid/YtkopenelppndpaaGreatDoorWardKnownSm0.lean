/- Stages of 'WardKnown': calls that are run by the kernel, and their summaries. Written by a program. -/
import Derived.Test.YtkopenelppndpaaGreatDoorWardKnownTab
import Derived.Test.YtkopenelppndpaaGreatDoorBaseLinks
import Derived.Test.YtkopenelppndpaaGreatDoorWardKnownDat0
namespace Go.Proofs.YtkopenelppndpaaGreatDoor.wardKnown
open Go Go.Gev Go.Proofs.YtkopenelppndpaaGreatDoor.base
noncomputable def a0 : List Value := [(wP 3 0)]
noncomputable def h0 : Hs := ⟨(W k0 (W k8 (W (.row (W (wI 8) E E) 1 3 0 true true) k10 k12) (W (.row (W (wP 3 0) E E) 1 52 0 true false) k13 k16)) (W k0 (W (.row (W (wL 2 0 512 512) E E) 1 48 0 true false) k18 k19) (W k20 k21 k25))), 201, 201⟩
noncomputable def v0 : Value := (.tuple #[(wP 212 0), (wI 0)])
noncomputable def o0 : Hs := ⟨(W k0 (W k8 (W (.row (W (wI 8) E E) 1 3 0 true true) k27 k29) (W (.row (W (wP 3 0) E E) 1 52 0 true false) k32 k33)) (W k0 (W (.row (W (wL 2 0 512 512) E E) 1 48 0 true false) k34 k36) (W k20 k38 k39))), 213, 201⟩
noncomputable def m0 : SmK := memoG a0 h0 v0 o0
theorem st0 : isOut v0 o0 (runK (tabF (tabOf Tryz.prog 1000000 entries) sumsL) 1000 37 a0 h0) = true := by kernel_rfl
theorem mem0 : SumOk Tryz.prog 37 m0 := memo_sum follows named (tabOf_ok entries_ok) sumsL_ok (by kernel_rfl) st0
noncomputable def c0 : SmK := m0
theorem c0_ok : SumOk Tryz.prog 37 c0 := mem0
noncomputable def s0 : List (Nat × SmK) := (37, c0) :: sumsL
theorem s0_ok : SumsOk Tryz.prog s0 := ⟨c0_ok, sumsL_ok⟩
noncomputable def a1 : List Value := [(wL 220 0 512 512), (wI 0), (.agg #[(wI 1), (wS [47, 97]), (wS []), (wI 0), (wI 0), (.slice none 0 0)])]
noncomputable def h1 : Hs := ⟨(W k0 (W k8 (W (.row (W (wI 8) E E) 1 3 0 true true) k41 k43) (W (.row (W (wP 3 0) E E) 1 52 0 true false) k44 k46)) (W k0 (W (.row (W (wL 2 0 512 512) E E) 1 48 0 true false) k47 k49) (W k20 k51 k52))), 221, 218⟩
noncomputable def v1 : Value := (.agg #[(wI 0), (wI 3), (wI 0), (wI 0), (wI 0), (.slice none 0 0), (.slice none 0 0), (wL 221 0 8 8), (wL 222 0 6 6)])
noncomputable def o1 : Hs := ⟨(W k0 (W k8 (W (.row (W (wI 8) E E) 1 3 0 true true) k54 k43) (W (.row (W (wP 3 0) E E) 1 52 0 true false) k44 k46)) (W k0 (W (.row (W (wL 2 0 512 512) E E) 1 48 0 true false) k56 k49) (W k20 k51 k52))), 223, 218⟩
noncomputable def m1 : SmK := memoG a1 h1 v1 o1
theorem st1 : isOut v1 o1 (runK (tabF (tabOf Tryz.prog 1000000 entries) s0) 1000 149 a1 h1) = true := by kernel_rfl
theorem mem1 : SumOk Tryz.prog 149 m1 := memo_sum follows named (tabOf_ok entries_ok) s0_ok (by kernel_rfl) st1
noncomputable def c1 : SmK := m1
theorem c1_ok : SumOk Tryz.prog 149 c1 := mem1
noncomputable def s1 : List (Nat × SmK) := (149, c1) :: s0
theorem s1_ok : SumsOk Tryz.prog s1 := ⟨c1_ok, s0_ok⟩
noncomputable def a2 : List Value := [(wP 3 0)]
noncomputable def h2 : Hs := ⟨(W k0 (W k8 k78 (W (.row (W (wP 3 0) E E) 1 52 0 true false) k84 (W k14 k89 k94))) (W k0 (W (.row (W (wL 2 0 512 512) E E) 1 48 0 true false) (M k99 k100) (W (.row (W (wP 8 0) E E) 1 100 1 true false) k102 k106)) (W k107 (W k108 k112 k115) (M k119 k121)))), 396, 396⟩
noncomputable def v2 : Value := (.tuple #[(wP 407 0), (wI 0)])
noncomputable def o2 : Hs := ⟨(W k0 (W k8 k124 (W (.row (W (wP 3 0) E E) 1 52 0 true false) k136 (W k14 k89 k137))) (W k0 (W (.row (W (wL 2 0 512 512) E E) 1 48 0 true false) (M k138 k139) (W (.row (W (wP 8 0) E E) 1 100 1 true false) k102 k140)) (W k107 (W k108 k112 k141) (M k143 k144)))), 408, 396⟩
noncomputable def m2 : SmK := memoG a2 h2 v2 o2
theorem st2 : isOut v2 o2 (runK (tabF (tabOf Tryz.prog 1000000 entries) s1) 1000 37 a2 h2) = true := by kernel_rfl
theorem mem2 : SumOk Tryz.prog 37 m2 := memo_sum follows named (tabOf_ok entries_ok) s1_ok (by kernel_rfl) st2
noncomputable def c2 : SmK := (orG m2 c0)
theorem c2_ok : SumOk Tryz.prog 37 c2 := (mem2.or c0_ok)
noncomputable def s2 : List (Nat × SmK) := (37, c2) :: s1
theorem s2_ok : SumsOk Tryz.prog s2 := ⟨c2_ok, s1_ok⟩
noncomputable def a3 : List Value := [(wP 200 0)]
noncomputable def h3 : Hs := ⟨(W k0 (W k8 k124 (W (.row (W (wP 3 0) E E) 1 52 0 true false) k136 (W k14 k146 k137))) (W k0 (W (.row (W (wL 2 0 512 512) E E) 1 48 0 true false) (M k138 k139) (W (.row (W (wP 8 0) E E) 1 100 1 true false) k102 k140)) (W k107 (W k108 k112 k141) (M k143 k144)))), 408, 0⟩
noncomputable def v3 : Value := (.tuple #[(wP 449 0), (wI 0)])
noncomputable def o3 : Hs := ⟨(W k0 (W k8 (W (.row (W (wI 8) E E) 1 3 0 true true) (W k57 k149 k153) (M k155 k156)) (W (.row (W (wP 3 0) E E) 1 52 0 true false) (W (.row (W (wP 11 0) E E) 1 100 1 true false) k157 k158) (W k14 k161 k162))) (W k0 (W (.row (W (wL 2 0 512 512) E E) 1 48 0 true false) (M k164 k167) (W (.row (W (wP 8 0) E E) 1 100 1 true false) k169 k171)) (W k107 (W k108 k172 k176) (M k178 k179)))), 465, 0⟩
noncomputable def m3 : SmK := memoG a3 h3 v3 o3
theorem st3 : isOut v3 o3 (runK (tabF (tabOf Tryz.prog 1000000 entries) s2) 1000 9 a3 h3) = true := by kernel_rfl
theorem mem3 : SumOk Tryz.prog 9 m3 := memo_sum follows named (tabOf_ok entries_ok) s2_ok (by kernel_rfl) st3
noncomputable def c3 : SmK := m3
theorem c3_ok : SumOk Tryz.prog 9 c3 := mem3
noncomputable def s3 : List (Nat × SmK) := (9, c3) :: s2
theorem s3_ok : SumsOk Tryz.prog s3 := ⟨c3_ok, s2_ok⟩
end Go.Proofs.YtkopenelppndpaaGreatDoor.wardKnown

/- Stages of 'WardKnown': calls that are run by the kernel, and their summaries. Written by a program. -/
import Derived.Test.YtkopenelppndpaaGreatDoorWardKnownTab
import Derived.Test.YtkopenelppndpaaGreatDoorBaseLinks
import Derived.Test.YtkopenelppndpaaGreatDoorWardKnownSm0
namespace Go.Proofs.YtkopenelppndpaaGreatDoor.wardKnown
open Go Go.Gev Go.Proofs.YtkopenelppndpaaGreatDoor.base
noncomputable def a4 : List Value := [(wL 482 0 512 512)]
noncomputable def h4 : Hs := ⟨(W k0 (W k8 (W (.row (W (wI 8) E E) 1 3 0 true true) (W k57 k180 k181) (M k182 k184)) (W (.row (W (wP 3 0) E E) 1 52 0 true false) (W (.row (W (wP 11 0) E E) 1 100 1 true false) k185 k186) (W k14 k188 k189))) (W k0 (W (.row (W (wL 2 0 512 512) E E) 1 48 0 true false) (M k190 k191) (W (.row (W (wP 8 0) E E) 1 100 1 true false) k192 k194)) (W k107 (W k108 k195 k197) (M k198 k199)))), 483, 482⟩
noncomputable def v4 : Value := (.slice none 0 0)
noncomputable def o4 : Hs := ⟨(W k0 (W k8 (W (.row (W (wI 8) E E) 1 3 0 true true) (W k57 k180 k181) (M k182 k184)) (W (.row (W (wP 3 0) E E) 1 52 0 true false) (W (.row (W (wP 11 0) E E) 1 100 1 true false) k185 k186) (W k14 k188 k189))) (W k0 (W (.row (W (wL 2 0 512 512) E E) 1 48 0 true false) (M k190 k191) (W (.row (W (wP 8 0) E E) 1 100 1 true false) k192 k194)) (W k107 (W k108 k195 k197) (M k198 k199)))), 483, 482⟩
noncomputable def m4 : SmK := memoG a4 h4 v4 o4
theorem st4 : isOut v4 o4 (runK (tabF (tabOf Tryz.prog 1000000 entries) s3) 1000 29 a4 h4) = true := by kernel_rfl
theorem mem4 : SumOk Tryz.prog 29 m4 := memo_sum follows named (tabOf_ok entries_ok) s3_ok (by kernel_rfl) st4
noncomputable def c4 : SmK := m4
theorem c4_ok : SumOk Tryz.prog 29 c4 := mem4
noncomputable def s4 : List (Nat × SmK) := (29, c4) :: s3
theorem s4_ok : SumsOk Tryz.prog s4 := ⟨c4_ok, s3_ok⟩
noncomputable def a5 : List Value := []
noncomputable def h5 : Hs := ⟨E, 0, 0⟩
noncomputable def v5 : Value := wT
noncomputable def o5 : Hs := ⟨E, 0, 0⟩
noncomputable def m5 : SmK := memoG a5 h5 v5 o5
theorem st5 : isOut v5 o5 (runK (tabF (tabOf Tryz.prog 1000000 entries) s4) 1000 4 a5 h5) = true := by kernel_rfl
theorem mem5 : SumOk Tryz.prog 4 m5 := memo_sum follows named (tabOf_ok entries_ok) s4_ok (by kernel_rfl) st5
noncomputable def c5 : SmK := m5
theorem c5_ok : SumOk Tryz.prog 4 c5 := mem5
noncomputable def s5 : List (Nat × SmK) := (4, c5) :: s4
theorem s5_ok : SumsOk Tryz.prog s5 := ⟨c5_ok, s4_ok⟩
noncomputable def a6 : List Value := [(wP 3 0)]
noncomputable def h6 : Hs := ⟨(W k0 (W k8 (W (.row (W (wI 8) E E) 1 3 0 true true) k10 k12) (W (.row (W (wP 3 0) E E) 1 52 0 true false) k13 k16)) (W k0 (W (.row (W (wL 2 0 512 512) E E) 1 48 0 true false) k18 k19) (W k20 k21 k25))), 201, 201⟩
noncomputable def v6 : Value := (.tuple #[(wP 212 0), (wI 0)])
noncomputable def o6 : Hs := ⟨(W k0 (W k8 (W (.row (W (wI 8) E E) 1 3 0 true true) k27 k29) (W (.row (W (wP 3 0) E E) 1 52 0 true false) k32 k33)) (W k0 (W (.row (W (wL 2 0 512 512) E E) 1 48 0 true false) k34 k36) (W k20 k38 k39))), 213, 201⟩
noncomputable def m6 : SmK := memoG a6 h6 v6 o6
theorem st6 : isOut v6 o6 (runK (tabF (tabOf Tryz.prog 1000000 entries) s5) 1000 37 a6 h6) = true := by kernel_rfl
theorem mem6 : SumOk Tryz.prog 37 m6 := memo_sum follows named (tabOf_ok entries_ok) s5_ok (by kernel_rfl) st6
noncomputable def c6 : SmK := (orG m6 c2)
theorem c6_ok : SumOk Tryz.prog 37 c6 := (mem6.or c2_ok)
noncomputable def s6 : List (Nat × SmK) := (37, c6) :: s5
theorem s6_ok : SumsOk Tryz.prog s6 := ⟨c6_ok, s5_ok⟩
noncomputable def a7 : List Value := [(wL 220 0 512 512), (wI 0), (.agg #[(wI 2), (wS [47, 102]), (wS []), (wI 0), (wI 0), (.slice none 0 0)])]
noncomputable def h7 : Hs := ⟨(W k0 (W k8 (W (.row (W (wI 8) E E) 1 3 0 true true) k201 k203) (W (.row (W (wP 3 0) E E) 1 52 0 true false) k44 k204)) (W k0 (W (.row (W (wL 2 0 512 512) E E) 1 48 0 true false) k205 k49) (W k20 k51 k52))), 221, 218⟩
noncomputable def v7 : Value := (.agg #[(wI 0), (wI 3), (wI 0), (wI 0), (wI 0), (.slice none 0 0), (.slice none 0 0), (wL 221 0 8 8), (wL 222 0 6 6)])
noncomputable def o7 : Hs := ⟨(W k0 (W k8 (W (.row (W (wI 8) E E) 1 3 0 true true) k207 k203) (W (.row (W (wP 3 0) E E) 1 52 0 true false) k44 k204)) (W k0 (W (.row (W (wL 2 0 512 512) E E) 1 48 0 true false) k209 k49) (W k20 k51 k52))), 223, 218⟩
noncomputable def m7 : SmK := memoG a7 h7 v7 o7
theorem st7 : isOut v7 o7 (runK (tabF (tabOf Tryz.prog 1000000 entries) s6) 1000 149 a7 h7) = true := by kernel_rfl
theorem mem7 : SumOk Tryz.prog 149 m7 := memo_sum follows named (tabOf_ok entries_ok) s6_ok (by kernel_rfl) st7
noncomputable def c7 : SmK := (orG m7 c1)
theorem c7_ok : SumOk Tryz.prog 149 c7 := (mem7.or c1_ok)
noncomputable def s7 : List (Nat × SmK) := (149, c7) :: s6
theorem s7_ok : SumsOk Tryz.prog s7 := ⟨c7_ok, s6_ok⟩
end Go.Proofs.YtkopenelppndpaaGreatDoor.wardKnown

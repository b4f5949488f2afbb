/- Stages of 'WardKnown': calls that are run by the kernel, and their summaries. Written by a program. -/
import Derived.Test.YtkopenelppndpaaGreatDoorWardKnownTab
import Derived.Test.YtkopenelppndpaaGreatDoorBaseLinks
import Derived.Test.YtkopenelppndpaaGreatDoorWardKnownSm3
namespace Go.Proofs.YtkopenelppndpaaGreatDoor.wardKnown
open Go Go.Gev Go.Proofs.YtkopenelppndpaaGreatDoor.base
noncomputable def a16 : List Value := [(wP 3 0)]
noncomputable def h16 : Hs := ⟨(W k0 k373 (W k0 k393 (W k394 (W k108 k396 k398) k405))), 598, 598⟩
noncomputable def v16 : Value := (.tuple #[(wP 609 0), (wI 0)])
noncomputable def o16 : Hs := ⟨(W k0 (W k8 k409 k414) (W k0 k418 (W k394 (W k108 k419 k398) k421))), 610, 598⟩
noncomputable def m16 : SmK := memoG a16 h16 v16 o16
theorem st16 : isOut v16 o16 (runK (tabF (tabOf Tryz.prog 1000000 entries) s15) 1000 37 a16 h16) = true := by kernel_rfl
theorem mem16 : SumOk Tryz.prog 37 m16 := memo_sum follows named (tabOf_ok entries_ok) s15_ok (by kernel_rfl) st16
noncomputable def c16 : SmK := (orG m16 c10)
theorem c16_ok : SumOk Tryz.prog 37 c16 := (mem16.or c10_ok)
noncomputable def s16 : List (Nat × SmK) := (37, c16) :: s15
theorem s16_ok : SumsOk Tryz.prog s16 := ⟨c16_ok, s15_ok⟩
noncomputable def a17 : List Value := [(wP 609 0), (wI 0), (.agg #[(wI 13), (wS [47]), (wS []), (wI 0), (wI 0), (.slice none 0 0)])]
noncomputable def h17 : Hs := ⟨(W k0 (W k8 k424 k429) (W k0 k432 (W k394 (W k108 k419 k433) k421))), 615, 613⟩
noncomputable def v17 : Value := (.tuple #[(.agg #[(wI 0), (wI 1), (wI 0), (wI 0), (wI 0), (.slice none 0 0), (wL 615 0 2 2), (.slice none 0 0), (.slice none 0 0)]), (wI 0)])
noncomputable def o17 : Hs := ⟨(W k0 (W k8 k424 k429) (W k0 k432 (W k394 (W k108 k419 k433) k436))), 616, 613⟩
noncomputable def m17 : SmK := memoG a17 h17 v17 o17
theorem st17 : isOut v17 o17 (runK (tabF (tabOf Tryz.prog 1000000 entries) s16) 1000 93 a17 h17) = true := by kernel_rfl
theorem mem17 : SumOk Tryz.prog 93 m17 := memo_sum follows named (tabOf_ok entries_ok) s16_ok (by kernel_rfl) st17
noncomputable def c17 : SmK := m17
theorem c17_ok : SumOk Tryz.prog 93 c17 := mem17
noncomputable def s17 : List (Nat × SmK) := (93, c17) :: s16
theorem s17_ok : SumsOk Tryz.prog s17 := ⟨c17_ok, s16_ok⟩
noncomputable def a18 : List Value := [(wL 622 0 512 512), (wI 0), (.agg #[(wI 1), (wS [47, 100]), (wS []), (wI 0), (wI 0), (.slice none 0 0)])]
noncomputable def h18 : Hs := ⟨(W k0 (W k8 k442 k449) (W k0 k454 (W k455 (W k108 k456 k457) k459))), 623, 620⟩
noncomputable def v18 : Value := (.agg #[(wI 0), (wI 4), (wI 0), (wI 0), (wI 0), (.slice none 0 0), (.slice none 0 0), (wL 623 0 8 8), (wL 624 0 6 6)])
noncomputable def o18 : Hs := ⟨(W k0 (W k8 k442 k461) (W k0 k454 (W k455 (W k108 k456 k457) k463))), 625, 620⟩
noncomputable def m18 : SmK := memoG a18 h18 v18 o18
theorem st18 : isOut v18 o18 (runK (tabF (tabOf Tryz.prog 1000000 entries) s17) 1000 149 a18 h18) = true := by kernel_rfl
theorem mem18 : SumOk Tryz.prog 149 m18 := memo_sum follows named (tabOf_ok entries_ok) s17_ok (by kernel_rfl) st18
noncomputable def c18 : SmK := (orG m18 c7)
theorem c18_ok : SumOk Tryz.prog 149 c18 := (mem18.or c7_ok)
noncomputable def s18 : List (Nat × SmK) := (149, c18) :: s17
theorem s18_ok : SumsOk Tryz.prog s18 := ⟨c18_ok, s17_ok⟩
end Go.Proofs.YtkopenelppndpaaGreatDoor.wardKnown

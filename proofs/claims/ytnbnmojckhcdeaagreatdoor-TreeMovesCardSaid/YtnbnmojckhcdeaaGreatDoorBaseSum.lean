import Derived.Test.YtnbnmojckhcdeaaGreatDoorBaseShelf
import Derived.Test.YtnbnmojckhcdeaaGreatDoorGevSo
import Derived.KernelRfl
namespace Go.Proofs.YtnbnmojckhcdeaaGreatDoor.base
open Go Go.Gev Go.RowKit Go.Maps Go.Sort Go.Shelf
theorem follows:Tryz.prog.follows .mixedOrders=true:=by kernel_rfl
theorem names:(Tryz.prog.funcs.toList.all λfn=>!fn.body.isSome || !(fn.name == "runtime.NumGoroutine"))=true:=by decide +kernel
theorem named:Named Tryz.prog:=λf fn hf hb=>by
 have hm:fn∈Tryz.prog.funcs.toList:=by
  obtain⟨h1,h2⟩:=gaI.1 hf
  rw[←h2];simp
 have h:=List.all_eq_true.1 names fn hm
 rw[hb] at h
 simpa using h
theorem AQ2(m:Nat):AnyZI.SortsIn Tryz.prog c_6 Fence.wide m:=
 ⟨λblk off cap ss W hH hblk hsz=>callsIn_wide.2 (AnyM.slices_Sort_int Bp2 blk off cap ss W hH hblk hsz),
  λp cap W=>callsIn_wide.2 (AnyM.slices_Sort_int_none Bp2 p cap W)⟩
theorem Av1(m:Nat):AnyZ.SortsIn Tryz.prog W_z Fence.wide m:=
 ⟨λblk off cap ss W hH hblk hsz=>callsIn_wide.2 (AnyM.slices_Sort_string Bp3 blk off cap ss W hH hblk hsz),
  λp cap W=>callsIn_wide.2 (AnyM.slices_Sort_string_none Bp3 p cap W)⟩
theorem AX5:(λx y:Int=>decide (x≤y))=Go.Gev.leI:=by funext x y;rw[N_v]
theorem AX6:(λx y:List UInt8=>decide (x≤y))=E_0:=by funext x y;rw[K_6]
set_option maxHeartbeats 1000000 in
theorem Au9:SortedC Tryz.prog 28 50 3 3 encZ Go.Gev.leI intKeys:=by
 rw[←AX5]
 refine⟨λW Bm b nn D0 R hc hB hown hs=>?_,λW Bm hc hB=>?_⟩
 ·have hseq:SeqGives Fence.wide 2 Tryz.prog 50 #[.pointer (some ⟨Bm,0,none⟩)] encZ (λss=>ss.Perm (intKeys D0)) (Maps.size D0) W:=
   AnyZI.keys_gives (ρ:=b_f) { Bk7 with } Fence.wide _ trivial rfl (by omega) Bm b nn D0 W hB hc hown
  have cS:=AnyZI.sorted_in Au8 Fence.wide 5 trivial trivial trivial trivial rfl (by omega) (AQ2 _) (enters_of Tryz.func49 (by kernel_rfl) rfl) 50 #[.pointer (some ⟨Bm,0,none⟩)] trivial (enters_of Tryz.func50 (by kernel_rfl) rfl) _ _ (by unfold maxLen;omega) (by omega) _ hseq
  exact callsIn_wide.1 cS
 ·have hseq:SeqGives Fence.wide 2 Tryz.prog 50 #[.pointer (some ⟨Bm,0,none⟩)] encZ (λss:List Int=>ss = []) 0 W:=
   AnyZI.keys_gives_nil (ρ:=b_f) { Bk7 with } Fence.wide _ trivial rfl Bm W hB hc
  have cS:=AnyZI.sorted_in Au8 Fence.wide 5 trivial trivial trivial trivial rfl (by omega) (AQ2 _) (enters_of Tryz.func49 (by kernel_rfl) rfl) 50 #[.pointer (some ⟨Bm,0,none⟩)] trivial (enters_of Tryz.func50 (by kernel_rfl) rfl) _ _ (by unfold maxLen;omega) (by omega) _ hseq
  exact callsIn_wide.1 cS
set_option maxHeartbeats 1000000 in
theorem Av0:SortedC Tryz.prog 30 53 9 9 encStr E_0 strKeys:=by
 rw[←AX6]
 refine⟨λW Bm b nn D0 R hc hB hown hs=>?_,λW Bm hc hB=>?_⟩
 ·have hseq:SeqGives Fence.wide 2 Tryz.prog 53 #[.pointer (some ⟨Bm,0,none⟩)] encStr (λss=>ss.Perm (strKeys D0)) (Maps.size D0) W:=
   AnyZ.keys_gives (ρ:=R_9) { Aj5 with } Fence.wide _ trivial rfl (by omega) Bm b nn D0 W hB hc hown
  have cS:=AnyZ.sorted_in q_8 Fence.wide 5 trivial trivial trivial trivial rfl (by omega) (Av1 _) (enters_of Tryz.func52 (by kernel_rfl) rfl) 53 #[.pointer (some ⟨Bm,0,none⟩)] trivial (enters_of Tryz.func53 (by kernel_rfl) rfl) _ _ (by unfold maxLen;omega) (by omega) _ hseq
  exact callsIn_wide.1 cS
 ·have hseq:SeqGives Fence.wide 2 Tryz.prog 53 #[.pointer (some ⟨Bm,0,none⟩)] encStr (λss:List (List UInt8)=>ss = []) 0 W:=
   AnyZ.keys_gives_nil (ρ:=R_9) { Aj5 with } Fence.wide _ trivial rfl Bm W hB hc
  have cS:=AnyZ.sorted_in q_8 Fence.wide 5 trivial trivial trivial trivial rfl (by omega) (Av1 _) (enters_of Tryz.func52 (by kernel_rfl) rfl) 53 #[.pointer (some ⟨Bm,0,none⟩)] trivial (enters_of Tryz.func53 (by kernel_rfl) rfl) _ _ (by unfold maxLen;omega) (by omega) _ hseq
  exact callsIn_wide.1 cS
noncomputable def sums:List (Nat × SmK):=[(28,U_z keyI eqI encZ Go.Gev.leI 50 3),(30,U_z keyS K_p encStr E_0 53 9)]
theorem Bc8:SumsOk Tryz.prog sums:=
 ⟨g_h (by kernel_rfl) (Bk6 Tryz.underlying3) Au9,g_h (by kernel_rfl) (AO0 Tryz.underlying9) Av0,trivial⟩
end Go.Proofs.YtnbnmojckhcdeaaGreatDoor.base

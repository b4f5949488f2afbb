import Derived.Test.YtnbnmojckhcdeaaGreatDoorBaseShelf
import Derived.Test.YtnbnmojckhcdeaaGreatDoorGevSo
import Derived.KernelRfl
namespace Go.Proofs.YtnbnmojckhcdeaaGreatDoor.base
open Go Go.Gev Go.RowKit Go.Maps Go.Sort Go.Shelf
theorem follows:Tryz.prog.follows .mixedOrders=true:=by kernel_rfl
theorem names:(Tryz.prog.funcs.toList.all λfn=>!fn.body.isSome || !(fn.name == "runtime.NumGoroutine"))=true:=by decide +kernel
theorem named:Named Tryz.prog:=λf fn hf hb=>by
 have hm:fn∈Tryz.prog.funcs.toList:=by
  obtain⟨h1,h2⟩:=Array.getElem?_eq_some_iff.1 hf
  rw[←h2];simp
 have h:=List.all_eq_true.1 names fn hm
 rw[hb] at h
 simpa using h
theorem w_h(m:Nat):AnyZI.SortsIn Tryz.prog S_n Fence.wide m:=
 ⟨λblk off cap ss W hH hblk hsz=>callsIn_wide.2 (AnyM.slices_Sort_int Ak3 blk off cap ss W hH hblk hsz),
  λp cap W=>callsIn_wide.2 (AnyM.slices_Sort_int_none Ak3 p cap W)⟩
theorem q_i(m:Nat):AnyZ.SortsIn Tryz.prog N_3 Fence.wide m:=
 ⟨λblk off cap ss W hH hblk hsz=>callsIn_wide.2 (AnyM.slices_Sort_string Ak4 blk off cap ss W hH hblk hsz),
  λp cap W=>callsIn_wide.2 (AnyM.slices_Sort_string_none Ak4 p cap W)⟩
theorem y_h:(λx y:Int=>decide (x≤y))=Go.Gev.leI:=by funext x y;rw[H_f]
theorem y_i:(λx y:List UInt8=>decide (x≤y))=B_0:=by funext x y;rw[F_r]
set_option maxHeartbeats 1000000 in
theorem q_f:SortedC Tryz.prog 28 50 3 3 encZ Go.Gev.leI intKeys:=by
 rw[←y_h]
 refine⟨λW Bm b nn D0 R hc hB hown hs=>?_,λW Bm hc hB=>?_⟩
 ·have hseq:SeqGives Fence.wide 2 Tryz.prog 50 #[.pointer (some ⟨Bm,0,none⟩)] encZ (λss=>ss.Perm (intKeys D0)) (Maps.size D0) W:=
   AnyZI.keys_gives (ρ:=R_o) { Ag3 with } Fence.wide _ trivial rfl (by omega) Bm b nn D0 W hB hc hown
  have cS:=AnyZI.sorted_in q_e Fence.wide 5 trivial trivial trivial trivial rfl (by omega) (w_h _) (enters_of Tryz.func49 (by kernel_rfl) rfl) 50 #[.pointer (some ⟨Bm,0,none⟩)] trivial (enters_of Tryz.func50 (by kernel_rfl) rfl) _ _ (by unfold maxLen;omega) (by omega) _ hseq
  exact callsIn_wide.1 cS
 ·have hseq:SeqGives Fence.wide 2 Tryz.prog 50 #[.pointer (some ⟨Bm,0,none⟩)] encZ (λss:List Int=>ss = []) 0 W:=
   AnyZI.keys_gives_nil (ρ:=R_o) { Ag3 with } Fence.wide _ trivial rfl Bm W hB hc
  have cS:=AnyZI.sorted_in q_e Fence.wide 5 trivial trivial trivial trivial rfl (by omega) (w_h _) (enters_of Tryz.func49 (by kernel_rfl) rfl) 50 #[.pointer (some ⟨Bm,0,none⟩)] trivial (enters_of Tryz.func50 (by kernel_rfl) rfl) _ _ (by unfold maxLen;omega) (by omega) _ hseq
  exact callsIn_wide.1 cS
set_option maxHeartbeats 1000000 in
theorem q_h:SortedC Tryz.prog 30 53 9 9 encStr B_0 strKeys:=by
 rw[←y_i]
 refine⟨λW Bm b nn D0 R hc hB hown hs=>?_,λW Bm hc hB=>?_⟩
 ·have hseq:SeqGives Fence.wide 2 Tryz.prog 53 #[.pointer (some ⟨Bm,0,none⟩)] encStr (λss=>ss.Perm (strKeys D0)) (Maps.size D0) W:=
   AnyZ.keys_gives (ρ:=K_m) { m_5 with } Fence.wide _ trivial rfl (by omega) Bm b nn D0 W hB hc hown
  have cS:=AnyZ.sorted_in b_f Fence.wide 5 trivial trivial trivial trivial rfl (by omega) (q_i _) (enters_of Tryz.func52 (by kernel_rfl) rfl) 53 #[.pointer (some ⟨Bm,0,none⟩)] trivial (enters_of Tryz.func53 (by kernel_rfl) rfl) _ _ (by unfold maxLen;omega) (by omega) _ hseq
  exact callsIn_wide.1 cS
 ·have hseq:SeqGives Fence.wide 2 Tryz.prog 53 #[.pointer (some ⟨Bm,0,none⟩)] encStr (λss:List (List UInt8)=>ss = []) 0 W:=
   AnyZ.keys_gives_nil (ρ:=K_m) { m_5 with } Fence.wide _ trivial rfl Bm W hB hc
  have cS:=AnyZ.sorted_in b_f Fence.wide 5 trivial trivial trivial trivial rfl (by omega) (q_i _) (enters_of Tryz.func52 (by kernel_rfl) rfl) 53 #[.pointer (some ⟨Bm,0,none⟩)] trivial (enters_of Tryz.func53 (by kernel_rfl) rfl) _ _ (by unfold maxLen;omega) (by omega) _ hseq
  exact callsIn_wide.1 cS
noncomputable def sums:List (Nat × SmK):=[(28,M_c keyI eqI encZ Go.Gev.leI 50 3),(30,M_c keyS F_d encStr B_0 53 9)]
theorem z_x:SumsOk Tryz.prog sums:=
 ⟨U_v (by kernel_rfl) (Ag2 Tryz.underlying3) q_f,U_v (by kernel_rfl) (v_t Tryz.underlying9) q_h,trivial⟩
end Go.Proofs.YtnbnmojckhcdeaaGreatDoor.base

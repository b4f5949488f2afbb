import Derived.Test.YtnbnmojckhcdeaaGreatDoorBaseShelf
import Derived.Test.YtnbnmojckhcdeaaGreatDoorGevSo
import Derived.KernelRfl
namespace Go.Proofs.YtnbnmojckhcdeaaGreatDoor.base
open Go Go.Gev Go.RowKit Go.Maps Go.Sort Go.Shelf
theorem follows:Tryz.prog.follows .mixedOrders=true:=by kernel_rfl
theorem names:(Tryz.prog.funcs.toList.all λfn=>!fn.body.isSome || !(fn.name == "runtime.NumGoroutine"))=true:=by decide +kernel
theorem named:Named Tryz.prog:=λf fn hf hb=>by
 have hm:fn∈Tryz.prog.funcs.toList:=by
  obtain⟨h1,h2⟩:=Array.getElem?_eq_some_iff.1 hf
  rw[←h2];simp
 have h:=List.all_eq_true.1 names fn hm
 rw[hb] at h
 simpa using h
theorem g_t(m:Nat):AnyZI.SortsIn Tryz.prog K_4 Fence.wide m:=
 ⟨λblk off cap ss W hH hblk hsz=>callsIn_wide.2 (AnyM.slices_Sort_int n_v blk off cap ss W hH hblk hsz),
  λp cap W=>callsIn_wide.2 (AnyM.slices_Sort_int_none n_v p cap W)⟩
theorem b_a(m:Nat):AnyZ.SortsIn Tryz.prog H_o Fence.wide m:=
 ⟨λblk off cap ss W hH hblk hsz=>callsIn_wide.2 (AnyM.slices_Sort_string n_w blk off cap ss W hH hblk hsz),
  λp cap W=>callsIn_wide.2 (AnyM.slices_Sort_string_none n_w p cap W)⟩
theorem i_3:(λx y:Int=>decide (x≤y))=Go.Gev.leI:=by funext x y;rw[D_e]
theorem i_4:(λx y:List UInt8=>decide (x≤y))=A_o:=by funext x y;rw[C_d]
set_option maxHeartbeats 1000000 in
theorem a_8:SortedC Tryz.prog 28 50 3 3 encZ Go.Gev.leI intKeys:=by
 rw[←i_3]
 refine⟨λW Bm b nn D0 R hc hB hown hs=>?_,λW Bm hc hB=>?_⟩
 ·have hseq:SeqGives Fence.wide 2 Tryz.prog 50 #[.pointer (some ⟨Bm,0,none⟩)] encZ (λss=>ss.Perm (intKeys D0)) (Maps.size D0) W:=
   AnyZI.keys_gives (ρ:=K_k) { m_p with } Fence.wide _ trivial rfl (by omega) Bm b nn D0 W hB hc hown
  have cS:=AnyZI.sorted_in a_7 Fence.wide 5 trivial trivial trivial trivial rfl (by omega) (g_t _) (enters_of Tryz.func49 (by kernel_rfl) rfl) 50 #[.pointer (some ⟨Bm,0,none⟩)] trivial (enters_of Tryz.func50 (by kernel_rfl) rfl) _ _ (by unfold maxLen;omega) (by omega) _ hseq
  exact callsIn_wide.1 cS
 ·have hseq:SeqGives Fence.wide 2 Tryz.prog 50 #[.pointer (some ⟨Bm,0,none⟩)] encZ (λss:List Int=>ss = []) 0 W:=
   AnyZI.keys_gives_nil (ρ:=K_k) { m_p with } Fence.wide _ trivial rfl Bm W hB hc
  have cS:=AnyZI.sorted_in a_7 Fence.wide 5 trivial trivial trivial trivial rfl (by omega) (g_t _) (enters_of Tryz.func49 (by kernel_rfl) rfl) 50 #[.pointer (some ⟨Bm,0,none⟩)] trivial (enters_of Tryz.func50 (by kernel_rfl) rfl) _ _ (by unfold maxLen;omega) (by omega) _ hseq
  exact callsIn_wide.1 cS
set_option maxHeartbeats 1000000 in
theorem a_9:SortedC Tryz.prog 30 53 9 9 encStr A_o strKeys:=by
 rw[←i_4]
 refine⟨λW Bm b nn D0 R hc hB hown hs=>?_,λW Bm hc hB=>?_⟩
 ·have hseq:SeqGives Fence.wide 2 Tryz.prog 53 #[.pointer (some ⟨Bm,0,none⟩)] encStr (λss=>ss.Perm (strKeys D0)) (Maps.size D0) W:=
   AnyZ.keys_gives (ρ:=F_c) { Y_w with } Fence.wide _ trivial rfl (by omega) Bm b nn D0 W hB hc hown
  have cS:=AnyZ.sorted_in R_s Fence.wide 5 trivial trivial trivial trivial rfl (by omega) (b_a _) (enters_of Tryz.func52 (by kernel_rfl) rfl) 53 #[.pointer (some ⟨Bm,0,none⟩)] trivial (enters_of Tryz.func53 (by kernel_rfl) rfl) _ _ (by unfold maxLen;omega) (by omega) _ hseq
  exact callsIn_wide.1 cS
 ·have hseq:SeqGives Fence.wide 2 Tryz.prog 53 #[.pointer (some ⟨Bm,0,none⟩)] encStr (λss:List (List UInt8)=>ss = []) 0 W:=
   AnyZ.keys_gives_nil (ρ:=F_c) { Y_w with } Fence.wide _ trivial rfl Bm W hB hc
  have cS:=AnyZ.sorted_in R_s Fence.wide 5 trivial trivial trivial trivial rfl (by omega) (b_a _) (enters_of Tryz.func52 (by kernel_rfl) rfl) 53 #[.pointer (some ⟨Bm,0,none⟩)] trivial (enters_of Tryz.func53 (by kernel_rfl) rfl) _ _ (by unfold maxLen;omega) (by omega) _ hseq
  exact callsIn_wide.1 cS
noncomputable def sums:List (Nat × SmK):=[(28,G_i keyI eqI encZ Go.Gev.leI 50 3),(30,G_i keyS B_4 encStr A_o 53 9)]
theorem k_k:SumsOk Tryz.prog sums:=
 ⟨M_f (by kernel_rfl) (m_o Tryz.underlying3) a_8,M_f (by kernel_rfl) (f_8 Tryz.underlying9) a_9,trivial⟩
end Go.Proofs.YtnbnmojckhcdeaaGreatDoor.base

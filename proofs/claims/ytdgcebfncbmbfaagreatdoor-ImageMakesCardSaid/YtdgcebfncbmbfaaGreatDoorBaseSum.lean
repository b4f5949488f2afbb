/- The functions over maps of which the run takes summaries: slices.Sorted over maps.Keys; the walk over a tree's nodes. -/
import Derived.Test.YtdgcebfncbmbfaaGreatDoorBaseShelf
import Derived.Test.YtdgcebfncbmbfaaGreatDoorGevWh
import Derived.KernelRfl
namespace Go.Proofs.YtdgcebfncbmbfaaGreatDoor.base
open Go Go.Gev Go.RowKit Go.Maps Go.Sort Go.Shelf
theorem follows : Tryz.prog.follows .mixedOrders = true := by kernel_rfl
theorem names : (Tryz.prog.funcs.toList.all fun fn => !fn.body.isSome || !(fn.name == "runtime.NumGoroutine")) = true := by decide +kernel
theorem named : Named Tryz.prog := fun f fn hf hb => by
 have hm : fn ∈ Tryz.prog.funcs.toList := by
  obtain ⟨h1, h2⟩ := Array.getElem?_eq_some_iff.1 hf
  rw [← h2]; simp
 have h := List.all_eq_true.1 names fn hm
 rw [hb] at h
 simpa using h
theorem e_9 (m : Nat) : AnyZI.SortsIn Tryz.prog J_f Fence.wide m :=
 ⟨fun blk off cap ss W hH hblk hsz => callsIn_wide.2 (AnyM.slices_Sort_int l_y blk off cap ss W hH hblk hsz),
  fun p cap W => callsIn_wide.2 (AnyM.slices_Sort_int_none l_y p cap W)⟩
theorem f_t (m : Nat) : AnyZ.SortsIn Tryz.prog K_b Fence.wide m :=
 ⟨fun blk off cap ss W hH hblk hsz => callsIn_wide.2 (AnyM.slices_Sort_string k_6 blk off cap ss W hH hblk hsz),
  fun p cap W => callsIn_wide.2 (AnyM.slices_Sort_string_none k_6 p cap W)⟩
theorem i_p : (fun x y : Int => decide (x ≤ y)) = Go.Gev.leI := by funext x y; rw [D_5]
theorem i_q : (fun x y : List UInt8 => decide (x ≤ y)) = bytesLe := by funext x y; rw [bytesLe_eq]
set_option maxHeartbeats 1000000 in
theorem X_q : SortedC Tryz.prog 46 75 3 3 encZ Go.Gev.leI intKeys := by
 rw [← i_p]
 refine ⟨fun W Bm b nn D0 R hc hB hown hs => ?_, fun W Bm hc hB => ?_⟩
 ·have hseq : SeqGives Fence.wide 2 Tryz.prog 75 #[.pointer (some ⟨Bm, 0, none⟩)] encZ (fun ss => ss.Perm (intKeys D0)) (Maps.size D0) W :=
   AnyZI.keys_gives (ρ := J_p) { j_w with } Fence.wide _ trivial rfl (by omega) Bm b nn D0 W hB hc hown
  have cS := AnyZI.sorted_in X_v Fence.wide 5 trivial trivial trivial trivial rfl (by omega) (e_9 _) (enters_of Tryz.func74 (by kernel_rfl) rfl) 75 #[.pointer (some ⟨Bm, 0, none⟩)] trivial (enters_of Tryz.func75 (by kernel_rfl) rfl) _ _ (by unfold maxLen; omega) (by omega) _ hseq
  exact callsIn_wide.1 cS
 ·have hseq : SeqGives Fence.wide 2 Tryz.prog 75 #[.pointer (some ⟨Bm, 0, none⟩)] encZ (fun ss : List Int => ss = []) 0 W :=
   AnyZI.keys_gives_nil (ρ := J_p) { j_w with } Fence.wide _ trivial rfl Bm W hB hc
  have cS := AnyZI.sorted_in X_v Fence.wide 5 trivial trivial trivial trivial rfl (by omega) (e_9 _) (enters_of Tryz.func74 (by kernel_rfl) rfl) 75 #[.pointer (some ⟨Bm, 0, none⟩)] trivial (enters_of Tryz.func75 (by kernel_rfl) rfl) _ _ (by unfold maxLen; omega) (by omega) _ hseq
  exact callsIn_wide.1 cS
set_option maxHeartbeats 1000000 in
theorem W_t : SortedC Tryz.prog 49 78 9 9 encStr bytesLe strKeys := by
 rw [← i_q]
 refine ⟨fun W Bm b nn D0 R hc hB hown hs => ?_, fun W Bm hc hB => ?_⟩
 ·have hseq : SeqGives Fence.wide 2 Tryz.prog 78 #[.pointer (some ⟨Bm, 0, none⟩)] encStr (fun ss => ss.Perm (strKeys D0)) (Maps.size D0) W :=
   AnyZ.keys_gives (ρ := J_l) { j_v with } Fence.wide _ trivial rfl (by omega) Bm b nn D0 W hB hc hown
  have cS := AnyZ.sorted_in V_d Fence.wide 5 trivial trivial trivial trivial rfl (by omega) (f_t _) (enters_of Tryz.func77 (by kernel_rfl) rfl) 78 #[.pointer (some ⟨Bm, 0, none⟩)] trivial (enters_of Tryz.func78 (by kernel_rfl) rfl) _ _ (by unfold maxLen; omega) (by omega) _ hseq
  exact callsIn_wide.1 cS
 ·have hseq : SeqGives Fence.wide 2 Tryz.prog 78 #[.pointer (some ⟨Bm, 0, none⟩)] encStr (fun ss : List (List UInt8) => ss = []) 0 W :=
   AnyZ.keys_gives_nil (ρ := J_l) { j_v with } Fence.wide _ trivial rfl Bm W hB hc
  have cS := AnyZ.sorted_in V_d Fence.wide 5 trivial trivial trivial trivial rfl (by omega) (f_t _) (enters_of Tryz.func77 (by kernel_rfl) rfl) 78 #[.pointer (some ⟨Bm, 0, none⟩)] trivial (enters_of Tryz.func78 (by kernel_rfl) rfl) _ _ (by unfold maxLen; omega) (by omega) _ hseq
  exact callsIn_wide.1 cS
noncomputable def sums : List (Nat × SmK) := [(46, L_z keyI eqI encZ Go.Gev.leI 75 3), (49, L_z keyS bytesEq encStr bytesLe 78 9), (72, R_2)]
theorem Y_h : SumsOk Tryz.prog sums :=
 ⟨K_5 (by kernel_rfl) (k_d Tryz.underlying3) X_q, K_5 (by kernel_rfl) (l_i Tryz.underlying9) W_t,
  V_n follows named rfl (by kernel_rfl) (fun R N args h => by kernel_rfl), trivial⟩
end Go.Proofs.YtdgcebfncbmbfaaGreatDoor.base

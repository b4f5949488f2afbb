/- The functions over maps of which the run takes summaries: slices.Sorted over maps.Keys; the walk over a tree's nodes. -/
import Derived.Test.YtefdkblhnlkgaaaGreatDoorBaseShelf
import Derived.Test.YtefdkblhnlkgaaaGreatDoorGevSo
import Derived.KernelRfl
namespace Go.Proofs.YtefdkblhnlkgaaaGreatDoor.base
open Go Go.Gev Go.RowKit Go.Maps Go.Sort Go.Shelf

theorem follows : Tryz.prog.follows .mixedOrders = true := by kernel_rfl

theorem names : (Tryz.prog.funcs.toList.all fun fn => !fn.body.isSome || !(fn.name == "runtime.NumGoroutine")) = true := by decide +kernel

theorem named : Named Tryz.prog := fun f fn hf hb => by
  have hm : fn ∈ Tryz.prog.funcs.toList := by
    obtain ⟨h1, h2⟩ := Array.getElem?_eq_some_iff.1 hf
    rw [← h2]; simp
  have h := List.all_eq_true.1 names fn hm
  rw [hb] at h
  simpa using h

theorem sortsI (m : Nat) : AnyZI.SortsIn Tryz.prog sortedI_ren Fence.wide m :=
  ⟨fun blk off cap ss W hH hblk hsz => callsIn_wide.2 (AnyM.slices_Sort_int sortI blk off cap ss W hH hblk hsz),
   fun p cap W => callsIn_wide.2 (AnyM.slices_Sort_int_none sortI p cap W)⟩
theorem sortsS (m : Nat) : AnyZ.SortsIn Tryz.prog sortedS_ren Fence.wide m :=
  ⟨fun blk off cap ss W hH hblk hsz => callsIn_wide.2 (AnyM.slices_Sort_string sortS blk off cap ss W hH hblk hsz),
   fun p cap W => callsIn_wide.2 (AnyM.slices_Sort_string_none sortS p cap W)⟩
theorem leI_fun : (fun x y : Int => decide (x ≤ y)) = Go.Gev.leI := by funext x y; rw [leI_eq]
theorem leS_fun : (fun x y : List UInt8 => decide (x ≤ y)) = bytesLe := by funext x y; rw [bytesLe_eq]

set_option maxHeartbeats 1000000 in
theorem sortedI_C : SortedC Tryz.prog 24 45 3 3 encZ Go.Gev.leI intKeys := by
  rw [← leI_fun]
  refine ⟨fun W Bm b nn D0 R hc hB hown hs => ?_, fun W Bm hc hB => ?_⟩
  · have hseq : SeqGives Fence.wide 2 Tryz.prog 45 #[.pointer (some ⟨Bm, 0, none⟩)] encZ (fun ss => ss.Perm (intKeys D0)) (Maps.size D0) W :=
      AnyZI.keys_gives (ρ := keysI_ren) { keysI with } Fence.wide _ trivial rfl (by omega) Bm b nn D0 W hB hc hown
    have cS := AnyZI.sorted_in sortedI Fence.wide 5 trivial trivial trivial trivial rfl (by omega) (sortsI _) (enters_of Tryz.func44 (by kernel_rfl) rfl) 45 #[.pointer (some ⟨Bm, 0, none⟩)] trivial (enters_of Tryz.func45 (by kernel_rfl) rfl) _ _ (by unfold maxLen; omega) (by omega) _ hseq
    exact callsIn_wide.1 cS
  · have hseq : SeqGives Fence.wide 2 Tryz.prog 45 #[.pointer (some ⟨Bm, 0, none⟩)] encZ (fun ss : List Int => ss = []) 0 W :=
      AnyZI.keys_gives_nil (ρ := keysI_ren) { keysI with } Fence.wide _ trivial rfl Bm W hB hc
    have cS := AnyZI.sorted_in sortedI Fence.wide 5 trivial trivial trivial trivial rfl (by omega) (sortsI _) (enters_of Tryz.func44 (by kernel_rfl) rfl) 45 #[.pointer (some ⟨Bm, 0, none⟩)] trivial (enters_of Tryz.func45 (by kernel_rfl) rfl) _ _ (by unfold maxLen; omega) (by omega) _ hseq
    exact callsIn_wide.1 cS
set_option maxHeartbeats 1000000 in
theorem sortedS_C : SortedC Tryz.prog 26 48 9 9 encStr bytesLe strKeys := by
  rw [← leS_fun]
  refine ⟨fun W Bm b nn D0 R hc hB hown hs => ?_, fun W Bm hc hB => ?_⟩
  · have hseq : SeqGives Fence.wide 2 Tryz.prog 48 #[.pointer (some ⟨Bm, 0, none⟩)] encStr (fun ss => ss.Perm (strKeys D0)) (Maps.size D0) W :=
      AnyZ.keys_gives (ρ := keysS_ren) { keysS with } Fence.wide _ trivial rfl (by omega) Bm b nn D0 W hB hc hown
    have cS := AnyZ.sorted_in sortedS Fence.wide 5 trivial trivial trivial trivial rfl (by omega) (sortsS _) (enters_of Tryz.func47 (by kernel_rfl) rfl) 48 #[.pointer (some ⟨Bm, 0, none⟩)] trivial (enters_of Tryz.func48 (by kernel_rfl) rfl) _ _ (by unfold maxLen; omega) (by omega) _ hseq
    exact callsIn_wide.1 cS
  · have hseq : SeqGives Fence.wide 2 Tryz.prog 48 #[.pointer (some ⟨Bm, 0, none⟩)] encStr (fun ss : List (List UInt8) => ss = []) 0 W :=
      AnyZ.keys_gives_nil (ρ := keysS_ren) { keysS with } Fence.wide _ trivial rfl Bm W hB hc
    have cS := AnyZ.sorted_in sortedS Fence.wide 5 trivial trivial trivial trivial rfl (by omega) (sortsS _) (enters_of Tryz.func47 (by kernel_rfl) rfl) 48 #[.pointer (some ⟨Bm, 0, none⟩)] trivial (enters_of Tryz.func48 (by kernel_rfl) rfl) _ _ (by unfold maxLen; omega) (by omega) _ hseq
    exact callsIn_wide.1 cS

noncomputable def sums : List (Nat × SmK) := [(24, sortedG keyI eqI encZ Go.Gev.leI 45 3), (26, sortedG keyS bytesEq encStr bytesLe 48 9)]
theorem sums_ok : SumsOk Tryz.prog sums :=
  ⟨sorted_sum (by kernel_rfl) (keyI_K Tryz.underlying3) sortedI_C, sorted_sum (by kernel_rfl) (keyS_K Tryz.underlying9) sortedS_C, trivial⟩
end Go.Proofs.YtefdkblhnlkgaaaGreatDoor.base

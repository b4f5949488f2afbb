/- What is asked of the program for its runs; no summaries. -/
import Derived.Test.YtedgkbmfdniibaaGreatDoorGevMm
import Derived.Test.YtedgkbmfdniibaaGreatDoorProg
import Derived.KernelRfl
namespace Go.Proofs.YtedgkbmfdniibaaGreatDoor.base
open Go Go.Gev

theorem follows : Tryz.prog.follows .mixedOrders = true := by kernel_rfl

theorem names : (Tryz.prog.funcs.toList.all fun fn => !fn.body.isSome || !(fn.name == "runtime.NumGoroutine")) = true := by decide +kernel

theorem named : Named Tryz.prog := fun f fn hf hb => by
  have hm : fn ∈ Tryz.prog.funcs.toList := by
    obtain ⟨h1, h2⟩ := Array.getElem?_eq_some_iff.1 hf
    rw [← h2]; simp
  have h := List.all_eq_true.1 names fn hm
  rw [hb] at h
  simpa using h
noncomputable def sums : List (Nat × SmK) := []
theorem sums_ok : SumsOk Tryz.prog sums := trivial
end Go.Proofs.YtedgkbmfdniibaaGreatDoor.base

/- The fast evaluator's run of 'CheckShow' answers true, by the kernel; with it the model's call, in whatever world. -/
import Derived.Test.YtbecnapcgehliaaGreatDoorCheckShowTab
namespace Go.Proofs.YtbecnapcgehliaaGreatDoor.checkShow
open Go.Gev Go.RowKit

def saysTrue : Option Out → Bool
  | some (.val (.bool b) _) => b
  | _ => false

theorem follows : Tryz.prog.follows .mixedOrders = true := by kernel_rfl

theorem names : (Tryz.prog.funcs.toList.all fun fn => !fn.body.isSome || !(fn.name == "runtime.NumGoroutine")) = true := by decide +kernel

theorem named : Named Tryz.prog := fun f fn hf hb => by
  have hm : fn ∈ Tryz.prog.funcs.toList := by
    obtain ⟨h1, h2⟩ := Array.getElem?_eq_some_iff.1 hf
    rw [← h2]; simp
  have h := List.all_eq_true.1 names fn hm
  rw [hb] at h
  simpa using h

theorem ran : saysTrue (runK (tabOf Tryz.prog 1000000 entries) 1000 4 [] ⟨.e, 0, 0⟩) = true := by kernel_rfl

theorem called (w : World) : Calls Tryz.prog 4 #[] w fun e w' => e = .returned (.bool true) ∧ Below w.heap.size w w' := by
  have h := ran
  cases hr : runK (tabOf Tryz.prog 1000000 entries) 1000 4 [] ⟨.e, 0, 0⟩ with
  | none => rw [hr] at h; cases h
  | some o =>
    rw [hr] at h
    cases o with
    | fin e fr h2 => cases h
    | val v h2 =>
      cases v with
      | bool b =>
        have hb : b = true := h
        subst hb
        refine (runK_calls follows named (tabOf_ok entries_ok) hr w).mono fun e w' hh => ?_
        obtain ⟨v', ρ', h1, h2, h3⟩ := hh
        exact ⟨by rw [h1, h2.bool_inv], h3⟩
      | _ => cases h
end Go.Proofs.YtbecnapcgehliaaGreatDoor.checkShow

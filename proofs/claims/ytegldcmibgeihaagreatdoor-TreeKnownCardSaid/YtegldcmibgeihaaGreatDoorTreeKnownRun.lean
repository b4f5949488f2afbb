/- The fast evaluator's run of 'TreeKnown' answers true, by the kernel; with it the model's call, in whatever world. -/
import Derived.Test.YtegldcmibgeihaaGreatDoorTreeKnownTab
import Derived.Test.YtegldcmibgeihaaGreatDoorBaseNames
namespace Go.Proofs.YtegldcmibgeihaaGreatDoor.treeKnown
open Go.Gev Go.RowKit Go.Proofs.YtegldcmibgeihaaGreatDoor.base

def saysTrue : Option Out → Bool
  | some (.val (.bool b) _) => b
  | _ => false

theorem ran : saysTrue (runK (tabS (tabOf Tryz.prog 1000000 entries) sumsN) 1000 10 [] ⟨.e, 0, 0⟩) = true := by kernel_rfl

theorem called (w : World) : Calls Tryz.prog 10 #[] w fun e w' => e = .returned (.bool true) ∧ Below w.heap.size w w' := by
  have h := ran
  cases hr : runK (tabS (tabOf Tryz.prog 1000000 entries) sumsN) 1000 10 [] ⟨.e, 0, 0⟩ with
  | none => rw [hr] at h; cases h
  | some o =>
    rw [hr] at h
    cases o with
    | fin e fr h2 => cases h
    | val v h2 =>
      cases v with
      | bool b =>
        have hb : b = true := h
        subst hb
        refine (runS_calls follows named (tabOf_ok entries_ok) sumsN_ok hr w).mono fun e w' hh => ?_
        obtain ⟨v', ρ', h1, h2, h3⟩ := hh
        exact ⟨by rw [h1, h2.bool_inv], h3⟩
      | _ => cases h
end Go.Proofs.YtegldcmibgeihaaGreatDoor.treeKnown

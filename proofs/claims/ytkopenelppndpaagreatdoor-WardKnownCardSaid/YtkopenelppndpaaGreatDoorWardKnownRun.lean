/- The fast evaluator's run of 'WardKnown', in stages, answers true, by the kernel; with it the model's call, in whatever world. -/
import Derived.Test.YtkopenelppndpaaGreatDoorWardKnownSm4
import Derived.Test.YtkopenelppndpaaGreatDoorWardKnownTab
import Derived.Test.YtkopenelppndpaaGreatDoorBaseLinks
namespace Go.Proofs.YtkopenelppndpaaGreatDoor.wardKnown
open Go.Gev Go.RowKit Go.Proofs.YtkopenelppndpaaGreatDoor.base

def saysTrue : Option Out → Bool
  | some (.val (.bool b) _) => b
  | _ => false

theorem ran : saysTrue (runK (tabF (tabOf Tryz.prog 1000000 entries) s18) 1000 3 [] ⟨.e, 0, 0⟩) = true := by kernel_rfl

theorem called (w : World) : Calls Tryz.prog 3 #[] w fun e w' => e = .returned (.bool true) ∧ Below w.heap.size w w' := by
  have h := ran
  cases hr : runK (tabF (tabOf Tryz.prog 1000000 entries) s18) 1000 3 [] ⟨.e, 0, 0⟩ with
  | none => rw [hr] at h; cases h
  | some o =>
    rw [hr] at h
    cases o with
    | fin e fr h2 => cases h
    | val v h2 =>
      cases v with
      | bool b =>
        have hb : b = true := h
        subst hb
        refine (runF_calls follows named (tabOf_ok entries_ok) s18_ok hr w).mono fun e w' hh => ?_
        obtain ⟨v', ρ', h1, h2, h3⟩ := hh
        exact ⟨by rw [h1, h2.bool_inv], h3⟩
      | _ => cases h
end Go.Proofs.YtkopenelppndpaaGreatDoor.wardKnown

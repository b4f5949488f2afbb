/- The evaluator's run of 'PoolKnown' answers true, by the kernel; with it the model's call, in whatever world. -/
import Derived.Test.YtjjmngfceecbfaaGevMain
import Derived.Test.YtjjmngfceecbfaaProg
import Derived.KernelRfl
namespace Go.Proofs.Ytjjmngfceecbfaa.poolKnown
open Go.Gev Go.RowKit

def saysTrue : Option Out → Bool
  | some (.val (.bool b) _) => b
  | _ => false

theorem follows : Try.prog.follows .mixedOrders = true := by kernel_rfl

theorem names : (Try.prog.funcs.toList.all fun fn => !fn.body.isSome || !(fn.name == "runtime.NumGoroutine")) = true := by decide +kernel

theorem named : Named Try.prog := fun f fn hf hb => by
  have hm : fn ∈ Try.prog.funcs.toList := by
    obtain ⟨h1, h2⟩ := Array.getElem?_eq_some_iff.1 hf
    rw [← h2]; simp
  have h := List.all_eq_true.1 names fn hm
  rw [hb] at h
  simpa using h

theorem ran : saysTrue (run (FF Try.prog) 1000000 (.call 8 []) .e ⟨.e, 0, 0⟩) = true := by kernel_rfl

theorem called (w : World) : Calls Try.prog 8 #[] w fun e w' => e = .returned (.bool true) ∧ Below w.heap.size w w' := by
  have h := ran
  cases hr : run (FF Try.prog) 1000000 (.call 8 []) .e ⟨.e, 0, 0⟩ with
  | none => rw [hr] at h; cases h
  | some o =>
    rw [hr] at h
    cases o with
    | fin e fr h2 => cases h
    | val v h2 =>
      cases v with
      | bool b =>
        have hb : b = true := h
        subst hb
        refine (eval_calls follows named hr w).mono fun e w' hh => ?_
        obtain ⟨v', ρ', h1, h2, h3⟩ := hh
        exact ⟨by rw [h1, h2.bool_inv], h3⟩
      | _ => cases h
end Go.Proofs.Ytjjmngfceecbfaa.poolKnown

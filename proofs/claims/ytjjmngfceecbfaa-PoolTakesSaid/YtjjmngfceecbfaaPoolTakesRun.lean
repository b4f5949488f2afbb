/- The fast evaluator's runs of 'PoolTakes' answer true, by the kernel: for numbers out of range whatever they are, and for each pair in range. -/
import Derived.Test.YtjjmngfceecbfaaPoolTakesTab
namespace Go.Proofs.Ytjjmngfceecbfaa.poolTakes
open Go.Gev

def saysTrue : Option Out → Bool
  | some (.val (.bool b) _) => b
  | _ => false
noncomputable def go5 (n c : Int) : Bool := saysTrue (runK (tabOf Try.prog 1000000 entries) 1000 5 [.int .i64 n, .int .i64 c] ⟨.e, 0, 0⟩)

theorem neg (k : Nat) (c : Int) : go5 (.negSucc k) c = true := by kernel_rfl
theorem zero (c : Int) : go5 (.ofNat 0) c = true := by kernel_rfl
theorem five (m : Nat) (c : Int) : go5 (.ofNat (m + 5)) c = true := by kernel_rfl
theorem oneN (k : Nat) : go5 (.ofNat 1) (.negSucc k) = true := by kernel_rfl
theorem twoN (k : Nat) : go5 (.ofNat 2) (.negSucc k) = true := by kernel_rfl
theorem threeN (k : Nat) : go5 (.ofNat 3) (.negSucc k) = true := by kernel_rfl
theorem fourN (k : Nat) : go5 (.ofNat 4) (.negSucc k) = true := by kernel_rfl
theorem oneP (m : Nat) : go5 (.ofNat 1) (.ofNat (m + 2)) = true := by kernel_rfl
theorem twoP (m : Nat) : go5 (.ofNat 2) (.ofNat (m + 2)) = true := by kernel_rfl
theorem threeP (m : Nat) : go5 (.ofNat 3) (.ofNat (m + 2)) = true := by kernel_rfl
theorem fourP (m : Nat) : go5 (.ofNat 4) (.ofNat (m + 2)) = true := by kernel_rfl
theorem four0 : go5 (.ofNat 4) (.ofNat 0) = true := by kernel_rfl
theorem four1 : go5 (.ofNat 4) (.ofNat 1) = true := by kernel_rfl
theorem three0 : go5 (.ofNat 3) (.ofNat 0) = true := by kernel_rfl
theorem three1 : go5 (.ofNat 3) (.ofNat 1) = true := by kernel_rfl
theorem two0 : go5 (.ofNat 2) (.ofNat 0) = true := by kernel_rfl
theorem two1 : go5 (.ofNat 2) (.ofNat 1) = true := by kernel_rfl
theorem one0 : go5 (.ofNat 1) (.ofNat 0) = true := by kernel_rfl
theorem one1 : go5 (.ofNat 1) (.ofNat 1) = true := by kernel_rfl
theorem all (n c : Int) : go5 n c = true := by
  match n with
  | .negSucc k => exact neg k c
  | .ofNat 0 => exact zero c
  | .ofNat 1 => match c with
    | .negSucc k => exact oneN k
    | .ofNat 0 => exact one0
    | .ofNat 1 => exact one1
    | .ofNat (m + 2) => exact oneP m
  | .ofNat 2 => match c with
    | .negSucc k => exact twoN k
    | .ofNat 0 => exact two0
    | .ofNat 1 => exact two1
    | .ofNat (m + 2) => exact twoP m
  | .ofNat 3 => match c with
    | .negSucc k => exact threeN k
    | .ofNat 0 => exact three0
    | .ofNat 1 => exact three1
    | .ofNat (m + 2) => exact threeP m
  | .ofNat 4 => match c with
    | .negSucc k => exact fourN k
    | .ofNat 0 => exact four0
    | .ofNat 1 => exact four1
    | .ofNat (m + 2) => exact fourP m
  | .ofNat (m + 5) => exact five m c

theorem follows : Try.prog.follows .mixedOrders = true := by kernel_rfl
theorem names : (Try.prog.funcs.toList.all fun fn => !fn.body.isSome || !(fn.name == "runtime.NumGoroutine")) = true := by decide +kernel
theorem named : Named Try.prog := fun f fn hf hb => by
  have hm : fn ∈ Try.prog.funcs.toList := by
    obtain ⟨h1, h2⟩ := Array.getElem?_eq_some_iff.1 hf
    rw [← h2]; simp
  have h := List.all_eq_true.1 names fn hm
  rw [hb] at h
  simpa using h

open Go.RowKit in
theorem called (n c : Int) (w : World) : Calls Try.prog 5 #[.int .i64 n, .int .i64 c] w fun e w' => e = .returned (.bool true) ∧ Below w.heap.size w w' := by
  have h := all n c
  unfold go5 at h
  cases hr : runK (tabOf Try.prog 1000000 entries) 1000 5 [.int .i64 n, .int .i64 c] ⟨.e, 0, 0⟩ with
  | none => rw [hr] at h; cases h
  | some o =>
    rw [hr] at h
    cases o with
    | fin e fr h2 => cases h
    | val v h2 =>
      cases v with
      | bool b =>
        have hb : b = true := h
        subst hb
        have R0 : HR w.heap.size (fun _ => none) ⟨.e, 0, 0⟩ w := ⟨Nat.le_refl _, fun _ _ => rfl, (fun id b hb => by rw [Tr.get_e] at hb; cases hb), (fun id id' b b' H H' hb => by rw [Tr.get_e] at hb; cases hb)⟩
        refine (runK_ok follows named (tabOf_ok entries_ok) 1000 5 [.int .i64 n, .int .i64 c] #[.int .i64 n, .int .i64 c] _ _ h2 w.heap.size _ w hr (.cons (.int _ _) (.cons (.int _ _) VL.nil)) R0).mono fun e w' hh => ?_
        obtain ⟨v', ρ', h1, h2, h3⟩ := hh
        exact ⟨by rw [h1, h2.bool_inv], h3.below⟩
      | _ => cases h
end Go.Proofs.Ytjjmngfceecbfaa.poolTakes

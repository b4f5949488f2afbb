/- The fast evaluator's runs of 'TreeDirs' answer true, by the kernel: for numbers out of range whatever they are, and for each pair in range. -/
import Derived.Test.YtegldcmibgeihaaGreatDoorTreeDirsTab
import Derived.Test.YtegldcmibgeihaaGreatDoorBaseNames
namespace Go.Proofs.YtegldcmibgeihaaGreatDoor.treeDirs
open Go.Gev Go.Proofs.YtegldcmibgeihaaGreatDoor.base

def saysTrue : Option Out → Bool
  | some (.val (.bool b) _) => b
  | _ => false
noncomputable def go (n c : Int) : Bool := saysTrue (runK (tabS (tabOf Tryz.prog 1000000 entries) sumsN) 1000 4 [.int .i64 n, .int .i64 c] ⟨.e, 0, 0⟩)

theorem neg (k : Nat) (c : Int) : go (.negSucc k) c = true := by kernel_rfl
theorem high (m : Nat) (c : Int) : go (.ofNat (m + 9)) c = true := by kernel_rfl
theorem low0 (c : Int) : go (.ofNat 0) c = true := by kernel_rfl
theorem n1_neg (k : Nat) : go (.ofNat 1) (.negSucc k) = true := by kernel_rfl
theorem n1_over (m : Nat) : go (.ofNat 1) (.ofNat (m + 2)) = true := by kernel_rfl
theorem n1_0 : go (.ofNat 1) (.ofNat 0) = true := by kernel_rfl
theorem n1_1 : go (.ofNat 1) (.ofNat 1) = true := by kernel_rfl
theorem n2_neg (k : Nat) : go (.ofNat 2) (.negSucc k) = true := by kernel_rfl
theorem n2_over (m : Nat) : go (.ofNat 2) (.ofNat (m + 3)) = true := by kernel_rfl
theorem n2_0 : go (.ofNat 2) (.ofNat 0) = true := by kernel_rfl
theorem n2_1 : go (.ofNat 2) (.ofNat 1) = true := by kernel_rfl
theorem n2_2 : go (.ofNat 2) (.ofNat 2) = true := by kernel_rfl
theorem n3_neg (k : Nat) : go (.ofNat 3) (.negSucc k) = true := by kernel_rfl
theorem n3_over (m : Nat) : go (.ofNat 3) (.ofNat (m + 4)) = true := by kernel_rfl
theorem n3_0 : go (.ofNat 3) (.ofNat 0) = true := by kernel_rfl
theorem n3_1 : go (.ofNat 3) (.ofNat 1) = true := by kernel_rfl
theorem n3_2 : go (.ofNat 3) (.ofNat 2) = true := by kernel_rfl
theorem n3_3 : go (.ofNat 3) (.ofNat 3) = true := by kernel_rfl
theorem n4_neg (k : Nat) : go (.ofNat 4) (.negSucc k) = true := by kernel_rfl
theorem n4_over (m : Nat) : go (.ofNat 4) (.ofNat (m + 5)) = true := by kernel_rfl
theorem n4_0 : go (.ofNat 4) (.ofNat 0) = true := by kernel_rfl
theorem n4_1 : go (.ofNat 4) (.ofNat 1) = true := by kernel_rfl
theorem n4_2 : go (.ofNat 4) (.ofNat 2) = true := by kernel_rfl
theorem n4_3 : go (.ofNat 4) (.ofNat 3) = true := by kernel_rfl
theorem n4_4 : go (.ofNat 4) (.ofNat 4) = true := by kernel_rfl
theorem n5_neg (k : Nat) : go (.ofNat 5) (.negSucc k) = true := by kernel_rfl
theorem n5_over (m : Nat) : go (.ofNat 5) (.ofNat (m + 6)) = true := by kernel_rfl
theorem n5_0 : go (.ofNat 5) (.ofNat 0) = true := by kernel_rfl
theorem n5_1 : go (.ofNat 5) (.ofNat 1) = true := by kernel_rfl
theorem n5_2 : go (.ofNat 5) (.ofNat 2) = true := by kernel_rfl
theorem n5_3 : go (.ofNat 5) (.ofNat 3) = true := by kernel_rfl
theorem n5_4 : go (.ofNat 5) (.ofNat 4) = true := by kernel_rfl
theorem n5_5 : go (.ofNat 5) (.ofNat 5) = true := by kernel_rfl
theorem n6_neg (k : Nat) : go (.ofNat 6) (.negSucc k) = true := by kernel_rfl
theorem n6_over (m : Nat) : go (.ofNat 6) (.ofNat (m + 7)) = true := by kernel_rfl
theorem n6_0 : go (.ofNat 6) (.ofNat 0) = true := by kernel_rfl
theorem n6_1 : go (.ofNat 6) (.ofNat 1) = true := by kernel_rfl
theorem n6_2 : go (.ofNat 6) (.ofNat 2) = true := by kernel_rfl
theorem n6_3 : go (.ofNat 6) (.ofNat 3) = true := by kernel_rfl
theorem n6_4 : go (.ofNat 6) (.ofNat 4) = true := by kernel_rfl
theorem n6_5 : go (.ofNat 6) (.ofNat 5) = true := by kernel_rfl
theorem n6_6 : go (.ofNat 6) (.ofNat 6) = true := by kernel_rfl
theorem n7_neg (k : Nat) : go (.ofNat 7) (.negSucc k) = true := by kernel_rfl
theorem n7_over (m : Nat) : go (.ofNat 7) (.ofNat (m + 8)) = true := by kernel_rfl
theorem n7_0 : go (.ofNat 7) (.ofNat 0) = true := by kernel_rfl
theorem n7_1 : go (.ofNat 7) (.ofNat 1) = true := by kernel_rfl
theorem n7_2 : go (.ofNat 7) (.ofNat 2) = true := by kernel_rfl
theorem n7_3 : go (.ofNat 7) (.ofNat 3) = true := by kernel_rfl
theorem n7_4 : go (.ofNat 7) (.ofNat 4) = true := by kernel_rfl
theorem n7_5 : go (.ofNat 7) (.ofNat 5) = true := by kernel_rfl
theorem n7_6 : go (.ofNat 7) (.ofNat 6) = true := by kernel_rfl
theorem n7_7 : go (.ofNat 7) (.ofNat 7) = true := by kernel_rfl
theorem n8_neg (k : Nat) : go (.ofNat 8) (.negSucc k) = true := by kernel_rfl
theorem n8_over (m : Nat) : go (.ofNat 8) (.ofNat (m + 9)) = true := by kernel_rfl
theorem n8_0 : go (.ofNat 8) (.ofNat 0) = true := by kernel_rfl
theorem n8_1 : go (.ofNat 8) (.ofNat 1) = true := by kernel_rfl
theorem n8_2 : go (.ofNat 8) (.ofNat 2) = true := by kernel_rfl
theorem n8_3 : go (.ofNat 8) (.ofNat 3) = true := by kernel_rfl
theorem n8_4 : go (.ofNat 8) (.ofNat 4) = true := by kernel_rfl
theorem n8_5 : go (.ofNat 8) (.ofNat 5) = true := by kernel_rfl
theorem n8_6 : go (.ofNat 8) (.ofNat 6) = true := by kernel_rfl
theorem n8_7 : go (.ofNat 8) (.ofNat 7) = true := by kernel_rfl
theorem n8_8 : go (.ofNat 8) (.ofNat 8) = true := by kernel_rfl
theorem all (n c : Int) : go n c = true := by
  match n with
  | .negSucc k => exact neg k c
  | .ofNat 0 => exact low0 c
  | .ofNat 1 => match c with
    | .negSucc k => exact n1_neg k
    | .ofNat 0 => exact n1_0
    | .ofNat 1 => exact n1_1
    | .ofNat (m + 2) => exact n1_over m
  | .ofNat 2 => match c with
    | .negSucc k => exact n2_neg k
    | .ofNat 0 => exact n2_0
    | .ofNat 1 => exact n2_1
    | .ofNat 2 => exact n2_2
    | .ofNat (m + 3) => exact n2_over m
  | .ofNat 3 => match c with
    | .negSucc k => exact n3_neg k
    | .ofNat 0 => exact n3_0
    | .ofNat 1 => exact n3_1
    | .ofNat 2 => exact n3_2
    | .ofNat 3 => exact n3_3
    | .ofNat (m + 4) => exact n3_over m
  | .ofNat 4 => match c with
    | .negSucc k => exact n4_neg k
    | .ofNat 0 => exact n4_0
    | .ofNat 1 => exact n4_1
    | .ofNat 2 => exact n4_2
    | .ofNat 3 => exact n4_3
    | .ofNat 4 => exact n4_4
    | .ofNat (m + 5) => exact n4_over m
  | .ofNat 5 => match c with
    | .negSucc k => exact n5_neg k
    | .ofNat 0 => exact n5_0
    | .ofNat 1 => exact n5_1
    | .ofNat 2 => exact n5_2
    | .ofNat 3 => exact n5_3
    | .ofNat 4 => exact n5_4
    | .ofNat 5 => exact n5_5
    | .ofNat (m + 6) => exact n5_over m
  | .ofNat 6 => match c with
    | .negSucc k => exact n6_neg k
    | .ofNat 0 => exact n6_0
    | .ofNat 1 => exact n6_1
    | .ofNat 2 => exact n6_2
    | .ofNat 3 => exact n6_3
    | .ofNat 4 => exact n6_4
    | .ofNat 5 => exact n6_5
    | .ofNat 6 => exact n6_6
    | .ofNat (m + 7) => exact n6_over m
  | .ofNat 7 => match c with
    | .negSucc k => exact n7_neg k
    | .ofNat 0 => exact n7_0
    | .ofNat 1 => exact n7_1
    | .ofNat 2 => exact n7_2
    | .ofNat 3 => exact n7_3
    | .ofNat 4 => exact n7_4
    | .ofNat 5 => exact n7_5
    | .ofNat 6 => exact n7_6
    | .ofNat 7 => exact n7_7
    | .ofNat (m + 8) => exact n7_over m
  | .ofNat 8 => match c with
    | .negSucc k => exact n8_neg k
    | .ofNat 0 => exact n8_0
    | .ofNat 1 => exact n8_1
    | .ofNat 2 => exact n8_2
    | .ofNat 3 => exact n8_3
    | .ofNat 4 => exact n8_4
    | .ofNat 5 => exact n8_5
    | .ofNat 6 => exact n8_6
    | .ofNat 7 => exact n8_7
    | .ofNat 8 => exact n8_8
    | .ofNat (m + 9) => exact n8_over m
  | .ofNat (m + 9) => exact high m c

open Go.RowKit in
theorem called (n c : Int) (w : World) : Calls Tryz.prog 4 #[.int .i64 n, .int .i64 c] w fun e w' => e = .returned (.bool true) ∧ Below w.heap.size w w' := by
  have h := all n c
  unfold go at h
  cases hr : runK (tabS (tabOf Tryz.prog 1000000 entries) sumsN) 1000 4 [.int .i64 n, .int .i64 c] ⟨.e, 0, 0⟩ with
  | none => rw [hr] at h; cases h
  | some o =>
    rw [hr] at h
    cases o with
    | fin e fr h2 => cases h
    | val v h2 =>
      cases v with
      | bool b =>
        have hb : b = true := h
        subst hb
        have R0 : HR w.heap.size (fun _ => none) ⟨.e, 0, 0⟩ w := ⟨Nat.le_refl _, fun _ _ => rfl, (fun id b hb => by rw [Tr.get_e] at hb; cases hb), (fun id id' b b' H H' hb => by rw [Tr.get_e] at hb; cases hb)⟩
        refine (runS_ok follows named (tabOf_ok entries_ok) sumsN_ok 1000 4 [.int .i64 n, .int .i64 c] #[.int .i64 n, .int .i64 c] _ _ h2 w.heap.size _ w hr (.cons (.int _ _) (.cons (.int _ _) VL.nil)) R0).mono fun e w' hh => ?_
        obtain ⟨v', ρ', h1, h2, h3⟩ := hh
        exact ⟨by rw [h1, h2.bool_inv], h3.below⟩
      | _ => cases h
end Go.Proofs.YtegldcmibgeihaaGreatDoor.treeDirs

/- The evaluator's numbers are the model's. -/
import Derived.Test.YtbecnapcgehliaaGreatDoorGevTr
import Derived.Laws.Entries
import Derived.WalkLawsBesides
namespace Go.Gev

theorem eqI_eq (a b : Int) : eqI a b = (a == b) := by
  cases a with
  | ofNat a => cases b with
    | ofNat b =>
      show Nat.beq a b = _
      by_cases h : a = b
      · subst h; rw [beq_iff.2 rfl]; simp
      · rw [beq_false.2 h]; symm; rw [beq_eq_false_iff_ne]; intro e; exact h (Int.ofNat.inj e)
    | negSucc b => rfl
  | negSucc a => cases b with
    | ofNat b => rfl
    | negSucc b =>
      show Nat.beq a b = _
      by_cases h : a = b
      · subst h; rw [beq_iff.2 rfl]; simp
      · rw [beq_false.2 h]; symm; rw [beq_eq_false_iff_ne]; intro e; exact h (Int.negSucc.inj e)
theorem ble_eq (a b : Nat) : Nat.ble a b = decide (a ≤ b) := by
  by_cases h : a ≤ b
  · rw [Nat.ble_eq_true_of_le h, decide_eq_true h]
  · rw [decide_eq_false h]
    cases e : Nat.ble a b with
    | true => exact absurd (Nat.le_of_ble_eq_true e) h
    | false => rfl
theorem leI_eq (a b : Int) : leI a b = decide (a ≤ b) := by
  cases a with
  | ofNat a => cases b with
    | ofNat b => show Nat.ble a b = _; rw [ble_eq, decide_eq_decide]; show a ≤ b ↔ (a : Int) ≤ (b : Int); omega
    | negSucc b => show false = _; symm; rw [decide_eq_false_iff_not]; show ¬ ((a : Int) ≤ Int.negSucc b); omega
  | negSucc a => cases b with
    | ofNat b => show true = _; symm; rw [decide_eq_true_iff]; show Int.negSucc a ≤ (b : Int); omega
    | negSucc b => show Nat.ble b a = _; rw [ble_eq, decide_eq_decide]; omega
theorem ltI_eq (a b : Int) : ltI a b = decide (a < b) := by
  unfold ltI
  rw [leI_eq]
  by_cases h : b ≤ a
  · rw [decide_eq_true h]; symm; rw [decide_eq_false_iff_not]; omega
  · rw [decide_eq_false h]; symm; rw [decide_eq_true_iff]; omega

theorem wrapF_eq (k : IntKind) (n : Int) : wrapF k n = k.wrap n := by
  have hin : inK k n = true → n = k.wrap n := by
    intro h
    cases k <;> cases n <;> simp only [inK] at h <;> first
      | (cases h)
      | (have := Nat.le_of_ble_eq_true h
         simp only [IntKind.wrap, IntKind.bits, IntKind.signed, Int.ofNat_eq_natCast, Int.negSucc_eq]
         try simp
         omega)
  unfold wrapF
  cases h : inK k n with
  | true => exact hin h
  | false =>
    cases k <;> try rfl
    cases n with
    | negSucc n => rfl
    | ofNat m =>
      show Int.ofNat (Nat.mod m 18446744073709551616) = _
      simp only [IntKind.wrap, IntKind.bits, IntKind.signed]
      simp
      rfl
end Go.Gev

/- The trie's laws: what is put is got, all else is as it was. -/
import Derived.Test.YtndlcnfnoiabbaaGevDef
namespace Go.Gev
theorem Tr.getp_nil {α : Type} (t : Tr α) : Tr.getp [] t = match t with | .e => none | .n v _ _ => v := by cases t <;> rfl
theorem Tr.getp_e {α : Type} (p : List Bool) : Tr.getp p (.e : Tr α) = none := by cases p <;> rfl
theorem Tr.getp_cons {α : Type} (b : Bool) (p : List Bool) (v : Option α) (l r : Tr α) : Tr.getp (b :: p) (.n v l r) = if b then Tr.getp p r else Tr.getp p l := by
 cases b <;> rfl
theorem Tr.frc_eq {α : Type} (k : Tr α → Tr α) (t : Tr α) : Tr.frc k t = k t := by cases t <;> rfl
theorem frcB_eq {α : Type} (t : Tr α) (b : Bool) : frcB t b = b := by cases t <;> rfl
theorem Tr.setp_nil {α : Type} (x : Option α) (t : Tr α) : Tr.setp x [] t = match t with | .e => .n x .e .e | .n _ l r => .n x l r := by cases t <;> rfl
theorem Tr.setp_cons {α : Type} (x : Option α) (b : Bool) (p : List Bool) (t : Tr α) : Tr.setp x (b :: p) t =
 match t with
 | .e => if b then .n none .e (Tr.setp x p .e) else .n none (Tr.setp x p .e) .e
 | .n v l r => if b then .n v l (Tr.setp x p r) else .n v (Tr.setp x p l) r := by
 cases t with
 | e => cases b <;> rfl
 | n v l r =>
  cases b with
  | false =>
   show Tr.frc (fun l' => .n v l' r) (Tr.setp x p l) = _
   rw [Tr.frc_eq]; rfl
  | true =>
   show Tr.frc (fun r' => .n v l r') (Tr.setp x p r) = _
   rw [Tr.frc_eq]; rfl
theorem Tr.getp_setp {α : Type} (x : Option α) (p : List Bool) : ∀ (q : List Bool) (t : Tr α), Tr.getp q (Tr.setp x p t) = if p = q then x else Tr.getp q t := by
 induction p with
 | nil =>
  intro q t
  rw [Tr.setp_nil]
  cases q with
  | nil => cases t <;> rfl
  | cons b q => cases t with
   | e => simp [Tr.getp_cons, Tr.getp_e]
   | n v l r => simp [Tr.getp_cons]
 | cons b p ih =>
  intro q t
  rw [Tr.setp_cons]
  cases q with
  | nil => cases t <;> cases b <;> simp [Tr.getp_nil]
  | cons c q =>
   cases t with
   | e => cases b <;> cases c <;> simp [Tr.getp_cons, ih, Tr.getp_e]
   | n v l r => cases b <;> cases c <;> simp [Tr.getp_cons, ih]
theorem pthF_inj : ∀ (f g a b : Nat), a < f → b < g → pthF f a = pthF g b → a = b := by
 intro f
 induction f with
 | zero => intro g a b ha; omega
 | succ f ih =>
  intro g a b ha hb h
  cases g with
  | zero => omega
  | succ g =>
   cases a with
   | zero => cases b with
    | zero => rfl
    | succ b => simp [pthF] at h
   | succ a => cases b with
    | zero => simp [pthF] at h
    | succ b =>
     simp only [pthF, List.cons.injEq] at h
     have h2 : a / 2 = b / 2 := ih g (a / 2) (b / 2) (by omega) (by omega) h.2
     have h1 : (Nat.beq (Nat.mod a 2) 0) = (Nat.beq (Nat.mod b 2) 0) := h.1
     have e1 : (Nat.mod a 2 = 0) ↔ (Nat.mod b 2 = 0) := by
      constructor
      ·intro e
       rw [e] at h1
       exact (Nat.eq_of_beq_eq_true h1.symm)
      ·intro e
       rw [e] at h1
       exact (Nat.eq_of_beq_eq_true h1)
     have e2 : (a % 2 = 0) ↔ (b % 2 = 0) := e1
     omega
theorem pth_inj {a b : Nat} (h : pth a = pth b) : a = b := pthF_inj _ _ _ _ (Nat.lt_succ_self _) (Nat.lt_succ_self _) h
theorem Tr.get_set {α : Type} (t : Tr α) (k j : Nat) (x : Option α) : (t.set k x).get j = if k = j then x else t.get j := by
 unfold Tr.get Tr.set
 rw [Tr.getp_setp]
 by_cases h : k = j
 ·subst h; simp
 ·rw [if_neg (fun e => h (pth_inj e)), if_neg h]
theorem Tr.get_e {α : Type} (k : Nat) : (Tr.e : Tr α).get k = none := Tr.getp_e _
theorem get_ofListFrom {α : Type} : ∀ (vs : List α) (i : Nat) (t : Tr α) (j : Nat), (ofListFrom vs i t).get j = if i ≤ j ∧ j < i + vs.length then vs[j - i]? else t.get j := by
 intro vs
 induction vs with
 | nil => intro i t j; rw [ofListFrom, if_neg (by simp only [List.length_nil]; omega)]
 | cons v vs ih =>
  intro i t j
  rw [ofListFrom, Tr.frc_eq, ih, Tr.get_set]
  by_cases h1 : i = j
  ·subst h1
   rw [if_neg (by omega), if_pos rfl, if_pos (by simp)]
   simp
  ·by_cases h2 : i ≤ j ∧ j < i + (v :: vs).length
   ·have h3 : i.succ ≤ j ∧ j < i.succ + vs.length := by simp at h2; omega
    rw [if_pos h3, if_pos h2]
    obtain ⟨d, rfl⟩ : ∃ d, j = i + (d + 1) := ⟨j - i - 1, by omega⟩
    rw [show i + (d + 1) - i.succ = d from by omega, show i + (d + 1) - i = d + 1 from by omega]
    simp
   ·rw [if_neg (by simp at h2 ⊢; omega), if_neg h1, if_neg h2]
theorem get_ofList {α : Type} (vs : List α) (j : Nat) : (ofList vs).get j = vs[j]? := by
 unfold ofList
 rw [get_ofListFrom, Tr.get_e]
 by_cases h : j < vs.length
 ·rw [if_pos (by omega)]; simp
 ·rw [if_neg (by omega), List.getElem?_eq_none (by omega)]
theorem beq_iff {a b : Nat} : Nat.beq a b = true ↔ a = b := ⟨Nat.eq_of_beq_eq_true, fun h => by subst h; exact Nat.beq_refl _⟩
theorem beq_false {a b : Nat} : Nat.beq a b = false ↔ a ≠ b := by
 constructor
 ·intro h e; rw [beq_iff.2 e] at h; cases h
 ·intro h; cases e : Nat.beq a b with
  | true => exact absurd (beq_iff.1 e) h
  | false => rfl
theorem minN_le_left (a b : Nat) : minN a b ≤ a := by
 unfold minN; cases h : Nat.ble a b with
 | true => exact Nat.le_refl _
 | false => have : ¬ a ≤ b := fun e => by rw [Nat.ble_eq_true_of_le e] at h; cases h
            simp; omega
theorem minN_le_right (a b : Nat) : minN a b ≤ b := by
 unfold minN; cases h : Nat.ble a b with
 | true => exact Nat.le_of_ble_eq_true h
 | false => exact Nat.le_refl _
theorem minN_eq (a b : Nat) : minN a b = min a b := by
 unfold minN; cases h : Nat.ble a b with
 | true => have := Nat.le_of_ble_eq_true h; simp; omega
 | false => have : ¬ a ≤ b := fun e => by rw [Nat.ble_eq_true_of_le e] at h; cases h
            simp; omega
end Go.Gev

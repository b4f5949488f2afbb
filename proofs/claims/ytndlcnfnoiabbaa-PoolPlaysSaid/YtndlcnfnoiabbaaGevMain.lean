/- The evaluator's runs are the model's: the induction. -/
import Derived.Test.YtndlcnfnoiabbaaGevDraw2
namespace Go.Gev
open Go.RowKit
section
variable {P : Program} {R : Rn}
theorem enter_frame {sl : List Nat} : ∀ (args : List Value) (n i : Nat) (fr : Fr) (t : Nat) (p : List Bool), slot sl t = some p →
 (enterF args (parsFrom sl n i) fr).getp p = if i ≤ t ∧ t < i + n ∧ t < i + args.length then args[t - i]? else fr.getp p := by
 intro args
 induction args with
 | nil => intro n i fr t p hp; rw [if_neg (by simp only [List.length_nil]; omega)]; rfl
 | cons v vs ih =>
  intro n i fr t p hp
  cases n with
  | zero => rw [if_neg (by omega)]; rfl
  | succ n =>
   simp only [parsFrom, enterF]
   rw [ih n i.succ _ t p hp]
   by_cases h1 : i = t
   ·subst h1
    rw [if_neg (by omega), if_pos (by simp)]
    simp only [hp, put, Tr.getp_setp, if_true, Nat.sub_self, List.getElem?_cons_zero]
   ·have hput : (put (slot sl i) v fr).getp p = fr.getp p := by
     cases hs : slot sl i with
     | none => rfl
     | some q => simp only [put]; rw [Tr.getp_setp, if_neg (fun e => h1 (slot_inj hs hp e))]
    rw [hput]
    by_cases h2 : i ≤ t ∧ t < i + (n + 1) ∧ t < i + (v :: vs).length
    ·rw [if_pos (by simp at h2; omega), if_pos h2]
     obtain ⟨d, rfl⟩ : ∃ d, t = i + (d + 1) := ⟨t - i - 1, by omega⟩
     rw [show i + (d + 1) - i.succ = d from by omega, show i + (d + 1) - i = d + 1 from by omega]
     simp
    ·rw [if_neg (by simp at h2 ⊢; omega), if_neg h2]
def resRun (tm : Array Value) : ResultVar → Sem Value
 | .tmp t => pure (tm.getD t undef)
 | .cell a t => do loadVar t (← asAddr (tm.getD a undef))
theorem resV_run {ρ : Ren} {sl : List Nat} {N : Nat} {B : Nat} {fr : Fr} {h : Hs} {w : World} {tm : Array Value} (L : FrR ρ sl N fr tm) (Rl : HR B ρ h w) : ∀ (rs : List ResultVar) (gs : List GRes) (vs : List Value), gres P sl rs = some gs → resV ⟨fr, []⟩ h gs = some vs →
 ∃ vs', (rs.mapM (resRun tm)).run P w = .ok vs' w ∧ VL ρ vs vs' := by
 intro rs
 induction rs with
 | nil =>
  intro gs vs h1 h2
  simp only [gres, Option.some.injEq] at h1
  subst h1
  simp only [resV, Option.some.injEq] at h2
  subst h2
  exact ⟨[], by simp, VL.nil⟩
 | cons r rs ih =>
  intro gs vs h1 h2
  cases r with
  | tmp t =>
   simp only [gres, Option.bind_eq_bind, Option.bind_eq_some_iff, Option.some.injEq] at h1
   obtain ⟨gr, hg, rfl⟩ := h1
   simp only [resV, consR] at h2
   cases hr : resV ⟨fr, []⟩ h gr with
   | none => rw [hr] at h2; cases h2
   | some us =>
    rw [hr] at h2
    injection h2 with h2
    subst h2
    obtain ⟨us', e1, e2⟩ := ih gr us hg hr
    refine ⟨tm.getD t undef :: us', ?_, .cons (gt_VR L.en t) e2⟩
    have hone : (resRun tm (.tmp t)).run P w = .ok (tm.getD t undef) w := rfl
    simp only [List.mapM_cons, Sem.run_bind, hone, Result.andThen_ok, e1, Sem.run_pure]
  | cell c t =>
   simp only [gres, Option.bind_eq_bind, Option.bind_eq_some_iff, Option.some.injEq] at h1
   obtain ⟨n, hn, b, hb, gr, hg, rfl⟩ := h1
   simp only [resV] at h2
   cases hr : resV ⟨fr, []⟩ h gr with
   | none => rw [hr] at h2; cases hc : cellV h n b (addrOf (ev ⟨fr, []⟩ (gt (plainCx sl []) c))) <;> (rw [hc] at h2; cases h2)
   | some us =>
    rw [hr] at h2
    obtain ⟨us', e1, e2⟩ := ih gr us hg hr
    have hv := gt_VR L.en c
    cases hp : addrOf (ev ⟨fr, []⟩ (gt (plainCx sl []) c)) with
    | none => rw [hp] at h2; cases h2
    | some p =>
     rw [hp] at h2
     obtain ⟨H, hH, _, hax⟩ := addrOf_VR hv hp
     cases hc : cellV h n b (some p) with
     | none => rw [hc] at h2; cases h2
     | some v =>
      rw [hc] at h2
      injection h2 with h2
      subst h2
      cases b with
      | true =>
       simp only [cellV] at hc
       cases hcs : blkCells n p.2 (h.hp.get p.1) with
       | none => rw [hcs] at hc; cases hc
       | some cs =>
        rw [hcs] at hc
        injection hc with hc
        subst hc
        obtain ⟨H', ys, q1, q2, q3, q4⟩ := Rl.cells hcs
        rw [hH] at q1
        injection q1 with q1
        subst q1
        have hl := run_loadCells_list (P := P) (w := w) ⟨H.blk, H.off + p.2, none⟩ ys q4
        have hl' : ys.length = n := by rw [← q2.1]; exact q3
        rw [hl'] at hl
        refine ⟨.agg ys.toArray :: us', ?_, .cons (VR.agg_of q2) e2⟩
        have hone : (resRun tm (.cell c t)).run P w = .ok (.agg ys.toArray) w := by
         simp only [resRun, Sem.run_bind, hax, asAddr, Sem.run_pure, Result.andThen_ok, loadVar, isAgg_run hb, if_true, size_run hn, hl]
        simp only [List.mapM_cons, Sem.run_bind, hone, Result.andThen_ok, e1, Sem.run_pure]
      | false =>
       simp only [cellV] at hc
       obtain ⟨H', v', q1, q2, q3⟩ := Rl.cell hc
       rw [hH] at q1
       injection q1 with q1
       subst q1
       refine ⟨v' :: us', ?_, .cons q3 e2⟩
       have hone : (resRun tm (.cell c t)).run P w = .ok v' w := by
        simp only [resRun, Sem.run_bind, hax, asAddr, Sem.run_pure, Result.andThen_ok, loadVar, isAgg_run hb, Bool.false_eq_true, if_false, cell_load q2]
       simp only [List.mapM_cons, Sem.run_bind, hone, Result.andThen_ok, e1, Sem.run_pure]
end
end Go.Gev

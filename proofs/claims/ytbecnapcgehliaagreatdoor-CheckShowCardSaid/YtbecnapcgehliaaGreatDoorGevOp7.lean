/- Each operation of the evaluator does what the model's does (7): structs and slices written out; zero elements appended. -/
import Derived.Test.YtbecnapcgehliaaGreatDoorGevOp6
namespace Go.Gev
open Go.RowKit

section
variable {P : Program} {cx : Cx} {o : Oper}

theorem snd_build {t : TypeId} {parts : Array (Nat × Operand)} {z : List Value} {ps : List (Nat × Nat × GX)} {place : Nat → Option (Nat × Nat)} (ho : o.op = .build t parts) (hz : zeroOf P t = some z)
    (hp : partsP cx place parts.toList = some ps)
    (hpl : (∃ fs pl, P.underlying t = some (.struct fs) ∧ placesOf P fs.toList = some pl ∧ place = (pl.toArray[·]?)) ∨ ∃ n e ie, P.underlying t = some (.array n e) ∧ P.info? e = some ie ∧ place = fun i => some (i * ie.size, ie.size)) : Snd P cx o (oBuild z ps) :=
  snd_still fun B ρ en h w a v h' E R e0 => by
    unfold oBuild at e0
    cases hf : fillL en ps z with
    | none => rw [hf] at e0; cases e0
    | some cs =>
      rw [hf] at e0
      simp only [build1, Option.some.injEq, Prod.mk.injEq] at e0
      obtain ⟨rfl, rfl⟩ := e0
      obtain ⟨i, zv, hi, hiz, hzc, hok, _⟩ := zeroOf_some hz
      obtain ⟨arr', g1, g2⟩ := fill_spec E place parts.toList ps z cs zv.cells hp (by rw [hzc]; exact okCL_VL hok) hf
      have hb : P.built t ((parts.map fun (i, x) => (i, a.eval x)).toList) = some arr' := by
        have hm : (parts.map fun (i, x) => (i, a.eval x)).toList = parts.toList.map fun p => (p.1, a.eval p.2) := by simp
        rw [hm]
        unfold Program.built
        rcases hpl with ⟨fs, pl, h1, h2, rfl⟩ | ⟨n, e, ie, h1, h2, rfl⟩
        · simp only [hi, h1, hiz]
          unfold placesOf at h2
          rw [h2]
          exact g1
        · simp only [hi, h1, hiz, h2]
          exact g1
      refine ⟨rfl, .agg arr', ?_, ?_⟩
      · simp only [execOp, ho, Sem.run_bind, run_build w t _ _ hb, Result.andThen_ok, Sem.run_pure]
      · have := VR.agg_of g2
        simpa using this
theorem snd_mkrow {t e : TypeId} {len u : Nat} {parts : Array (Nat × Operand)} {z : List Value} {ps : List (Nat × Nat × GX)} (ho : o.op = .buildSlice t len parts) (ht : P.underlying t = some (.slice e)) (hu : sizeOfT P e = some u) (hu0 : u ≠ 0) (hl : len * u ≤ 16777216) (hz : zeroOf P e = some z)
    (hp : partsP cx (fun i => some (i * u, u)) parts.toList = some ps) : Snd P cx o (oMkrow e u len z ps) := fun B ρ en h w a v h' E R e0 => by
  unfold oMkrow at e0
  cases hf : fillL en ps (rep z len) with
  | none => rw [hf] at e0; cases e0
  | some cs =>
    rw [hf] at e0
    simp only [mkrow1, Option.some.injEq, Prod.mk.injEq] at e0
    obtain ⟨rfl, rfl⟩ := e0
    obtain ⟨i, zv, hi, hiz, hzc, hok, hzs⟩ := zeroOf_some hz
    have hiu : i.size = u := by unfold sizeOfT at hu; rw [hi] at hu; injection hu
    have hmc : (madeCells zv.cells (len * u)).toList = rep z len := by rw [← hiu, ← hzs, madeCells_rep _ _ (by omega), hzc]
    obtain ⟨arr', g1, g2⟩ := fill_spec E (fun i => some (i * u, u)) parts.toList ps (rep z len) cs (madeCells zv.cells (len * u)) hp (by rw [hmc]; exact VL.rep hok len) hf
    have hsz : arr'.size = len * u := by
      have h1 := g2.1
      have h2 : cs.length = (rep z len).length := by
        have key : ∀ (ps : List (Nat × Nat × GX)) (xs ys : List Value), fillL en ps xs = some ys → ys.length = xs.length := by
          intro ps
          induction ps with
          | nil => intro xs ys hh; simp only [fillL, Option.some.injEq] at hh; rw [hh]
          | cons p ps ih =>
            intro xs ys hh
            simp only [fillL, fill1] at hh
            split at hh
            · cases hh
            · split at hh
              · cases hh
              · split at hh
                · cases hh
                · rw [ih _ _ hh, splice_length]
        exact key _ _ _ hf
      rw [rep_length] at h2
      have h3 : z.length = u := by rw [← hzc]; simpa using hzs.trans hiu
      rw [h3] at h2
      rw [h2] at h1
      simpa using h1.symm
    refine ⟨.slice (some ⟨w.heap.size, 0, none⟩) len len, w.alloc (.cells arr' e), _, .inl ?_, ?_, step_new (w := w) R rfl rfl rfl rfl e u cs arr' arr'.toList g2 (by rw [Array.length_toList, List.take_of_length_le (by simp)])⟩
    · have hpm : (parts.map fun (i, x) => (i, a.eval x)).toList = parts.toList.map fun p => (p.1, a.eval p.2) := by simp
      have hng : ¬ (len * u > 2 ^ 24) := by omega
      by_cases h0 : len * u = 0
      · have hr0 : (Array.range (len * u)).map (fun x => (#[] : Array Value)[x % (#[] : Array Value).size]!) = madeCells zv.cells (len * u) := by
          simp [h0, madeCells]
        simp only [execOp, ho, Instr.buildSlice, Sem.run_bind, under_run ht, Result.andThen_ok, size_run hu, if_neg hng, Sem.run_pure, if_pos h0, hr0, hpm, g1, Go.newRow, run_newObj]
        rfl
      · have hr0 : (Array.range (len * u)).map (fun x => zv.cells[x % zv.cells.size]!) = madeCells zv.cells (len * u) := rfl
        have hzv : (zeroValue e).run P w = .ok zv w := by simp [zeroValue, info_run hi, hiz]
        simp only [execOp, ho, Instr.buildSlice, Sem.run_bind, under_run ht, Result.andThen_ok, size_run hu, if_neg hng, Sem.run_pure, if_neg h0, hzv, hr0, hpm, g1, Go.newRow, run_newObj]
        rfl
    · refine .slice h.nx 0 len len len _ (Ren.add_same _ _ _) (Nat.le_refl _) (Nat.le_refl _) ?_ (.inr ?_)
      · have := Nat.le_mul_of_pos_right len (show 0 < u from by omega)
        exact Nat.le_trans this (Nat.le_trans hl (by unfold maxLen; omega))
      · simp only [Nat.zero_add, hsz]
        exact Nat.le_refl _
end
end Go.Gev

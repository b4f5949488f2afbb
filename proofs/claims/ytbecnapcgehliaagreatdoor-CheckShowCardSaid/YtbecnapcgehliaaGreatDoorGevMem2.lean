/- Loads, stores, appends: what they come to in both memories. -/
import Derived.Test.YtbecnapcgehliaaGreatDoorGevMem
import Derived.Laws.CopyRow
namespace Go.Gev
open Go.RowKit

theorem loadN_spec (c : Tr Value) : ∀ (n off : Nat) (acc vs : List Value), loadN c n off acc = some vs →
    ∃ xs, vs = acc.reverse ++ xs ∧ xs.length = n ∧ ∀ i x, xs[i]? = some x → c.get (off + i) = some x := by
  intro n
  induction n with
  | zero =>
    intro off acc vs h
    simp only [loadN, Option.some.injEq] at h
    exact ⟨[], by simp [h], rfl, fun i x hx => by simp at hx⟩
  | succ n ih =>
    intro off acc vs h
    simp only [loadN] at h
    cases hc : c.get off with
    | none => rw [hc] at h; cases h
    | some v =>
      rw [hc] at h
      obtain ⟨xs, h1, h2, h3⟩ := ih _ _ _ h
      refine ⟨v :: xs, by simp [h1], by simp [h2], fun i x hx => ?_⟩
      cases i with
      | zero => simp at hx; subst hx; exact hc
      | succ i => rw [show off + (i + 1) = off.succ + i from by omega]; exact h3 i x (by simpa using hx)
theorem loadN_nil {c : Tr Value} {n off : Nat} {vs : List Value} (h : loadN c n off [] = some vs) : vs.length = n ∧ ∀ i x, vs[i]? = some x → c.get (off + i) = some x := by
  obtain ⟨xs, h1, h2, h3⟩ := loadN_spec c n off [] vs h
  simp at h1; subst h1; exact ⟨h2, h3⟩

theorem storeN_spec : ∀ (vs : List Value) (off : Nat) (c c' : Tr Value), storeN vs off c = some c' →
    (∀ v ∈ vs, oneC v = true) ∧ (∀ i, i < vs.length → (c.get (off + i)).isSome = true) ∧
    ∀ j, c'.get j = if off ≤ j ∧ j < off + vs.length then vs[j - off]? else c.get j := by
  intro vs
  induction vs with
  | nil => intro off c c' h; simp only [storeN, Option.some.injEq] at h; subst h
           exact ⟨by simp, by simp, fun j => by rw [if_neg (by simp only [List.length_nil]; omega)]⟩
  | cons v vs ih =>
    intro off c c' h
    simp only [storeN] at h
    cases ho : oneC v with
    | false => rw [ho] at h; cases h
    | true =>
      rw [ho] at h
      cases hc : c.get off with
      | none => simp only [hc] at h; cases h
      | some u =>
        simp only [hc] at h
        obtain ⟨h1, h2, h3⟩ := ih _ _ _ h
        refine ⟨fun x hx => ?_, fun i hi => ?_, fun j => ?_⟩
        · rcases List.mem_cons.1 hx with rfl | hx
          · exact ho
          · exact h1 x hx
        · cases i with
          | zero => simp [hc]
          | succ i =>
            have := h2 i (by simpa using hi)
            rw [Tr.get_set, if_neg (by omega)] at this
            rw [show off + (i + 1) = off.succ + i from by omega]
            exact this
        · rw [h3, Tr.get_set]
          by_cases e : off = j
          · subst e
            rw [if_neg (by omega), if_pos rfl, if_pos (by simp)]
            simp
          · by_cases h4 : off ≤ j ∧ j < off + (v :: vs).length
            · rw [if_pos (by simp at h4; omega), if_pos h4]
              obtain ⟨d, rfl⟩ : ∃ d, j = off + (d + 1) := ⟨j - off - 1, by omega⟩
              rw [show off + (d + 1) - off.succ = d from by omega, show off + (d + 1) - off = d + 1 from by omega]
              simp
            · rw [if_neg (by simp at h4 ⊢; omega), if_neg e, if_neg h4]

section
variable {B : Nat} {ρ : Ren} {h : Hs} {w : World}

/-- a cell that the evaluator has lies in the model -/
theorem HR.cell (R : HR B ρ h w) {id off : Nat} {v : Value} (hc : blkCell off (h.hp.get id) = some v) :
    ∃ H v', ρ id = some H ∧ w.cell? ⟨H.blk, H.off + off, none⟩ = some v' ∧ VR ρ v v' := by
  cases hb : h.hp.get id with
  | none => rw [hb] at hc; cases hc
  | some b =>
    rw [hb] at hc
    cases b with
    | mp => cases hc
    | it => cases hc
    | lp => cases hc
    | row c n e u rw_ fl =>
      obtain ⟨H, arr, fz, he, hu, hh, hs, hcc, _, _⟩ := R.has id _ hb
      obtain ⟨v', h1, h2⟩ := hcc off v hc
      exact ⟨H, v', he, by rw [cell_of_row w H.blk (H.off + off) arr e fz hh]; exact h1, h2⟩
theorem add_block (b o j : Nat) : (⟨b, o, none⟩ : Addr).add j = ⟨b, o + j, none⟩ := by unfold Addr.add; split <;> simp_all
theorem HR.cells (R : HR B ρ h w) {id off n : Nat} {vs : List Value} (hc : blkCells n off (h.hp.get id) = some vs) :
    ∃ H ys, ρ id = some H ∧ VL ρ vs ys ∧ vs.length = n ∧ ∀ j y, ys[j]? = some y → w.cell? ((⟨H.blk, H.off + off, none⟩ : Addr).add j) = some y := by
  cases hb : h.hp.get id with
  | none => rw [hb] at hc; cases hc
  | some b =>
    rw [hb] at hc
    cases b with
    | mp => cases hc
    | it => cases hc
    | lp => cases hc
    | row c m e u rw_ fl =>
      obtain ⟨hl, hg⟩ := loadN_nil (show loadN c n off [] = some vs from hc)
      obtain ⟨H, arr, fz, he, hu, hh, hs, hcc, _⟩ := R.has id _ hb
      have key : ∀ i, i < vs.length → ∃ v', arr[H.off + (off + i)]? = some v' ∧ VR ρ (vs.getD i default) v' := fun i hi => by
        have := hcc (off + i) (vs[i]) (hg i _ (List.getElem?_eq_getElem hi))
        simpa [List.getD_eq_getElem?_getD, List.getElem?_eq_getElem hi] using this
      refine ⟨H, (List.range vs.length).map fun i => (arr[H.off + (off + i)]?).getD default, he, ⟨by simp, fun i x y hx hy => ?_⟩, hl, fun j y hy => ?_⟩
      · have hi : i < vs.length := (List.getElem?_eq_some_iff.1 hx).1
        obtain ⟨v', h1, h2⟩ := key i hi
        simp [hi, h1] at hy
        subst hy
        rw [List.getElem?_eq_getElem hi] at hx
        injection hx with hx
        subst hx
        simpa [List.getD_eq_getElem?_getD, List.getElem?_eq_getElem hi] using h2
      · have hj : j < vs.length := by
          have := (List.getElem?_eq_some_iff.1 hy).1
          simpa using this
        obtain ⟨v', h1, h2⟩ := key j hj
        simp [hj, h1] at hy
        subst hy
        rw [add_block, cell_of_row w H.blk _ arr e fz hh, Nat.add_assoc]
        exact h1

theorem run_storeCells_atG (P : Program) (g o : Nat) (t : TypeId) (fz : Nat × Nat) : ∀ (vs : List Value) (i : Nat) (cur : Array Value) (w : World), w.heap[g]? = some (.cells cur t fz) → (fz = (0, 0) ∨ cur.size ≤ fz.1) → o + i + vs.length ≤ cur.size → (∀ v ∈ vs, v.oneCell' = true) →
    (storeCells ⟨g, o, none⟩ vs i).run P w = .ok () (w.setRow g (cur.toList.take (o + i) ++ vs ++ cur.toList.drop (o + i + vs.length)).toArray)
  | [], i, cur, w, hg, _, _, _ => by
    simp only [storeCells, List.append_nil, List.length_nil, Nat.add_zero, List.take_append_drop, Array.toArray_toList]
    rw [setRow_self w g cur t fz hg]
    rfl
  | v :: rest, i, cur, w, hg, hfz, hl, h1 => by
    have hi : o + i < cur.size := by simp at hl; omega
    have hadd : (⟨g, o, none⟩ : Addr).add i = ⟨g, o + i, none⟩ := by unfold Addr.add; split <;> simp_all
    have hcell : w.cell? ⟨g, o + i, none⟩ = some cur[o + i] := by simp [World.cell?, hg, hi]
    have hfro : w.frozen? ⟨g, o + i, none⟩ = false := by
      obtain ⟨lo, hi'⟩ := fz
      simp only [World.frozen?, hg, Bool.and_eq_false_iff, decide_eq_false_iff_not]
      rcases hfz with hfz | hfz
      · injection hfz with e1 e2
        right; omega
      · left
        simp only at hfz
        omega
    have hst : (store ((⟨g, o, none⟩ : Addr).add i) v).run P w = .ok () (w.setRow g (cur.setIfInBounds (o + i) v)) := by
      rw [hadd, run_store P w _ v _ (h1 v (by simp)), hcell]
      simp [hfro, setCell_eq_setRow w g (o + i) cur t fz v hg]
    have ih := run_storeCells_atG P g o t fz rest (i + 1) (cur.setIfInBounds (o + i) v) (w.setRow g (cur.setIfInBounds (o + i) v)) (setRow_heap w g cur _ t _ hg) (by simpa using hfz) (by simp at hl ⊢; omega) (fun x hx => h1 x (by simp [hx]))
    simp only [storeCells, Sem.run_bind, hst, Result.andThen_ok, ih, setRow_setRow]
    congr 3
    have e := list_seg_step cur.toList (o + i) v rest (by simp at hl ⊢; omega)
    simpa [Array.toList_setIfInBounds, Nat.add_assoc] using e

/-- one row's cells are others, in both memories -/
theorem step_set (R : HR B ρ h w) {id n e u : Nat} {fl fl' : Bool} {c c' : Tr Value} (hb : h.hp.get id = some (.row c n e u true fl))
    {H : Host} {arr arr' : Array Value} {fz : Nat × Nat} (he : ρ id = some H) (hh : w.heap[H.blk]? = some (.cells arr e fz)) (hs : arr'.size = arr.size)
    (hc : ∀ i v, c'.get i = some v → ∃ v', arr'[i]? = some v' ∧ VR ρ v v') (hd : ∀ i, (c'.get i).isSome = (c.get i).isSome) (hf : fl' = true → ∀ i v, c'.get i = some v → flat1 v = true) :
    St B ρ h w ρ ⟨h.hp.set id (some (.row c' n e u true fl')), h.nx, minN h.lo id⟩ (w.setRow H.blk arr') := by
  obtain ⟨H0, arr0, fz0, he0, hu, hh0, hs0, hc0, hr0, _⟩ := R.has id _ hb
  rw [he] at he0
  injection he0 with he0
  subst he0
  rw [hh] at hh0
  injection hh0 with hh0
  injection hh0 with e1 e2 e3
  subst e1
  subst e3
  obtain ⟨hfz, hoff, hB, hn, hiff⟩ := hr0 rfl
  have hlt : H.blk < w.heap.size := (Array.getElem?_eq_some_iff.1 hh).1
  have hget : ∀ j, (h.hp.set id (some (.row c' n e u true fl'))).get j = if id = j then some (.row c' n e u true fl') else h.hp.get j := fun j => Tr.get_set _ _ _ _
  have hrw : ∀ j b, (h.hp.set id (some (.row c' n e u true fl'))).get j = some b → ∃ b0, h.hp.get j = some b0 ∧ isRw b0 = isRw b ∧ (j ≠ id → b0 = b) := fun j b hj => by
    rw [hget] at hj
    split at hj
    · rename_i e'
      subst e'
      injection hj with hj
      subst hj
      exact ⟨_, hb, rfl, fun h => absurd rfl h⟩
    · exact ⟨b, hj, rfl, fun _ => rfl⟩
  have hfar : ∀ k, k ≠ H.blk → (w.setRow H.blk arr').heap[k]? = w.heap[k]? := fun k hk => setRow_other w H.blk k arr' hk
  refine ⟨⟨by simpa using R.base, R.dom, fun j b hj => ?_, fun j j' b b' K K' hj hj' hne hrb ek ek' => ?_⟩, Nat.le_refl _, Ren.le_refl _, fun _ _ => rfl, ?_, by simp, minN_le_left _ _, fun j b hj hl => ?_, fun j b hj hjlt => ?_, fun j b hj hge => (by obtain ⟨b0, hb0, _, _⟩ := hrw j b hj; have := R.lt hb0; omega), fun k hk hno => ?_, fun j K hj e' => ?_⟩
  · obtain ⟨b0, hb0, hr, hsame⟩ := hrw j b hj
    by_cases hji : j = id
    · subst hji
      rw [hget, if_pos rfl] at hj
      injection hj with hj
      subst hj
      refine ⟨H, arr', fz, he, hu, setRow_heap w H.blk arr arr' e fz hh, by omega, fun i v hv => ?_, fun _ => ⟨by rw [hs]; exact hfz, hoff, hB, by omega, fun i => by rw [hd]; exact hiff i⟩, hf⟩
      rw [hoff, Nat.zero_add]
      exact hc i v hv
    · have := hsame hji
      subst this
      refine (R.has j b0 hb0).mono (Ren.le_refl _) (fun K ek => hfar _ (fun e' => ?_))
      exact R.inj id j _ _ H K hb hb0 (fun h => hji h.symm) rfl he ek e'.symm
  · obtain ⟨b0, hb0, hr, _⟩ := hrw j b hj
    obtain ⟨b0', hb0', _, _⟩ := hrw j' b' hj'
    exact R.inj j j' b0 b0' K K' hb0 hb0' hne (hr.trans hrb) ek ek'
  · refine ⟨rfl, rfl, rfl, by simp, fun k hk => hfar k (by omega)⟩
  · have hji : j ≠ id := fun e' => by subst e'; have := minN_le_right h.lo j; simp only at hl; omega
    show (h.hp.set id _).get j = _
    rw [hget, if_neg (fun e' => hji e'.symm)]
    exact hj
  · obtain ⟨b0, hb0, hr, hsame⟩ := hrw j b hj
    refine ⟨b0, hb0, hr, fun hl => hsame (fun e' => ?_)⟩
    subst e'
    have := minN_le_right h.lo j
    simp only at hl; omega
  · refine hfar k (fun e' => ?_)
    exact hno id _ H hb rfl he (minN_le_right _ _) e'.symm
  · rw [R.dom j hj] at e'; cases e'

theorem setRow_cell (w : World) (k : Nat) (c : Array Value) (x : Nat) (_ : x = k) : (w.setRow k c).heap.size = w.heap.size := by simp

/-- a store -/
theorem step_store (P : Program) (R : HR B ρ h w) {id off : Nat} {vs ys : List Value} {h' : Hs} (hst : storeB h id off vs (h.hp.get id) = some h') (hvs : VL ρ vs ys) :
    ∃ H w', ρ id = some H ∧ (storeCells ⟨H.blk, H.off + off, none⟩ ys 0).run P w = .ok () w' ∧ St B ρ h w ρ h' w' := by
  cases hb : h.hp.get id with
  | none => rw [hb] at hst; cases hst
  | some b =>
    rw [hb] at hst
    cases b with
    | mp => cases hst
    | it => cases hst
    | lp => cases hst
    | row c n e u rw_ fl =>
      cases rw_ with
      | false => cases hst
      | true =>
        have hne : vs ≠ [] := by rintro rfl; simp [storeB] at hst
        have hst : setRow h id n e u (andB fl (flatL vs)) (storeN vs off c) = some h' := by
          cases vs with
          | nil => exact absurd rfl hne
          | cons v ws => exact hst
        cases hsn : storeN vs off c with
        | none => rw [hsn] at hst; cases hst
        | some c' =>
          rw [hsn] at hst
          simp only [setRow, Option.some.injEq] at hst
          subst hst
          obtain ⟨h1, h2, h3⟩ := storeN_spec vs off c c' hsn
          obtain ⟨H, arr, fz, he, hu, hh, hs, hcc, hr, hfl⟩ := R.has id _ hb
          obtain ⟨hfz, hoff, hB, hn, hiff⟩ := hr rfl
          have hfit : off + vs.length ≤ arr.size := by
            have hz : 0 < vs.length := List.length_pos_iff.2 hne
            have := (hiff _).1 (h2 (vs.length - 1) (by omega))
            omega
          have hy1 : ∀ y ∈ ys, y.oneCell' = true := fun y hy => by
            obtain ⟨i, hi, rfl⟩ := List.getElem_of_mem hy
            have hi' : i < vs.length := by rw [hvs.1]; exact hi
            exact (hvs.2 i _ _ (List.getElem?_eq_getElem hi') (List.getElem?_eq_getElem hi)).oneC (h1 _ (List.getElem_mem hi'))
          have hrun := run_storeCells_atG P H.blk off e fz ys 0 arr w hh (by
            rcases hfz with rfl | ⟨_, hfz⟩
            · exact .inl rfl
            · exact .inr hfz) (by rw [← hvs.1]; simpa using hfit) hy1
          refine ⟨H, _, he, ?_, step_set (arr' := (arr.toList.take (off + 0) ++ ys ++ arr.toList.drop (off + 0 + ys.length)).toArray) R hb he hh ?_ ?_ ?_ ?_⟩
          · rw [hoff, Nat.zero_add]; exact hrun
          · have := hvs.1
            simp only [Nat.add_zero, List.size_toArray, List.length_append, List.length_take, List.length_drop, Array.length_toList]
            omega
          · intro i v hv
            rw [h3] at hv
            have hlen := hvs.1
            simp only [Nat.add_zero]
            by_cases hin : off ≤ i ∧ i < off + vs.length
            · rw [if_pos hin] at hv
              have hi2 : i - off < ys.length := by omega
              refine ⟨ys[i - off], ?_, hvs.2 (i - off) v _ hv (List.getElem?_eq_getElem hi2)⟩
              have : ((arr.toList.take off ++ ys) ++ arr.toList.drop (off + ys.length))[i]? = some ys[i - off] := by
                rw [List.getElem?_append_left (by simp; omega), List.getElem?_append_right (by simp; omega)]
                have : i - (List.take off arr.toList).length = i - off := by simp; omega
                rw [this]
                exact List.getElem?_eq_getElem hi2
              simpa using this
            · rw [if_neg hin] at hv
              obtain ⟨v', hv1, hv2⟩ := hcc i v hv
              rw [hoff, Nat.zero_add] at hv1
              refine ⟨v', ?_, hv2⟩
              have : ((arr.toList.take off ++ ys) ++ arr.toList.drop (off + ys.length))[i]? = arr.toList[i]? := by
                by_cases hlt : i < off
                · rw [List.getElem?_append_left (by simp; omega), List.getElem?_append_left (by simp; omega), List.getElem?_take, if_pos hlt]
                · rw [List.getElem?_append_right (by simp; omega)]
                  have : i - (List.take off arr.toList ++ ys).length = i - (off + ys.length) := by simp; omega
                  rw [this, List.getElem?_drop]
                  congr 1
                  omega
              simpa [hv1] using this
          · intro i
            rw [h3]
            by_cases hin : off ≤ i ∧ i < off + vs.length
            · rw [if_pos hin]
              have := h2 (i - off) (by omega)
              rw [show off + (i - off) = i from by omega] at this
              rw [this]
              have hi2 : i - off < vs.length := by omega
              simp [List.getElem?_eq_getElem hi2]
            · rw [if_neg hin]
          · intro hfl2 i v hv
            rw [h3] at hv
            cases hq : fl with
            | false => rw [hq] at hfl2; cases hfl2
            | true =>
              rw [hq] at hfl2
              by_cases hin : off ≤ i ∧ i < off + vs.length
              · rw [if_pos hin] at hv
                exact flatL_mem hfl2 _ (List.mem_of_getElem? hv)
              · rw [if_neg hin] at hv
                exact hfl hq i v hv
end
end Go.Gev

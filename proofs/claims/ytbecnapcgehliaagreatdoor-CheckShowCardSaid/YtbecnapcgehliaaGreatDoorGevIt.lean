/- Walks over maps, ranges over functions: the blocks of the evaluator's memory that they turn. -/
import Derived.Test.YtbecnapcgehliaaGreatDoorGevX4
import Derived.Maps.RangeRun
namespace Go.Gev
open Go.RowKit

/-- a block that is another: the model's block, too -/
theorem step_put {B : Nat} {ρ : Ren} {h : Hs} {w : World} (R : HR B ρ h w) {id : Nat} {b b2 : Blk} (hb : h.hp.get id = some b) (hrw1 : isRw b = true) (hrw2 : isRw b2 = true) {H : Host} (he : ρ id = some H) (hB : B ≤ H.blk) (o : Obj)
    (hbr : BR B ρ { w with heap := w.heap.setIfInBounds H.blk o } id b2) :
    St B ρ h w ρ ⟨h.hp.set id (some b2), h.nx, minN h.lo id⟩ { w with heap := w.heap.setIfInBounds H.blk o } := by
  have hget : ∀ j, (h.hp.set id (some b2)).get j = if id = j then some b2 else h.hp.get j := fun j => Tr.get_set _ _ _ _
  have hrw : ∀ j b', (h.hp.set id (some b2)).get j = some b' → ∃ b0, h.hp.get j = some b0 ∧ isRw b0 = isRw b' ∧ (j ≠ id → b0 = b') := fun j b' hj => by
    rw [hget] at hj
    split at hj
    · rename_i e'
      subst e'
      injection hj with hj
      subst hj
      exact ⟨_, hb, hrw1.trans hrw2.symm, fun h => absurd rfl h⟩
    · exact ⟨b', hj, rfl, fun _ => rfl⟩
  have hfar : ∀ k, k ≠ H.blk → (w.heap.setIfInBounds H.blk o)[k]? = w.heap[k]? := fun k hk => by
    rw [Array.getElem?_setIfInBounds, if_neg (fun e => hk e.symm)]
  refine ⟨⟨by simpa using R.base, R.dom, fun j b' hj => ?_, fun j j' b' b'' K K' hj hj' hne hrb ek ek' => ?_⟩, Nat.le_refl _, Ren.le_refl _, fun _ _ => rfl, ⟨rfl, rfl, rfl, by simp, fun k hk => hfar k (by omega)⟩, by simp, minN_le_left _ _, fun j b' hj hl => ?_, fun j b' hj hjlt => ?_, fun j b' hj hge => (by obtain ⟨b0, hb0, _, _⟩ := hrw j b' hj; have := R.lt hb0; omega), fun k hk hno => ?_, fun j K hj e' => ?_⟩
  · obtain ⟨b0, hb0, hr, hsame⟩ := hrw j b' hj
    by_cases hji : j = id
    · subst hji
      rw [hget, if_pos rfl] at hj
      injection hj with hj
      subst hj
      exact hbr
    · have := hsame hji
      subst this
      refine (R.has j b0 hb0).mono (Ren.le_refl _) (fun K ek => hfar _ (fun e' => ?_))
      exact R.inj id j _ _ H K hb hb0 (fun h => hji h.symm) hrw1 he ek e'.symm
  · obtain ⟨b0, hb0, hr, _⟩ := hrw j b' hj
    obtain ⟨b0', hb0', _, _⟩ := hrw j' b'' hj'
    exact R.inj j j' b0 b0' K K' hb0 hb0' hne (hr.trans hrb) ek ek'
  · have hji : j ≠ id := fun e' => by subst e'; have := minN_le_right h.lo j; simp only at hl; omega
    show (h.hp.set id _).get j = _
    rw [hget, if_neg (fun e' => hji e'.symm)]
    exact hj
  · obtain ⟨b0, hb0, hr, hsame⟩ := hrw j b' hj
    refine ⟨b0, hb0, hr, fun hl => hsame (fun e' => ?_)⟩
    subst e'
    have := minN_le_right h.lo j
    simp only at hl; omega
  · refine hfar k (fun e' => ?_)
    exact hno id _ H hb hrw1 he (minN_le_right _ _) e'.symm
  · rw [R.dom j hj] at e'; cases e'

/-- a block that the evaluator lets go -/
theorem step_del {B : Nat} {ρ : Ren} {h : Hs} {w : World} (R : HR B ρ h w) {id : Nat} {b : Blk} (hb : h.hp.get id = some b) (hrw1 : isRw b = true) {H : Host} (he : ρ id = some H) (hB : B ≤ H.blk) (o : Obj) :
    St B ρ h w ρ ⟨h.hp.set id none, h.nx, minN h.lo id⟩ { w with heap := w.heap.setIfInBounds H.blk o } := by
  have hget : ∀ j, (h.hp.set id none).get j = if id = j then none else h.hp.get j := fun j => Tr.get_set _ _ _ _
  have hrw : ∀ j b', (h.hp.set id none).get j = some b' → j ≠ id ∧ h.hp.get j = some b' := fun j b' hj => by
    rw [hget] at hj
    split at hj
    · cases hj
    · rename_i e'
      exact ⟨fun q => e' q.symm, hj⟩
  have hfar : ∀ k, k ≠ H.blk → (w.heap.setIfInBounds H.blk o)[k]? = w.heap[k]? := fun k hk => by
    rw [Array.getElem?_setIfInBounds, if_neg (fun e => hk e.symm)]
  refine ⟨⟨by simpa using R.base, R.dom, fun j b' hj => ?_, fun j j' b' b'' K K' hj hj' hne hrb ek ek' => ?_⟩, Nat.le_refl _, Ren.le_refl _, fun _ _ => rfl, ⟨rfl, rfl, rfl, by simp, fun k hk => hfar k (by omega)⟩, by simp, minN_le_left _ _, fun j b' hj hl => ?_, fun j b' hj hjlt => ?_, fun j b' hj hge => (by obtain ⟨_, hb0⟩ := hrw j b' hj; have := R.lt hb0; omega), fun k hk hno => ?_, fun j K hj e' => ?_⟩
  · obtain ⟨hji, hb0⟩ := hrw j b' hj
    refine (R.has j b' hb0).mono (Ren.le_refl _) (fun K ek => hfar _ (fun e' => ?_))
    exact R.inj id j _ _ H K hb hb0 (fun h => hji h.symm) hrw1 he ek e'.symm
  · exact R.inj j j' b' b'' K K' (hrw j b' hj).2 (hrw j' b'' hj').2 hne hrb ek ek'
  · have hji : j ≠ id := fun e' => by subst e'; have := minN_le_right h.lo j; simp only at hl; omega
    show (h.hp.set id _).get j = _
    rw [hget, if_neg (fun e' => hji e'.symm)]
    exact hj
  · exact ⟨b', (hrw j b' hj).2, rfl, fun _ => rfl⟩
  · refine hfar k (fun e' => ?_)
    exact hno id _ H hb hrw1 he (minN_le_right _ _) e'.symm
  · rw [R.dom j hj] at e'; cases e'

/-- a new block, somewhere behind what was there -/
theorem step_add {B : Nat} {ρ : Ren} {h : Hs} {w w' : World} (R : HR B ρ h w) {b2 : Blk} (hrw2 : isRw b2 = true) {H : Host} (hH : w.heap.size ≤ H.blk) (hHl : H.blk < w'.heap.size) (hbl : Below w.heap.size w w')
    (hbr : BR B (ρ.add h.nx H) w' h.nx b2) :
    St B ρ h w (ρ.add h.nx H) ⟨h.hp.set h.nx (some b2), Nat.succ h.nx, h.lo⟩ w' := by
  have hnx : ρ h.nx = none := R.dom _ (Nat.le_refl _)
  have hle := Ren.le_add H hnx
  have hget : ∀ j, (h.hp.set h.nx (some b2)).get j = if h.nx = j then some b2 else h.hp.get j := fun j => Tr.get_set _ _ _ _
  have hold : ∀ j b, (h.hp.set h.nx (some b2)).get j = some b → j ≠ h.nx → h.hp.get j = some b := fun j b hj hne => by
    rw [hget, if_neg (fun e => hne e.symm)] at hj; exact hj
  have hlt : ∀ j b, h.hp.get j = some b → ∀ L, ρ j = some L → L.blk < w.heap.size := fun j b hj L hL => by
    obtain ⟨L', e1, e2⟩ := (R.has j b hj).host_lt
    rw [hL] at e1; injection e1 with e1; subst e1; exact e2
  have hfar : ∀ k, k < w.heap.size → w'.heap[k]? = w.heap[k]? := fun k hk => hbl.block k hk
  refine ⟨⟨by have := R.base; omega, fun j hj => ?_, fun j b hj => ?_, fun j j' b b' L L' hj hj' hne hr eL eL' => ?_⟩, Nat.le_succ _, hle, fun j hj => Ren.add_other _ _ (by omega), hbl.mono R.base, by omega, Nat.le_refl _,
    fun j b hj hl => ?_, fun j b hj hjlt => ?_, fun j b hj hge => ?_, fun k hk hno => hfar k hk, fun j L hj eL => ?_⟩
  · have hj' : h.nx + 1 ≤ j := hj
    rw [Ren.add_other _ _ (by omega)]
    exact R.dom j (by omega)
  · by_cases hjn : j = h.nx
    · subst hjn
      rw [hget, if_pos rfl] at hj
      injection hj with hj
      subst hj
      exact hbr
    · exact (R.has j b (hold j b hj hjn)).mono hle (fun L eL => hfar _ (hlt j b (hold j b hj hjn) L eL))
  · by_cases e1 : j = h.nx
    · subst e1
      have h1 := hold j' b' hj' (fun e => hne e.symm)
      rw [Ren.add_same] at eL
      injection eL with eL
      subst eL
      rw [Ren.add_other _ _ (fun e => hne e.symm)] at eL'
      have := hlt j' b' h1 L' eL'
      omega
    · have h1 := hold j b hj e1
      rw [Ren.add_other _ _ e1] at eL
      by_cases e2 : j' = h.nx
      · subst e2
        rw [Ren.add_same] at eL'
        injection eL' with eL'
        subst eL'
        have := hlt j b h1 L eL
        omega
      · rw [Ren.add_other _ _ e2] at eL'
        exact R.inj j j' b b' L L' h1 (hold j' b' hj' e2) hne hr eL eL'
  · show (h.hp.set h.nx _).get j = _
    have := R.lt hj
    rw [hget, if_neg (by omega)]
    exact hj
  · exact ⟨b, hold j b hj (by omega), rfl, fun _ => rfl⟩
  · by_cases e1 : j = h.nx
    · subst e1
      replace hj : (h.hp.set h.nx (some b2)).get h.nx = some b := hj
      rw [hget, if_pos rfl] at hj
      injection hj with hj; subst hj; exact hrw2
    · have := R.lt (hold j b hj e1); omega
  · by_cases e1 : j = h.nx
    · subst e1
      rw [Ren.add_same] at eL
      injection eL with eL
      subst eL
      exact .inl hH
    · rw [Ren.add_other _ _ e1] at eL
      rw [R.dom j hj] at eL; cases eL

/-! ### a walk over a map begins; its entry -/
section
variable {P : Program} {cx : Cx} {o : Oper}
theorem step_inew {B : Nat} {ρ : Ren} {h : Hs} {w : World} (R : HR B ρ h w) {m : Option Nat} {s l : Nat} {m' : Option Nat} (hm : (m = none ∧ m' = none) ∨ ∃ k Hm, m = some k ∧ ρ k = some Hm ∧ m' = some Hm.blk) :
    St B ρ h w (ρ.add h.nx ⟨w.heap.size, 0, 0, 0, none⟩) ⟨h.hp.set h.nx (some (.it m s [] l)), Nat.succ h.nx, h.lo⟩ (w.alloc (.mapIter m' s #[] l)) := by
  have hsz : (w.alloc (.mapIter m' s #[] l)).heap.size = w.heap.size + 1 := by show (w.heap.push _).size = _; simp
  have hat : (w.alloc (.mapIter m' s #[] l)).heap[w.heap.size]? = some (.mapIter m' s #[] l) := heap_alloc_new w _
  refine step_add (b2 := .it m s [] l) R rfl (Nat.le_refl _) (by rw [hsz]; show w.heap.size < _; omega) ((Below.refl _ w).alloc (Nat.le_refl _) _) ?_
  refine ⟨_, Ren.add_same _ _ _, ⟨R.base, rfl⟩, ?_⟩
  rcases hm with ⟨rfl, rfl⟩ | ⟨k, Hm, rfl, hk, rfl⟩
  · exact .inl ⟨rfl, hat⟩
  · refine .inr ⟨k, Hm, rfl, ?_, hat⟩
    rw [Ren.add_other _ _ (fun e => by subst e; rw [R.dom _ (Nat.le_refl _)] at hk; cases hk)]
    exact hk

theorem snd_range {t kt et : TypeId} {x : Operand} {x' : GX} (ho : o.op = .range t x) (ht : P.underlying t = some (.map kt et)) (hx : gx cx x = some x') : Snd P cx o (oRange x') := by
  intro B ρ en h w a v h' E R eg
  have hv := gx_VR E hx
  simp only [oRange] at eg
  generalize hq : a.eval x = u at hv
  generalize ev en x' = y at hv eg
  cases hv with
  | nilmap =>
    simp only [range1, Option.some.injEq, Prod.mk.injEq] at eg
    obtain ⟨rfl, rfl⟩ := eg
    refine ⟨.pointer (some ⟨w.heap.size, 0, none⟩), w.alloc (.mapIter none 0 #[] 0), _, .inl ?_, .ptr h.nx 0 ⟨w.heap.size, 0, 0, 0, none⟩ (Ren.add_same _ _ _), step_inew R (.inl ⟨rfl, rfl⟩)⟩
    simp only [execOp, ho, hq, Sem.run_bind, run_range_nilMap w t kt et ht, Result.andThen_ok, Sem.run_pure]
  | map id H hH =>
    simp only [range1] at eg
    cases hb : h.hp.get id with
    | none => rw [hb] at eg; cases eg
    | some blk =>
      rw [hb] at eg
      cases blk with
      | mp es cl =>
        simp only [range2, Option.some.injEq, Prod.mk.injEq] at eg
        obtain ⟨rfl, rfl⟩ := eg
        obtain ⟨H0, es', he0, hB, hh, hme⟩ := R.has id _ hb
        rw [hH] at he0
        injection he0 with he0
        subst he0
        refine ⟨.pointer (some ⟨w.heap.size, 0, none⟩), w.alloc (.mapIter (some H.blk) cl #[] cl), _, .inl ?_, .ptr h.nx 0 ⟨w.heap.size, 0, 0, 0, none⟩ (Ren.add_same _ _ _), step_inew R (.inr ⟨id, H, rfl, hH, rfl⟩)⟩
        simp only [execOp, ho, hq, Sem.run_bind, run_range_map w t kt et H.blk es' cl ht hh, Result.andThen_ok, Sem.run_pure]
      | _ => cases eg
  | _ => cases eg

/-- the entry with a stamp -/
theorem findE_ME {ρ : Ren} {s : Nat} {e : MapEntry} : ∀ {es es' : List MapEntry}, ME ρ es es' → findE s es = some e → ∃ e', es'.find? (fun x => x.born == s) = some e' ∧ e'.key = e.key ∧ VR ρ e.val e'.val := by
  intro es es' m
  induction m with
  | nil => intro h; cases h
  | @cons a a' as as' hk hb hv _ ih =>
    intro h
    simp only [findE] at h
    cases hq : Nat.beq a.born s with
    | true =>
      rw [hq] at h
      injection h with h
      subst h
      refine ⟨a', ?_, hk, hv⟩
      have : (a'.born == s) = true := by rw [hb, Nat.eq_of_beq_eq_true hq]; simp
      rw [List.find?_cons, this]
    | false =>
      rw [hq] at h
      obtain ⟨e', h1, h2⟩ := ih h
      refine ⟨e', ?_, h2⟩
      have : (a'.born == s) = false := by rw [hb]; simpa using beq_false.1 hq
      rw [List.find?_cons, this]
      exact h1
theorem lastN_back : ∀ {l : List Nat} {s : Nat}, lastN l = some s → l.toArray.back? = some s := by
  intro l s h
  have : l.getLast? = some s := by
    induction l with
    | nil => cases h
    | cons a l ih =>
      cases l with
      | nil => simpa [lastN] using h
      | cons b l => rw [List.getLast?_cons_cons]; exact ih h
  simpa using this
theorem okC_VR' {ρ : Ren} {v : Value} (h : keyC v = true) : VR ρ v v := by
  cases v <;> first | exact .int _ _ | exact .string _ | exact .bool _ | cases h
theorem snd_entry {x : Operand} {x' : GX} (ho : o.op = .entry x) (hx : gx cx x = some x') : Snd P cx o (oEntry x') :=
  snd_still fun B ρ en h w a v h' E R eg => by
    have hv := gx_VR E hx
    obtain ⟨e1, rfl⟩ := ret1_some (show ret1 h (entry1 h (ev en x')) = _ from eg)
    refine ⟨rfl, ?_⟩
    generalize hq : a.eval x = u at hv
    generalize ev en x' = y at hv e1
    cases hv with
    | ptr id off H hH =>
      simp only [entry1] at e1
      cases off with
      | succ n => cases e1
      | zero =>
      cases hb : h'.hp.get id with
      | none => simp only [hb] at e1; cases e1
      | some blk =>
        simp only [hb] at e1
        cases blk with
        | it m si se la =>
          cases m with
          | none => cases e1
          | some k =>
            simp only [entry2] at e1
            cases hbk : h'.hp.get k with
            | none => rw [hbk] at e1; cases e1
            | some blk =>
              rw [hbk] at e1
              cases blk with
              | mp es cl =>
                cases hcl : Nat.beq cl la with
                | false => simp only [entry3, hcl] at e1; cases e1
                | true =>
                  simp only [entry3, hcl] at e1
                  cases hB2 : isBig es with
                  | true => simp only [hB2] at e1; cases e1
                  | false =>
                  simp only [hB2] at e1
                  cases hl : lastN se with
                  | none => rw [hl] at e1; cases e1
                  | some s =>
                    simp only [hl] at e1
                    cases hf : findE s es with
                    | none => simp only [hf, entry4] at e1; cases e1
                    | some e =>
                      rw [hf] at e1
                      simp only [entry4] at e1
                      cases hkc : keyC e.key with
                      | false => rw [hkc] at e1; cases e1
                      | true =>
                        rw [hkc] at e1
                        injection e1 with e1
                        subst e1
                        obtain ⟨H0, he0, hB, hcase⟩ := R.has id _ hb
                        rw [hH] at he0
                        injection he0 with he0
                        subst he0
                        obtain ⟨Hm, es', hm0, hBm, hhm, hme⟩ := R.has k _ hbk
                        rcases hcase with ⟨hm, _⟩ | ⟨k', Hm', hm, hk', hit⟩
                        · cases hm
                        · injection hm with hm
                          subst hm
                          rw [hm0] at hk'
                          injection hk' with hk'
                          subst hk'
                          obtain ⟨e', q1, q2, q3⟩ := findE_ME (hme.me hB2) hf
                          have hcl := Nat.eq_of_beq_eq_true hcl
                          subst hcl
                          have hoff : H.off = 0 := hB.2
                          refine ⟨.tuple #[e'.key, e'.val], ?_, VR.tuple_of (xs := [e.key, e.val]) (ys := [e'.key, e'.val]) (.cons (by rw [q2]; exact okC_VR' hkc) (.cons q3 .nil))⟩
                          have hfa : es'.find? (fun x => x.born == s) = some e' := by rw [← Array.find?_toList]; exact q1
                          have hent : (Instr.entry (.pointer (some ⟨H.blk, 0, none⟩))).run P w = .ok (.tuple #[e'.key, e'.val]) w := by
                            simp only [Instr.entry, getObj, Sem.run_bind, Sem.run, hit, hhm, Result.andThen, lastN_back hl, bne_self_eq_false, Bool.false_eq_true, if_false, hfa]
                            rfl
                          simp only [execOp, ho, hq, hoff, Nat.add_zero, Sem.run_bind, hent, Result.andThen_ok, Sem.run_pure]
              | _ => cases e1
        | _ => cases e1
    | _ => cases e1
end

/-! ### an array of a block, as a slice -/
section
variable {P : Program} {cx : Cx} {o : Oper}
theorem snd_slArr {t e : TypeId} {n u : Nat} {x : Operand} {x' : GX} (ho : o.op = .slice t x none none none) (ht : P.underlying t = some (.array n e)) (hu : sizeOfT P e = some u) (hn : ¬ (n = 0 ∨ 1000000 < n)) (hx : gx cx x = some x') : Snd P cx o (oSlArr n x') :=
  snd_still fun B ρ en h w a v h' E R e0 => by
    have hv := gx_VR E hx
    obtain ⟨e1, rfl⟩ := ret1_some (show ret1 h (slArr1 n h (addrOf (ev en x'))) = _ from e0)
    refine ⟨rfl, ?_⟩
    cases hp : addrOf (ev en x') with
    | none => rw [hp] at e1; cases e1
    | some p =>
      rw [hp] at e1
      obtain ⟨H, hH, _, hq⟩ := addrOf_VR hv hp
      have e1 : slArr2 n p.1 p.2 (h'.hp.get p.1) = some v := e1
      cases hb : h'.hp.get p.1 with
      | none => rw [hb] at e1; cases e1
      | some blk =>
        rw [hb] at e1
        cases blk with
        | row c m e2 uu rw_ fl =>
          have e1 : slArr3 n p.1 p.2 uu = some v := e1
          cases uu with
          | succ k => cases e1
          | zero =>
            simp only [slArr3, Option.some.injEq] at e1
            subst e1
            obtain ⟨H', arr, fz, q1, q2, _⟩ := R.has p.1 _ hb
            rw [hH] at q1
            injection q1 with q1
            subst q1
            have hml : n ≤ maxLen := by unfold maxLen; omega
            refine ⟨.slice (some ⟨H.blk, H.off + p.2, none⟩) n n, ?_, .slice p.1 p.2 n n n H hH (Nat.le_refl _) (Nat.le_refl _) hml (.inl q2)⟩
            simp [execOp, ho, hq, Instr.sliceAt, under_run ht, size_run hu, Instr.sliceBounds, Instr.sureAddr, Addr.add]
        | _ => cases e1
end
end Go.Gev

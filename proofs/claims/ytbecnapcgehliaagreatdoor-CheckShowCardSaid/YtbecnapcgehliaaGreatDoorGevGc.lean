/- Behind a call that turned nothing old: what it answers is moved to the first free numbers. -/
import Derived.Test.YtbecnapcgehliaaGreatDoorGevX5
namespace Go.Gev
open Go.RowKit

section
variable {B : Nat} {ρ ρ1 : Ren} {h0 h1 : Hs} {w w' : World}

/-- what has been moved so far. ρ, h0: ahead of the call; ρ1, h1: behind it -/
structure MvOk (ρ ρ1 : Ren) (h0 h1 : Hs) (m : Mv) (ρm : Ren) : Prop where
  nx : h0.nx ≤ m.nx
  old : ∀ id, id < h0.nx → ρm id = ρ id ∧ m.hp.get id = h0.hp.get id
  none_ : ∀ id, m.nx ≤ id → ρm id = none
  new : ∀ d b, h0.nx ≤ d → m.hp.get d = some b → ∃ s c n e u fl0, (s, d) ∈ m.mp ∧ h0.nx ≤ s ∧ d < m.nx ∧ ρm d = ρ1 s ∧ b = .row c n e u true true ∧ h1.hp.get s = some (.row c n e u fl0 true) ∧ fl0 = true
  mps : ∀ s d, (s, d) ∈ m.mp → h0.nx ≤ d ∧ d < m.nx ∧ ρm d = ρ1 s ∧ h0.nx ≤ s
  all : ∀ d, h0.nx ≤ d → d < m.nx → ∃ s, (s, d) ∈ m.mp
  inj : ∀ s d s' d', (s, d) ∈ m.mp → (s', d') ∈ m.mp → s = s' → d = d'
  inj2 : ∀ s d s' d', (s, d) ∈ m.mp → (s', d') ∈ m.mp → d = d' → s = s'

theorem lookN_mem {k d : Nat} : ∀ {l : List (Nat × Nat)}, lookN k l = some d → (k, d) ∈ l := by
  intro l
  induction l with
  | nil => intro h; cases h
  | cons p l ih =>
    intro h
    simp only [lookN] at h
    cases hb : Nat.beq p.1 k with
    | true =>
      rw [hb] at h
      injection h with h
      have := Nat.eq_of_beq_eq_true hb
      obtain ⟨a, b⟩ := p
      simp only at this h
      subst this; subst h
      exact List.mem_cons_self
    | false => rw [hb] at h; exact List.mem_cons_of_mem _ (ih h)
theorem lookN_none {k : Nat} : ∀ {l : List (Nat × Nat)}, lookN k l = none → ∀ d, (k, d) ∉ l := by
  intro l
  induction l with
  | nil => intro _ d hd; simp at hd
  | cons p l ih =>
    intro h d hd
    simp only [lookN] at h
    cases hb : Nat.beq p.1 k with
    | true => rw [hb] at h; cases h
    | false =>
      rw [hb] at h
      rcases List.mem_cons.1 hd with e | hd
      · subst e; exact (beq_false.1 hb) rfl
      · exact ih h d hd

/-- one number is moved -/
theorem mvId_ok {m m2 : Mv} {ρm : Ren} {id id2 : Nat} (M : MvOk ρ ρ1 h0 h1 m ρm) (hold : ∀ id, id < h0.nx → ρ1 id = ρ id)
    (hrw : ∀ id c n e u rw_ fl, h1.hp.get id = some (.row c n e u rw_ fl) → h0.nx ≤ id → rw_ = true)
    (h : mvId h1.hp h0.nx m id = some (id2, m2)) : ∃ ρ2, ρm.le ρ2 ∧ MvOk ρ ρ1 h0 h1 m2 ρ2 ∧ ρ2 id2 = ρ1 id := by
  unfold mvId at h
  cases hb : Nat.blt id h0.nx with
  | true =>
    rw [hb] at h
    simp only [Option.some.injEq, Prod.mk.injEq] at h
    obtain ⟨rfl, rfl⟩ := h
    rw [blt_eq] at hb
    have hlt : id < h0.nx := by simpa using hb
    exact ⟨ρm, Ren.le_refl _, M, ((M.old id hlt).1).trans (hold id hlt).symm⟩
  | false =>
    rw [hb] at h
    rw [blt_eq] at hb
    have hge : h0.nx ≤ id := by simpa using hb
    simp only at h
    cases hl : lookN id m.mp with
    | some d =>
      rw [hl] at h
      simp only [mvOld, Option.some.injEq, Prod.mk.injEq] at h
      obtain ⟨rfl, rfl⟩ := h
      exact ⟨ρm, Ren.le_refl _, M, (M.mps _ _ (lookN_mem hl)).2.2.1⟩
    | none =>
      rw [hl] at h
      simp only [mvOld] at h
      cases hg : h1.hp.get id with
      | none => rw [hg] at h; cases h
      | some b =>
        rw [hg] at h
        cases b with
        | mp => cases h
        | it => cases h
        | lp => cases h
        | row c n e u rw_ fl =>
          obtain rfl := hrw id c n e u rw_ fl hg hge
          cases fl with
          | false => simp [mvNew] at h
          | true =>
            simp only [mvNew, Option.some.injEq, Prod.mk.injEq] at h
            obtain ⟨rfl, rfl⟩ := h
            have hnone : ρm m.nx = none := M.none_ _ (Nat.le_refl _)
            refine ⟨fun j => if j = m.nx then ρ1 id else ρm j, ?_, ?_, by simp⟩
            · intro j H hj
              by_cases e1 : j = m.nx
              · subst e1; rw [hnone] at hj; cases hj
              · simp [e1, hj]
            · have hnx := M.nx
              refine ⟨Nat.le_succ_of_le hnx, fun j hj => ?_, fun j hj => ?_, fun d b hd hgd => ?_, fun s d hsd => ?_, fun d hd1 hd2 => ?_, fun s d s' d' hsd hsd' e => ?_, fun s d s' d' hsd hsd' e => ?_⟩
              · rw [if_neg (by omega), Tr.get_set, if_neg (by omega)]
                exact M.old j hj
              · have hj' : m.nx + 1 ≤ j := hj
                rw [if_neg (by omega)]
                exact M.none_ j (by omega)
              · rw [Tr.get_set] at hgd
                split at hgd
                · rename_i e1
                  subst e1
                  injection hgd with hgd
                  subst hgd
                  exact ⟨id, c, n, e, u, true, List.mem_cons_self, hge, Nat.lt_succ_self _, by simp, rfl, hg, rfl⟩
                · rename_i e1
                  obtain ⟨s, c', n', e', u', fl0, q1, q2, q3, q4, q5, q6⟩ := M.new d b hd hgd
                  exact ⟨s, c', n', e', u', fl0, List.mem_cons_of_mem _ q1, q2, Nat.lt_succ_of_lt q3, by rw [if_neg (by omega)]; exact q4, q5, q6⟩
              · rcases List.mem_cons.1 hsd with e1 | hs1
                · injection e1 with e1 e2
                  subst e1; subst e2
                  exact ⟨hnx, Nat.lt_succ_self _, by simp, hge⟩
                · obtain ⟨q1, q2, q3, q4⟩ := M.mps s d hs1
                  exact ⟨q1, Nat.lt_succ_of_lt q2, by rw [if_neg (by omega)]; exact q3, q4⟩
              · have hd2' : d < m.nx + 1 := hd2
                by_cases e1 : d = m.nx
                · subst e1; exact ⟨id, List.mem_cons_self⟩
                · obtain ⟨s, hs⟩ := M.all d hd1 (by omega)
                  exact ⟨s, List.mem_cons_of_mem _ hs⟩
              · rcases List.mem_cons.1 hsd with e1 | hs1
                · injection e1 with e1 e2
                  rcases List.mem_cons.1 hsd' with e3 | hs2
                  · injection e3 with e3 e4; rw [e2, e4]
                  · exact absurd (show (id, d') ∈ m.mp from by rw [← e1, e]; exact hs2) (lookN_none hl _)
                · rcases List.mem_cons.1 hsd' with e3 | hs2
                  · injection e3 with e3 e4
                    exact absurd (show (id, d) ∈ m.mp from by rw [← e3, ← e]; exact hs1) (lookN_none hl _)
                  · exact M.inj s d s' d' hs1 hs2 e
              · rcases List.mem_cons.1 hsd with e1 | hs1
                · injection e1 with e1 e2
                  rcases List.mem_cons.1 hsd' with e3 | hs2
                  · injection e3 with e3 e4; rw [e1, e3]
                  · have := (M.mps s' d' hs2).2.1; omega
                · rcases List.mem_cons.1 hsd' with e3 | hs2
                  · injection e3 with e3 e4
                    have := (M.mps s d hs1).2.1; omega
                  · exact M.inj2 s d s' d' hs1 hs2 e

theorem flat_VR {ρ ρ' : Ren} {v v' : Value} (hf : flat1 v = true) (h : VR ρ v v') : VR ρ' v v' := by
  cases h with
  | bool b => exact .bool b
  | int k n => exact .int k n
  | string s => exact .string s
  | nilptr => exact .nilptr
  | nilslice => exact .nilslice
  | nilFunc => exact .nilFunc
  | nilIface => exact .nilIface
  | _ => simp [flat1] at hf

def Mvs (ρ ρ1 : Ren) (h0 h1 : Hs) (f : Mv → Option (Value × Mv)) (v : Value) : Prop :=
  ∀ (m m2 : Mv) (ρm : Ren) (v2 : Value), MvOk ρ ρ1 h0 h1 m ρm → f m = some (v2, m2) → ∃ ρ2, ρm.le ρ2 ∧ MvOk ρ ρ1 h0 h1 m2 ρ2 ∧ ∀ v', VR ρ1 v v' → VR ρ2 v2 v'

section
variable (hold : ∀ id, id < h0.nx → ρ1 id = ρ id) (hrw : ∀ id c n e u rw_ fl, h1.hp.get id = some (.row c n e u rw_ fl) → h0.nx ≤ id → rw_ = true)
include hold hrw
theorem mvCell_ok (v : Value) : Mvs ρ ρ1 h0 h1 (fun m => mvCell h1.hp h0.nx m v) v := by
  intro m m2 ρm v2 M h
  have flatCase : flat1 v = true → (v, m) = (v2, m2) → ∃ ρ2, ρm.le ρ2 ∧ MvOk ρ ρ1 h0 h1 m2 ρ2 ∧ ∀ v', VR ρ1 v v' → VR ρ2 v2 v' := fun hf e => by
    injection e with e1 e2
    subst e1; subst e2
    exact ⟨ρm, Ren.le_refl _, M, fun v' hv => flat_VR hf hv⟩
  cases v with
  | pointer a =>
    cases a with
    | none => simp only [mvCell, Option.some.injEq] at h; exact flatCase rfl h
    | some a =>
      obtain ⟨b, o, sp⟩ := a
      cases sp with
      | some q =>
        simp only [mvCell, mvAddr, Option.some.injEq, Prod.mk.injEq] at h
        obtain ⟨rfl, rfl⟩ := h
        exact ⟨ρm, Ren.le_refl _, M, fun v' hv => by cases hv⟩
      | none =>
        simp only [mvCell, mvAddr] at h
        cases hi : mvId h1.hp h0.nx m b with
        | none => rw [hi] at h; cases h
        | some p =>
          rw [hi] at h
          simp only [atNew, Option.some.injEq, Prod.mk.injEq] at h
          obtain ⟨rfl, rfl⟩ := h
          obtain ⟨ρ2, g1, g2, g3⟩ := mvId_ok (id2 := p.1) (m2 := p.2) M hold hrw hi
          refine ⟨ρ2, g1, g2, fun v' hv => ?_⟩
          cases hv with
          | ptr id off H e => exact .ptr p.1 o H (g3.trans e)
  | slice a n c =>
    cases a with
    | none => simp only [mvCell, Option.some.injEq] at h; exact flatCase rfl h
    | some a =>
      obtain ⟨b, o, sp⟩ := a
      cases sp with
      | some q =>
        simp only [mvCell, mvAddr, Option.some.injEq, Prod.mk.injEq] at h
        obtain ⟨rfl, rfl⟩ := h
        refine ⟨ρm, Ren.le_refl _, M, fun v' hv => ?_⟩
        cases hv with
        | empty _ _ _ a' c' h3 => exact .empty _ _ _ a' c' h3
      | none =>
        simp only [mvCell, mvAddr] at h
        cases hi : mvId h1.hp h0.nx m b with
        | none => rw [hi] at h; cases h
        | some p =>
          rw [hi] at h
          simp only [atNew, Option.some.injEq, Prod.mk.injEq] at h
          obtain ⟨rfl, rfl⟩ := h
          obtain ⟨ρ2, g1, g2, g3⟩ := mvId_ok (id2 := p.1) (m2 := p.2) M hold hrw hi
          refine ⟨ρ2, g1, g2, fun v' hv => ?_⟩
          cases hv with
          | slice id off _ _ c' H e h1 h2 h3 h4 => exact .slice p.1 o n c c' H (g3.trans e) h1 h2 h3 h4
  | int k n => simp only [mvCell, flat1, Option.some.injEq] at h; exact flatCase rfl h
  | bool b => simp only [mvCell, flat1, Option.some.injEq] at h; exact flatCase rfl h
  | string s => simp only [mvCell, flat1, Option.some.injEq] at h; exact flatCase rfl h
  | nilFunc => simp only [mvCell, flat1, Option.some.injEq] at h; exact flatCase rfl h
  | nilIface => simp only [mvCell, flat1, Option.some.injEq] at h; exact flatCase rfl h
  | _ => simp [mvCell, flat1] at h

def MvsL (ρ ρ1 : Ren) (h0 h1 : Hs) (f : Mv → Option (List Value × Mv)) (vs : List Value) : Prop :=
  ∀ (m m2 : Mv) (ρm : Ren) (vs2 : List Value), MvOk ρ ρ1 h0 h1 m ρm → f m = some (vs2, m2) → ∃ ρ2, ρm.le ρ2 ∧ MvOk ρ ρ1 h0 h1 m2 ρ2 ∧ ∀ vs', VL ρ1 vs vs' → VL ρ2 vs2 vs'
omit hold hrw in
theorem mvCons_ok {f : Mv → Option (Value × Mv)} {g : Mv → Option (List Value × Mv)} {v : Value} {vs : List Value} (hf : Mvs ρ ρ1 h0 h1 f v) (hg : MvsL ρ ρ1 h0 h1 g vs) : MvsL ρ ρ1 h0 h1 (fun m => mvCons g (f m)) (v :: vs) := by
  intro m m2 ρm vs2 M h
  cases h1e : f m with
  | none => simp only [h1e, mvCons] at h; cases h
  | some p =>
    simp only [h1e, mvCons] at h
    cases h2e : g p.2 with
    | none => rw [h2e] at h; cases h
    | some q =>
      rw [h2e] at h
      simp only [Option.some.injEq, Prod.mk.injEq] at h
      obtain ⟨rfl, rfl⟩ := h
      obtain ⟨ρ2, a1, a2, a3⟩ := hf m p.2 ρm p.1 M h1e
      obtain ⟨ρ3, b1, b2, b3⟩ := hg p.2 q.2 ρ2 q.1 a2 h2e
      refine ⟨ρ3, Ren.le_trans a1 b1, b2, fun vs' hv => ?_⟩
      obtain ⟨y, zs, rfl, h3, h4⟩ := hv.head
      exact .cons ((a3 y h3).mono b1) (b3 zs h4)
theorem mvCells_ok : ∀ vs, MvsL ρ ρ1 h0 h1 (mvCells h1.hp h0.nx vs) vs := by
  intro vs
  induction vs with
  | nil =>
    intro m m2 ρm vs2 M h
    simp only [mvCells, Option.some.injEq, Prod.mk.injEq] at h
    obtain ⟨rfl, rfl⟩ := h
    exact ⟨ρm, Ren.le_refl _, M, fun vs' hv => by rw [hv.nil_left]; exact VL.nil⟩
  | cons v vs ih => exact mvCons_ok (mvCell_ok hold hrw v) ih
omit hold hrw in
theorem mvPart_eq {src : Tr Blk} {n0 : Nat} {v : Value} (h : ∀ cs, v ≠ .agg cs) (m : Mv) : mvPart src n0 m v = mvCell src n0 m v := by
  cases v <;> first | rfl | exact absurd rfl (h _)
omit hold hrw in
theorem mvAll_eq {src : Tr Blk} {n0 : Nat} {v : Value} (h : ∀ cs, v ≠ .tuple cs) (m : Mv) : mvAll src n0 m v = mvPart src n0 m v := by
  cases v <;> first | rfl | exact absurd rfl (h _)
theorem mvPart_ok (v : Value) : Mvs ρ ρ1 h0 h1 (fun m => mvPart h1.hp h0.nx m v) v := by
  by_cases hag : ∃ cs, v = .agg cs
  · obtain ⟨cs, rfl⟩ := hag
    intro m m2 ρm v2 M h
    simp only [mvPart] at h
    cases hc : mvCells h1.hp h0.nx cs.toList m with
    | none => rw [hc] at h; cases h
    | some p =>
      rw [hc] at h
      simp only [mvWrap, Option.some.injEq, Prod.mk.injEq] at h
      obtain ⟨rfl, rfl⟩ := h
      obtain ⟨ρ2, a1, a2, a3⟩ := mvCells_ok hold hrw cs.toList m p.2 ρm p.1 M hc
      refine ⟨ρ2, a1, a2, fun v' hv => ?_⟩
      obtain ⟨ys, rfl, hl⟩ := hv.agg_inv
      have := VR.agg_of (a3 _ hl)
      simpa using this
  · have e : (fun m => mvPart h1.hp h0.nx m v) = fun m => mvCell h1.hp h0.nx m v := funext (mvPart_eq (fun cs e => hag ⟨cs, e⟩))
    rw [e]
    exact mvCell_ok hold hrw v
theorem mvParts_ok : ∀ vs, MvsL ρ ρ1 h0 h1 (mvParts h1.hp h0.nx vs) vs := by
  intro vs
  induction vs with
  | nil =>
    intro m m2 ρm vs2 M h
    simp only [mvParts, Option.some.injEq, Prod.mk.injEq] at h
    obtain ⟨rfl, rfl⟩ := h
    exact ⟨ρm, Ren.le_refl _, M, fun vs' hv => by rw [hv.nil_left]; exact VL.nil⟩
  | cons v vs ih => exact mvCons_ok (mvPart_ok hold hrw v) ih
theorem mvAll_ok (v : Value) : Mvs ρ ρ1 h0 h1 (fun m => mvAll h1.hp h0.nx m v) v := by
  by_cases htu : ∃ cs, v = .tuple cs
  · obtain ⟨cs, rfl⟩ := htu
    intro m m2 ρm v2 M h
    simp only [mvAll] at h
    cases hc : mvParts h1.hp h0.nx cs.toList m with
    | none => rw [hc] at h; cases h
    | some p =>
      rw [hc] at h
      simp only [mvWrap, Option.some.injEq, Prod.mk.injEq] at h
      obtain ⟨rfl, rfl⟩ := h
      obtain ⟨ρ2, a1, a2, a3⟩ := mvParts_ok hold hrw cs.toList m p.2 ρm p.1 M hc
      refine ⟨ρ2, a1, a2, fun v' hv => ?_⟩
      obtain ⟨ys, rfl, hl⟩ := hv.tuple_inv
      have := VR.tuple_of (a3 _ hl)
      simpa using this
  · have e : (fun m => mvAll h1.hp h0.nx m v) = fun m => mvPart h1.hp h0.nx m v := funext (mvAll_eq (fun cs e => htu ⟨cs, e⟩))
    rw [e]
    exact mvPart_ok hold hrw v
end

/-- a call, cleared up -/
theorem clearUp_ok (R : HR B ρ h0 w) {o : Option Out} {v : Value} {h2 : Hs} (hc : clearUp h0 o = some (.val v h2)) :
    ∃ v1 h1, o = some (.val v1 h1) ∧ ∀ (ρ1 : Ren) (w' : World) (v' : Value), St B ρ ⟨h0.hp, h0.nx, h0.nx⟩ w ρ1 h1 w' → VR ρ1 v1 v' → ∃ ρ2, VR ρ2 v v' ∧ St B ρ h0 w ρ2 h2 w' := by
  cases o with
  | none => cases hc
  | some out =>
    cases out with
    | fin e fr h => cases hc
    | val v1 h1 =>
      refine ⟨v1, h1, rfl, fun ρ1 w' v' S hv => ?_⟩
      simp only [clearUp] at hc
      have hlo1 : h1.lo ≤ h0.nx := S.lo
      cases hb : Nat.blt h1.lo h0.nx with
      | true =>
        rw [hb] at hc
        simp only [clear1, Option.some.injEq, Out.val.injEq] at hc
        obtain ⟨rfl, rfl⟩ := hc
        have hmin := minN_eq h0.lo h1.lo
        refine ⟨ρ1, hv, ⟨⟨S.hr.base, S.hr.dom, S.hr.has, S.hr.inj⟩, S.nx, S.le, S.old, S.below, S.size, minN_le_left _ _, fun id b hb2 hl => ?_, fun id b hb2 hid => ?_, S.newrw, fun k hk hno => ?_, fun id H hid he => ?_⟩⟩
        · exact S.keep id b hb2 (Nat.lt_of_lt_of_le hl (minN_le_right _ _))
        · obtain ⟨b0, q1, q2, q3⟩ := S.gone id b hb2 hid
          exact ⟨b0, q1, q2, fun hl => q3 (Nat.lt_of_lt_of_le hl (minN_le_right _ _))⟩
        · exact S.frame k hk (fun id b H q1 q2 q3 q4 => hno id b H q1 q2 q3 (Nat.le_trans (minN_le_right _ _) q4))
        · rcases S.fresh id H hid he with q | ⟨id0, b, H0, q1, q2, q3, q4, q5⟩
          · exact .inl q
          · exact .inr ⟨id0, b, H0, q1, q2, q3, Nat.le_trans (minN_le_right _ _) q4, q5⟩
      | false =>
        rw [hb] at hc
        rw [blt_eq] at hb
        have hlo : h0.nx ≤ h1.lo := by simpa using hb
        -- nothing that was there has turned
        have hframe : ∀ k, k < w.heap.size → w'.heap[k]? = w.heap[k]? := fun k hk => S.frame k hk (fun id b H q1 q2 q3 q4 => by
          have := R.lt q1
          omega)
        have hkeep : ∀ id b, h0.hp.get id = some b → h1.hp.get id = some b := fun id b q => S.keep id b q (by have := R.lt q; omega)
        have hgone : ∀ id b, h1.hp.get id = some b → id < h0.nx → h0.hp.get id = some b := fun id b q hid => by
          obtain ⟨b0, q1, q2, q3⟩ := S.gone id b q hid
          rw [← q3 (by omega)]; exact q1
        have hfresh : ∀ id H, h0.nx ≤ id → ρ1 id = some H → w.heap.size ≤ H.blk := fun id H hid he => by
          rcases S.fresh id H hid he with q | ⟨id0, b, H0, q1, q2, q3, q4, q5⟩
          · exact q
          · have := R.lt q1; omega
        simp only [clear1] at hc
        have plain : ∃ ρ2, VR ρ2 v1 v' ∧ St B ρ h0 w ρ2 ⟨h1.hp, h1.nx, h0.lo⟩ w' := by
          refine ⟨ρ1, hv, ⟨⟨S.hr.base, S.hr.dom, S.hr.has, S.hr.inj⟩, S.nx, S.le, S.old, S.below, S.size, Nat.le_refl _, fun id b q _ => hkeep id b q, fun id b q hid => ⟨b, hgone id b q hid, rfl, fun _ => rfl⟩, S.newrw, fun k hk _ => hframe k hk, fun id H hid he => .inl (hfresh id H hid he)⟩⟩
        cases hm : mvAll h1.hp h0.nx ⟨h0.hp, h0.nx, []⟩ v1 with
        | none =>
          rw [hm] at hc
          simp only [clear2, Option.some.injEq, Out.val.injEq] at hc
          obtain ⟨rfl, rfl⟩ := hc
          exact plain
        | some p =>
          rw [hm] at hc
          simp only [clear2, Option.some.injEq, Out.val.injEq] at hc
          obtain ⟨rfl, rfl⟩ := hc
          have M0 : MvOk ρ ρ1 h0 h1 ⟨h0.hp, h0.nx, []⟩ ρ := ⟨Nat.le_refl _, fun _ _ => ⟨rfl, rfl⟩, R.dom, fun d b hd hg => by have := R.lt hg; omega,
            fun s d hsd => by simp at hsd, fun d h1 h2 => by (simp only at h2; omega), fun s d s' d' hsd => by simp at hsd, fun s d s' d' hsd => by simp at hsd⟩
          have hrw : ∀ id c n e u rw_ fl, h1.hp.get id = some (.row c n e u rw_ fl) → h0.nx ≤ id → rw_ = true := fun id c n e u rw_ fl q hid => S.newrw id _ q hid
          obtain ⟨ρ2, le2, M, hvr⟩ := mvAll_ok (h0 := h0) (fun id hid => S.old id hid) hrw v1 ⟨h0.hp, h0.nx, []⟩ p.2 ρ p.1 M0 hm
          have hhas : ∀ id b, p.2.hp.get id = some b → BR B ρ2 w' id b ∧ (id < h0.nx → h0.hp.get id = some b) := fun id b q => by
            rcases Nat.lt_or_ge id h0.nx with hid | hid
            · have q' : h0.hp.get id = some b := by rw [← (M.old id hid).2]; exact q
              refine ⟨(R.has id b q').mono le2 (fun H he => hframe _ ?_), fun _ => q'⟩
              obtain ⟨H2, e1, e2⟩ := (R.has id b q').host_lt
              rw [he] at e1; injection e1 with e1; subst e1; exact e2
            · refine ⟨?_, fun h9 => by omega⟩
              obtain ⟨s, c, n, e, u, fl0, q1, q2, q3, q4, rfl, q6, rfl⟩ := M.new id b hid q
              obtain ⟨H, arr, fz, r1, r2, r3, r4, r5, r6, r7⟩ := S.hr.has s _ q6
              refine ⟨H, arr, fz, q4.trans r1, r2, r3, r4, fun i v hv2 => ?_, r6, r7⟩
              obtain ⟨x, x1, x2⟩ := r5 i v hv2
              exact ⟨x, x1, flat_VR (r7 rfl i v hv2) x2⟩
          refine ⟨ρ2, hvr v' hv, ⟨⟨S.hr.base, M.none_, fun id b q => (hhas id b q).1, fun id id' b b' H H' q q' hne hr he he' => ?_⟩, M.nx, le2, fun id hid => (M.old id hid).1, S.below, S.size, Nat.le_refl _,
            fun id b q _ => by rw [(M.old id (R.lt q)).2]; exact q, fun id b q hid => ⟨b, (hhas id b q).2 hid, rfl, fun _ => rfl⟩, fun id b q hid => (by obtain ⟨s, c, n, e, u, fl0, q1, q2, q3, q4, rfl, q6, _⟩ := M.new id b hid q; rfl), fun k hk _ => hframe k hk, fun id H hid he => ?_⟩⟩
          · rcases Nat.lt_or_ge id h0.nx with hid | hid <;> rcases Nat.lt_or_ge id' h0.nx with hid' | hid'
            · rw [(M.old id hid).1] at he
              rw [(M.old id' hid').1] at he'
              exact R.inj id id' b b' H H' ((hhas id b q).2 hid) ((hhas id' b' q').2 hid') hne hr he he'
            · rw [(M.old id hid).1] at he
              obtain ⟨s, c, n, e, u, fl0, q1, q2, q3, q4, rfl, q6, rfl⟩ := M.new id' b' hid' q'
              rw [q4] at he'
              have := hfresh s H' q2 he'
              obtain ⟨H2, e1, e2⟩ := (R.has id b ((hhas id b q).2 hid)).host_lt
              rw [he] at e1; injection e1 with e1; subst e1
              omega
            · rw [(M.old id' hid').1] at he'
              obtain ⟨s, c, n, e, u, fl0, q1, q2, q3, q4, rfl, q6, rfl⟩ := M.new id b hid q
              rw [q4] at he
              have := hfresh s H q2 he
              obtain ⟨H2, e1, e2⟩ := (R.has id' b' ((hhas id' b' q').2 hid')).host_lt
              rw [he'] at e1; injection e1 with e1; subst e1
              omega
            · obtain ⟨s, c, n, e, u, fl0, q1, q2, q3, q4, rfl, q6, rfl⟩ := M.new id b hid q
              obtain ⟨s', c', n', e', u', fl0', q1', q2', q3', q4', rfl, q6', rfl⟩ := M.new id' b' hid' q'
              rw [q4] at he
              rw [q4'] at he'
              refine S.hr.inj s s' _ _ H H' q6 q6' (fun e9 => hne ?_) rfl he he'
              subst e9
              exact M.inj s id s id' q1 q1' rfl
          · rcases Nat.lt_or_ge id p.2.nx with hlt | hge
            · obtain ⟨s, hs⟩ := M.all id hid hlt
              obtain ⟨_, _, q3, q4⟩ := M.mps s id hs
              rw [q3] at he
              exact .inl (hfresh s H q4 he)
            · rw [M.none_ id hge] at he; cases he
end
end Go.Gev

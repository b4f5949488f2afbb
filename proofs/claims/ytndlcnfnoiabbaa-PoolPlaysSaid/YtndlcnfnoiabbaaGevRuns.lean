/- Behind a call that turned nothing old: what it answers is moved to the first free numbers. -/
import Derived.Test.YtndlcnfnoiabbaaGevXs
import Derived.LoopN
namespace Go.Gev
open Go.RowKit
section
variable {B : Nat} {ρ ρ1 : Ren} {h0 h1 : Hs} {w w' : World}
structure MvOk (ρ ρ1 : Ren) (h0 h1 : Hs) (m : Mv) (ρm : Ren) : Prop where
 nx : h0.nx ≤ m.nx
 old : ∀ id, id < h0.nx → ρm id = ρ id ∧ m.hp.get id = h0.hp.get id
 none_ : ∀ id, m.nx ≤ id → ρm id = none
 new : ∀ d b, h0.nx ≤ d → m.hp.get d = some b → ∃ s c n e u fl0, (s, d) ∈ m.mp ∧ h0.nx ≤ s ∧ d < m.nx ∧ ρm d = ρ1 s ∧ b = .row c n e u true true ∧ h1.hp.get s = some (.row c n e u fl0 true) ∧ fl0 = true
 mps : ∀ s d, (s, d) ∈ m.mp → h0.nx ≤ d ∧ d < m.nx ∧ ρm d = ρ1 s ∧ h0.nx ≤ s
 all : ∀ d, h0.nx ≤ d → d < m.nx → ∃ s, (s, d) ∈ m.mp
 inj : ∀ s d s' d', (s, d) ∈ m.mp → (s', d') ∈ m.mp → s = s' → d = d'
 inj2 : ∀ s d s' d', (s, d) ∈ m.mp → (s', d') ∈ m.mp → d = d' → s = s'
theorem lookN_mem {k d : Nat} : ∀ {l : List (Nat × Nat)}, lookN k l = some d → (k, d) ∈ l := by
 intro l
 induction l with
 | nil => intro h; cases h
 | cons p l ih =>
  intro h
  simp only [lookN] at h
  cases hb : Nat.beq p.1 k with
  | true =>
   rw [hb] at h
   injection h with h
   have := Nat.eq_of_beq_eq_true hb
   obtain ⟨a, b⟩ := p
   simp only at this h
   subst this; subst h
   exact List.mem_cons_self
  | false => rw [hb] at h; exact List.mem_cons_of_mem _ (ih h)
theorem lookN_none {k : Nat} : ∀ {l : List (Nat × Nat)}, lookN k l = none → ∀ d, (k, d) ∉ l := by
 intro l
 induction l with
 | nil => intro _ d hd; simp at hd
 | cons p l ih =>
  intro h d hd
  simp only [lookN] at h
  cases hb : Nat.beq p.1 k with
  | true => rw [hb] at h; cases h
  | false =>
   rw [hb] at h
   rcases List.mem_cons.1 hd with e | hd
   ·subst e; exact (beq_false.1 hb) rfl
   ·exact ih h d hd
theorem mvId_ok {m m2 : Mv} {ρm : Ren} {id id2 : Nat} (M : MvOk ρ ρ1 h0 h1 m ρm) (hold : ∀ id, id < h0.nx → ρ1 id = ρ id)
 (hrw : ∀ id c n e u rw_ fl, h1.hp.get id = some (.row c n e u rw_ fl) → h0.nx ≤ id → rw_ = true)
 (h : mvId h1.hp h0.nx m id = some (id2, m2)) : ∃ ρ2, ρm.le ρ2 ∧ MvOk ρ ρ1 h0 h1 m2 ρ2 ∧ ρ2 id2 = ρ1 id := by
 unfold mvId at h
 cases hb : Nat.blt id h0.nx with
 | true =>
  rw [hb] at h
  simp only [Option.some.injEq, Prod.mk.injEq] at h
  obtain ⟨rfl, rfl⟩ := h
  rw [blt_eq] at hb
  have hlt : id < h0.nx := by simpa using hb
  exact ⟨ρm, Ren.le_refl _, M, ((M.old id hlt).1).trans (hold id hlt).symm⟩
 | false =>
  rw [hb] at h
  rw [blt_eq] at hb
  have hge : h0.nx ≤ id := by simpa using hb
  simp only at h
  cases hl : lookN id m.mp with
  | some d =>
   rw [hl] at h
   simp only [mvOld, Option.some.injEq, Prod.mk.injEq] at h
   obtain ⟨rfl, rfl⟩ := h
   exact ⟨ρm, Ren.le_refl _, M, (M.mps _ _ (lookN_mem hl)).2.2.1⟩
  | none =>
   rw [hl] at h
   simp only [mvOld] at h
   cases hg : h1.hp.get id with
   | none => rw [hg] at h; cases h
   | some b =>
    rw [hg] at h
    cases b with
    | mp => cases h
    | it => cases h
    | lp => cases h
    | row c n e u rw_ fl =>
     obtain rfl := hrw id c n e u rw_ fl hg hge
     cases fl with
     | false => simp [mvNew] at h
     | true =>
      simp only [mvNew, Option.some.injEq, Prod.mk.injEq] at h
      obtain ⟨rfl, rfl⟩ := h
      have hnone : ρm m.nx = none := M.none_ _ (Nat.le_refl _)
      refine ⟨fun j => if j = m.nx then ρ1 id else ρm j, ?_, ?_, by simp⟩
      ·intro j H hj
       by_cases e1 : j = m.nx
       ·subst e1; rw [hnone] at hj; cases hj
       ·simp [e1, hj]
      ·have hnx := M.nx
       refine ⟨Nat.le_succ_of_le hnx, fun j hj => ?_, fun j hj => ?_, fun d b hd hgd => ?_, fun s d hsd => ?_, fun d hd1 hd2 => ?_, fun s d s' d' hsd hsd' e => ?_, fun s d s' d' hsd hsd' e => ?_⟩
       ·rw [if_neg (by omega), Tr.get_set, if_neg (by omega)]
        exact M.old j hj
       ·have hj' : m.nx + 1 ≤ j := hj
        rw [if_neg (by omega)]
        exact M.none_ j (by omega)
       ·rw [Tr.get_set] at hgd
        split at hgd
        ·rename_i e1
         subst e1
         injection hgd with hgd
         subst hgd
         exact ⟨id, c, n, e, u, true, List.mem_cons_self, hge, Nat.lt_succ_self _, by simp, rfl, hg, rfl⟩
        ·rename_i e1
         obtain ⟨s, c', n', e', u', fl0, q1, q2, q3, q4, q5, q6⟩ := M.new d b hd hgd
         exact ⟨s, c', n', e', u', fl0, List.mem_cons_of_mem _ q1, q2, Nat.lt_succ_of_lt q3, by rw [if_neg (by omega)]; exact q4, q5, q6⟩
       ·rcases List.mem_cons.1 hsd with e1 | hs1
        ·injection e1 with e1 e2
         subst e1; subst e2
         exact ⟨hnx, Nat.lt_succ_self _, by simp, hge⟩
        ·obtain ⟨q1, q2, q3, q4⟩ := M.mps s d hs1
         exact ⟨q1, Nat.lt_succ_of_lt q2, by rw [if_neg (by omega)]; exact q3, q4⟩
       ·have hd2' : d < m.nx + 1 := hd2
        by_cases e1 : d = m.nx
        ·subst e1; exact ⟨id, List.mem_cons_self⟩
        ·obtain ⟨s, hs⟩ := M.all d hd1 (by omega)
         exact ⟨s, List.mem_cons_of_mem _ hs⟩
       ·rcases List.mem_cons.1 hsd with e1 | hs1
        ·injection e1 with e1 e2
         rcases List.mem_cons.1 hsd' with e3 | hs2
         ·injection e3 with e3 e4; rw [e2, e4]
         ·exact absurd (show (id, d') ∈ m.mp from by rw [← e1, e]; exact hs2) (lookN_none hl _)
        ·rcases List.mem_cons.1 hsd' with e3 | hs2
         ·injection e3 with e3 e4
          exact absurd (show (id, d) ∈ m.mp from by rw [← e3, ← e]; exact hs1) (lookN_none hl _)
         ·exact M.inj s d s' d' hs1 hs2 e
       ·rcases List.mem_cons.1 hsd with e1 | hs1
        ·injection e1 with e1 e2
         rcases List.mem_cons.1 hsd' with e3 | hs2
         ·injection e3 with e3 e4; rw [e1, e3]
         ·have := (M.mps s' d' hs2).2.1; omega
        ·rcases List.mem_cons.1 hsd' with e3 | hs2
         ·injection e3 with e3 e4
          have := (M.mps s d hs1).2.1; omega
         ·exact M.inj2 s d s' d' hs1 hs2 e
theorem flat_VR {ρ ρ' : Ren} {v v' : Value} (hf : flat1 v = true) (h : VR ρ v v') : VR ρ' v v' := by
 cases h with
 | bool b => exact .bool b
 | int k n => exact .int k n
 | string s => exact .string s
 | nilptr => exact .nilptr
 | nilslice => exact .nilslice
 | nilFunc => exact .nilFunc
 | nilIface => exact .nilIface
 | _ => simp [flat1] at hf
def Mvs (ρ ρ1 : Ren) (h0 h1 : Hs) (f : Mv → Option (Value × Mv)) (v : Value) : Prop :=
 ∀ (m m2 : Mv) (ρm : Ren) (v2 : Value), MvOk ρ ρ1 h0 h1 m ρm → f m = some (v2, m2) → ∃ ρ2, ρm.le ρ2 ∧ MvOk ρ ρ1 h0 h1 m2 ρ2 ∧ ∀ v', VR ρ1 v v' → VR ρ2 v2 v'
section
variable (hold : ∀ id, id < h0.nx → ρ1 id = ρ id) (hrw : ∀ id c n e u rw_ fl, h1.hp.get id = some (.row c n e u rw_ fl) → h0.nx ≤ id → rw_ = true)
include hold hrw
theorem mvCell_ok (v : Value) : Mvs ρ ρ1 h0 h1 (fun m => mvCell h1.hp h0.nx m v) v := by
 intro m m2 ρm v2 M h
 have flatCase : flat1 v = true → (v, m) = (v2, m2) → ∃ ρ2, ρm.le ρ2 ∧ MvOk ρ ρ1 h0 h1 m2 ρ2 ∧ ∀ v', VR ρ1 v v' → VR ρ2 v2 v' := fun hf e => by
  injection e with e1 e2
  subst e1; subst e2
  exact ⟨ρm, Ren.le_refl _, M, fun v' hv => flat_VR hf hv⟩
 cases v with
 | pointer a =>
  cases a with
  | none => simp only [mvCell, Option.some.injEq] at h; exact flatCase rfl h
  | some a =>
   obtain ⟨b, o, sp⟩ := a
   cases sp with
   | some q =>
    simp only [mvCell, mvAddr, Option.some.injEq, Prod.mk.injEq] at h
    obtain ⟨rfl, rfl⟩ := h
    exact ⟨ρm, Ren.le_refl _, M, fun v' hv => by cases hv⟩
   | none =>
    simp only [mvCell, mvAddr] at h
    cases hi : mvId h1.hp h0.nx m b with
    | none => rw [hi] at h; cases h
    | some p =>
     rw [hi] at h
     simp only [atNew, Option.some.injEq, Prod.mk.injEq] at h
     obtain ⟨rfl, rfl⟩ := h
     obtain ⟨ρ2, g1, g2, g3⟩ := mvId_ok (id2 := p.1) (m2 := p.2) M hold hrw hi
     refine ⟨ρ2, g1, g2, fun v' hv => ?_⟩
     cases hv with
     | ptr id off H e => exact .ptr p.1 o H (g3.trans e)
 | slice a n c =>
  cases a with
  | none => simp only [mvCell, Option.some.injEq] at h; exact flatCase rfl h
  | some a =>
   obtain ⟨b, o, sp⟩ := a
   cases sp with
   | some q =>
    simp only [mvCell, mvAddr, Option.some.injEq, Prod.mk.injEq] at h
    obtain ⟨rfl, rfl⟩ := h
    refine ⟨ρm, Ren.le_refl _, M, fun v' hv => ?_⟩
    cases hv with
    | empty _ _ _ a' c' h3 => exact .empty _ _ _ a' c' h3
   | none =>
    simp only [mvCell, mvAddr] at h
    cases hi : mvId h1.hp h0.nx m b with
    | none => rw [hi] at h; cases h
    | some p =>
     rw [hi] at h
     simp only [atNew, Option.some.injEq, Prod.mk.injEq] at h
     obtain ⟨rfl, rfl⟩ := h
     obtain ⟨ρ2, g1, g2, g3⟩ := mvId_ok (id2 := p.1) (m2 := p.2) M hold hrw hi
     refine ⟨ρ2, g1, g2, fun v' hv => ?_⟩
     cases hv with
     | slice id off _ _ c' H e h1 h2 h3 h4 => exact .slice p.1 o n c c' H (g3.trans e) h1 h2 h3 h4
 | int k n => simp only [mvCell, flat1, Option.some.injEq] at h; exact flatCase rfl h
 | bool b => simp only [mvCell, flat1, Option.some.injEq] at h; exact flatCase rfl h
 | string s => simp only [mvCell, flat1, Option.some.injEq] at h; exact flatCase rfl h
 | nilFunc => simp only [mvCell, flat1, Option.some.injEq] at h; exact flatCase rfl h
 | nilIface => simp only [mvCell, flat1, Option.some.injEq] at h; exact flatCase rfl h
 | _ => simp [mvCell, flat1] at h
def MvsL (ρ ρ1 : Ren) (h0 h1 : Hs) (f : Mv → Option (List Value × Mv)) (vs : List Value) : Prop :=
 ∀ (m m2 : Mv) (ρm : Ren) (vs2 : List Value), MvOk ρ ρ1 h0 h1 m ρm → f m = some (vs2, m2) → ∃ ρ2, ρm.le ρ2 ∧ MvOk ρ ρ1 h0 h1 m2 ρ2 ∧ ∀ vs', VL ρ1 vs vs' → VL ρ2 vs2 vs'
omit hold hrw in
theorem mvCons_ok {f : Mv → Option (Value × Mv)} {g : Mv → Option (List Value × Mv)} {v : Value} {vs : List Value} (hf : Mvs ρ ρ1 h0 h1 f v) (hg : MvsL ρ ρ1 h0 h1 g vs) : MvsL ρ ρ1 h0 h1 (fun m => mvCons g (f m)) (v :: vs) := by
 intro m m2 ρm vs2 M h
 cases h1e : f m with
 | none => simp only [h1e, mvCons] at h; cases h
 | some p =>
  simp only [h1e, mvCons] at h
  cases h2e : g p.2 with
  | none => rw [h2e] at h; cases h
  | some q =>
   rw [h2e] at h
   simp only [Option.some.injEq, Prod.mk.injEq] at h
   obtain ⟨rfl, rfl⟩ := h
   obtain ⟨ρ2, a1, a2, a3⟩ := hf m p.2 ρm p.1 M h1e
   obtain ⟨ρ3, b1, b2, b3⟩ := hg p.2 q.2 ρ2 q.1 a2 h2e
   refine ⟨ρ3, Ren.le_trans a1 b1, b2, fun vs' hv => ?_⟩
   obtain ⟨y, zs, rfl, h3, h4⟩ := hv.head
   exact .cons ((a3 y h3).mono b1) (b3 zs h4)
theorem mvCells_ok : ∀ vs, MvsL ρ ρ1 h0 h1 (mvCells h1.hp h0.nx vs) vs := by
 intro vs
 induction vs with
 | nil =>
  intro m m2 ρm vs2 M h
  simp only [mvCells, Option.some.injEq, Prod.mk.injEq] at h
  obtain ⟨rfl, rfl⟩ := h
  exact ⟨ρm, Ren.le_refl _, M, fun vs' hv => by rw [hv.nil_left]; exact VL.nil⟩
 | cons v vs ih => exact mvCons_ok (mvCell_ok hold hrw v) ih
omit hold hrw in
theorem mvPart_eq {src : Tr Blk} {n0 : Nat} {v : Value} (h : ∀ cs, v ≠ .agg cs) (m : Mv) : mvPart src n0 m v = mvCell src n0 m v := by
 cases v <;> first | rfl | exact absurd rfl (h _)
omit hold hrw in
theorem mvAll_eq {src : Tr Blk} {n0 : Nat} {v : Value} (h : ∀ cs, v ≠ .tuple cs) (m : Mv) : mvAll src n0 m v = mvPart src n0 m v := by
 cases v <;> first | rfl | exact absurd rfl (h _)
theorem mvPart_ok (v : Value) : Mvs ρ ρ1 h0 h1 (fun m => mvPart h1.hp h0.nx m v) v := by
 by_cases hag : ∃ cs, v = .agg cs
 ·obtain ⟨cs, rfl⟩ := hag
  intro m m2 ρm v2 M h
  simp only [mvPart] at h
  cases hc : mvCells h1.hp h0.nx cs.toList m with
  | none => rw [hc] at h; cases h
  | some p =>
   rw [hc] at h
   simp only [mvWrap, Option.some.injEq, Prod.mk.injEq] at h
   obtain ⟨rfl, rfl⟩ := h
   obtain ⟨ρ2, a1, a2, a3⟩ := mvCells_ok hold hrw cs.toList m p.2 ρm p.1 M hc
   refine ⟨ρ2, a1, a2, fun v' hv => ?_⟩
   obtain ⟨ys, rfl, hl⟩ := hv.agg_inv
   have := VR.agg_of (a3 _ hl)
   simpa using this
 ·have e : (fun m => mvPart h1.hp h0.nx m v) = fun m => mvCell h1.hp h0.nx m v := funext (mvPart_eq (fun cs e => hag ⟨cs, e⟩))
  rw [e]
  exact mvCell_ok hold hrw v
theorem mvParts_ok : ∀ vs, MvsL ρ ρ1 h0 h1 (mvParts h1.hp h0.nx vs) vs := by
 intro vs
 induction vs with
 | nil =>
  intro m m2 ρm vs2 M h
  simp only [mvParts, Option.some.injEq, Prod.mk.injEq] at h
  obtain ⟨rfl, rfl⟩ := h
  exact ⟨ρm, Ren.le_refl _, M, fun vs' hv => by rw [hv.nil_left]; exact VL.nil⟩
 | cons v vs ih => exact mvCons_ok (mvPart_ok hold hrw v) ih
theorem mvAll_ok (v : Value) : Mvs ρ ρ1 h0 h1 (fun m => mvAll h1.hp h0.nx m v) v := by
 by_cases htu : ∃ cs, v = .tuple cs
 ·obtain ⟨cs, rfl⟩ := htu
  intro m m2 ρm v2 M h
  simp only [mvAll] at h
  cases hc : mvParts h1.hp h0.nx cs.toList m with
  | none => rw [hc] at h; cases h
  | some p =>
   rw [hc] at h
   simp only [mvWrap, Option.some.injEq, Prod.mk.injEq] at h
   obtain ⟨rfl, rfl⟩ := h
   obtain ⟨ρ2, a1, a2, a3⟩ := mvParts_ok hold hrw cs.toList m p.2 ρm p.1 M hc
   refine ⟨ρ2, a1, a2, fun v' hv => ?_⟩
   obtain ⟨ys, rfl, hl⟩ := hv.tuple_inv
   have := VR.tuple_of (a3 _ hl)
   simpa using this
 ·have e : (fun m => mvAll h1.hp h0.nx m v) = fun m => mvPart h1.hp h0.nx m v := funext (mvAll_eq (fun cs e => htu ⟨cs, e⟩))
  rw [e]
  exact mvPart_ok hold hrw v
end
theorem clearUp_ok (R : HR B ρ h0 w) {o : Option Out} {v : Value} {h2 : Hs} (hc : clearUp h0 o = some (.val v h2)) :
 ∃ v1 h1, o = some (.val v1 h1) ∧ ∀ (ρ1 : Ren) (w' : World) (v' : Value), St B ρ ⟨h0.hp, h0.nx, h0.nx⟩ w ρ1 h1 w' → VR ρ1 v1 v' → ∃ ρ2, VR ρ2 v v' ∧ St B ρ h0 w ρ2 h2 w' := by
 cases o with
 | none => cases hc
 | some out =>
  cases out with
  | fin e fr h => cases hc
  | val v1 h1 =>
   refine ⟨v1, h1, rfl, fun ρ1 w' v' S hv => ?_⟩
   simp only [clearUp] at hc
   have hlo1 : h1.lo ≤ h0.nx := S.lo
   cases hb : Nat.blt h1.lo h0.nx with
   | true =>
    rw [hb] at hc
    simp only [clear1, Option.some.injEq, Out.val.injEq] at hc
    obtain ⟨rfl, rfl⟩ := hc
    have hmin := minN_eq h0.lo h1.lo
    refine ⟨ρ1, hv, ⟨⟨S.hr.base, S.hr.dom, S.hr.has, S.hr.inj⟩, S.nx, S.le, S.old, S.below, S.size, minN_le_left _ _, fun id b hb2 hl => ?_, fun id b hb2 hid => ?_, S.newrw, fun k hk hno => ?_, fun id H hid he => ?_⟩⟩
    ·exact S.keep id b hb2 (Nat.lt_of_lt_of_le hl (minN_le_right _ _))
    ·obtain ⟨b0, q1, q2, q3⟩ := S.gone id b hb2 hid
     exact ⟨b0, q1, q2, fun hl => q3 (Nat.lt_of_lt_of_le hl (minN_le_right _ _))⟩
    ·exact S.frame k hk (fun id b H q1 q2 q3 q4 => hno id b H q1 q2 q3 (Nat.le_trans (minN_le_right _ _) q4))
    ·rcases S.fresh id H hid he with q | ⟨id0, b, H0, q1, q2, q3, q4, q5⟩
     ·exact .inl q
     ·exact .inr ⟨id0, b, H0, q1, q2, q3, Nat.le_trans (minN_le_right _ _) q4, q5⟩
   | false =>
    rw [hb] at hc
    rw [blt_eq] at hb
    have hlo : h0.nx ≤ h1.lo := by simpa using hb
    -- nothing that was there has turned
    have hframe : ∀ k, k < w.heap.size → w'.heap[k]? = w.heap[k]? := fun k hk => S.frame k hk (fun id b H q1 q2 q3 q4 => by
     have := R.lt q1
     omega)
    have hkeep : ∀ id b, h0.hp.get id = some b → h1.hp.get id = some b := fun id b q => S.keep id b q (by have := R.lt q; omega)
    have hgone : ∀ id b, h1.hp.get id = some b → id < h0.nx → h0.hp.get id = some b := fun id b q hid => by
     obtain ⟨b0, q1, q2, q3⟩ := S.gone id b q hid
     rw [← q3 (by omega)]; exact q1
    have hfresh : ∀ id H, h0.nx ≤ id → ρ1 id = some H → w.heap.size ≤ H.blk := fun id H hid he => by
     rcases S.fresh id H hid he with q | ⟨id0, b, H0, q1, q2, q3, q4, q5⟩
     ·exact q
     ·have := R.lt q1; omega
    simp only [clear1] at hc
    have plain : ∃ ρ2, VR ρ2 v1 v' ∧ St B ρ h0 w ρ2 ⟨h1.hp, h1.nx, h0.lo⟩ w' := by
     refine ⟨ρ1, hv, ⟨⟨S.hr.base, S.hr.dom, S.hr.has, S.hr.inj⟩, S.nx, S.le, S.old, S.below, S.size, Nat.le_refl _, fun id b q _ => hkeep id b q, fun id b q hid => ⟨b, hgone id b q hid, rfl, fun _ => rfl⟩, S.newrw, fun k hk _ => hframe k hk, fun id H hid he => .inl (hfresh id H hid he)⟩⟩
    cases hm : mvAll h1.hp h0.nx ⟨h0.hp, h0.nx, []⟩ v1 with
    | none =>
     rw [hm] at hc
     simp only [clear2, Option.some.injEq, Out.val.injEq] at hc
     obtain ⟨rfl, rfl⟩ := hc
     exact plain
    | some p =>
     rw [hm] at hc
     simp only [clear2, Option.some.injEq, Out.val.injEq] at hc
     obtain ⟨rfl, rfl⟩ := hc
     have M0 : MvOk ρ ρ1 h0 h1 ⟨h0.hp, h0.nx, []⟩ ρ := ⟨Nat.le_refl _, fun _ _ => ⟨rfl, rfl⟩, R.dom, fun d b hd hg => by have := R.lt hg; omega,
      fun s d hsd => by simp at hsd, fun d h1 h2 => by (simp only at h2; omega), fun s d s' d' hsd => by simp at hsd, fun s d s' d' hsd => by simp at hsd⟩
     have hrw : ∀ id c n e u rw_ fl, h1.hp.get id = some (.row c n e u rw_ fl) → h0.nx ≤ id → rw_ = true := fun id c n e u rw_ fl q hid => S.newrw id _ q hid
     obtain ⟨ρ2, le2, M, hvr⟩ := mvAll_ok (h0 := h0) (fun id hid => S.old id hid) hrw v1 ⟨h0.hp, h0.nx, []⟩ p.2 ρ p.1 M0 hm
     have hhas : ∀ id b, p.2.hp.get id = some b → BR B ρ2 w' id b ∧ (id < h0.nx → h0.hp.get id = some b) := fun id b q => by
      rcases Nat.lt_or_ge id h0.nx with hid | hid
      ·have q' : h0.hp.get id = some b := by rw [← (M.old id hid).2]; exact q
       refine ⟨(R.has id b q').mono le2 (fun H he => hframe _ ?_), fun _ => q'⟩
       obtain ⟨H2, e1, e2⟩ := (R.has id b q').host_lt
       rw [he] at e1; injection e1 with e1; subst e1; exact e2
      ·refine ⟨?_, fun h9 => by omega⟩
       obtain ⟨s, c, n, e, u, fl0, q1, q2, q3, q4, rfl, q6, rfl⟩ := M.new id b hid q
       obtain ⟨H, arr, fz, r1, r2, r3, r4, r5, r6, r7⟩ := S.hr.has s _ q6
       refine ⟨H, arr, fz, q4.trans r1, r2, r3, r4, fun i v hv2 => ?_, r6, r7⟩
       obtain ⟨x, x1, x2⟩ := r5 i v hv2
       exact ⟨x, x1, flat_VR (r7 rfl i v hv2) x2⟩
     refine ⟨ρ2, hvr v' hv, ⟨⟨S.hr.base, M.none_, fun id b q => (hhas id b q).1, fun id id' b b' H H' q q' hne hr he he' => ?_⟩, M.nx, le2, fun id hid => (M.old id hid).1, S.below, S.size, Nat.le_refl _,
      fun id b q _ => by rw [(M.old id (R.lt q)).2]; exact q, fun id b q hid => ⟨b, (hhas id b q).2 hid, rfl, fun _ => rfl⟩, fun id b q hid => (by obtain ⟨s, c, n, e, u, fl0, q1, q2, q3, q4, rfl, q6, _⟩ := M.new id b hid q; rfl), fun k hk _ => hframe k hk, fun id H hid he => ?_⟩⟩
     ·rcases Nat.lt_or_ge id h0.nx with hid | hid <;> rcases Nat.lt_or_ge id' h0.nx with hid' | hid'
      ·rw [(M.old id hid).1] at he
       rw [(M.old id' hid').1] at he'
       exact R.inj id id' b b' H H' ((hhas id b q).2 hid) ((hhas id' b' q').2 hid') hne hr he he'
      ·rw [(M.old id hid).1] at he
       obtain ⟨s, c, n, e, u, fl0, q1, q2, q3, q4, rfl, q6, rfl⟩ := M.new id' b' hid' q'
       rw [q4] at he'
       have := hfresh s H' q2 he'
       obtain ⟨H2, e1, e2⟩ := (R.has id b ((hhas id b q).2 hid)).host_lt
       rw [he] at e1; injection e1 with e1; subst e1
       omega
      ·rw [(M.old id' hid').1] at he'
       obtain ⟨s, c, n, e, u, fl0, q1, q2, q3, q4, rfl, q6, rfl⟩ := M.new id b hid q
       rw [q4] at he
       have := hfresh s H q2 he
       obtain ⟨H2, e1, e2⟩ := (R.has id' b' ((hhas id' b' q').2 hid')).host_lt
       rw [he'] at e1; injection e1 with e1; subst e1
       omega
      ·obtain ⟨s, c, n, e, u, fl0, q1, q2, q3, q4, rfl, q6, rfl⟩ := M.new id b hid q
       obtain ⟨s', c', n', e', u', fl0', q1', q2', q3', q4', rfl, q6', rfl⟩ := M.new id' b' hid' q'
       rw [q4] at he
       rw [q4'] at he'
       refine S.hr.inj s s' _ _ H H' q6 q6' (fun e9 => hne ?_) rfl he he'
       subst e9
       exact M.inj s id s id' q1 q1' rfl
     ·rcases Nat.lt_or_ge id p.2.nx with hlt | hge
      ·obtain ⟨s, hs⟩ := M.all id hid hlt
       obtain ⟨_, _, q3, q4⟩ := M.mps s id hs
       rw [q3] at he
       exact .inl (hfresh s H q4 he)
      ·rw [M.none_ id hge] at he; cases he
end
end Go.Gev
namespace Go.Gev
open Go.RowKit
theorem slotAt_inj : ∀ {l : List Nat} {i a b n m : Nat}, slotAt a l i = some n → slotAt b l i = some m → n = m → a = b := by
 intro l
 have ge : ∀ {l : List Nat} {i a n : Nat}, slotAt a l i = some n → i ≤ n := by
  intro l
  induction l with
  | nil => intro i a n h; cases h
  | cons x l ih =>
   intro i a n h
   simp only [slotAt] at h
   cases hb : Nat.beq x a with
   | true => rw [hb] at h; injection h with h; omega
   | false => rw [hb] at h; have h2 := ih (i := i.succ) h; have : i + 1 ≤ n := h2; omega
 induction l with
 | nil => intro i a b n m h; cases h
 | cons x l ih =>
  intro i a b n m h1 h2 e
  simp only [slotAt] at h1 h2
  cases hb : Nat.beq x a with
  | true =>
   rw [hb] at h1
   injection h1 with h1
   cases hb2 : Nat.beq x b with
   | true => rw [← Nat.eq_of_beq_eq_true hb, ← Nat.eq_of_beq_eq_true hb2]
   | false => rw [hb2] at h2; have h3 := ge h2; have : i + 1 ≤ m := h3; omega
  | false =>
   rw [hb] at h1
   cases hb2 : Nat.beq x b with
   | true => rw [hb2] at h2; injection h2 with h2; have h3 := ge h1; have : i + 1 ≤ n := h3; omega
   | false => rw [hb2] at h2; exact ih h1 h2 e
theorem slot_inj {sl : List Nat} {a b : Nat} {p q : List Bool} (h1 : slot sl a = some p) (h2 : slot sl b = some q) (e : p = q) : a = b := by
 unfold slot at h1 h2
 cases e1 : slotAt a sl 0 with
 | none => rw [e1] at h1; cases h1
 | some n => cases e2 : slotAt b sl 0 with
  | none => rw [e2] at h2; cases h2
  | some m =>
   rw [e1] at h1; rw [e2] at h2
   injection h1 with h1; injection h2 with h2
   subst h1; subst h2
   exact slotAt_inj e1 e2 (pth_inj e)
theorem slotAt_mem : ∀ {l : List Nat} {i a n : Nat}, slotAt a l i = some n → a ∈ l := by
 intro l
 induction l with
 | nil => intro i a n h; cases h
 | cons x l ih =>
  intro i a n h
  simp only [slotAt] at h
  cases hb : Nat.beq x a with
  | true => rw [← Nat.eq_of_beq_eq_true hb]; exact List.mem_cons_self
  | false => rw [hb] at h; exact List.mem_cons_of_mem _ (ih h)
theorem slot_mem {sl : List Nat} {t : Nat} {p : List Bool} (h : slot sl t = some p) : t ∈ sl := by
 unfold slot at h
 cases e : slotAt t sl 0 with
 | none => rw [e] at h; cases h
 | some n => exact slotAt_mem e
theorem allLt_mem {N : Nat} : ∀ {l : List Nat}, allLt N l = true → ∀ x ∈ l, x < N := by
 intro l
 induction l with
 | nil => intro _ x hx; simp at hx
 | cons y l ih =>
  intro h x hx
  simp only [allLt] at h
  cases hb : Nat.blt y N with
  | false => rw [hb] at h; cases h
  | true =>
   rw [hb] at h
   rw [blt_eq] at hb
   rcases List.mem_cons.1 hx with rfl | hx
   ·simpa using hb
   ·exact ih h x hx
structure FrR (ρ : Ren) (sl : List Nat) (N : Nat) (fr : Fr) (tm : Array Value) : Prop where
 fr : ∀ t p, slot sl t = some p → VR ρ (vOr (fr.getp p)) (tm.getD t undef)
 size : N ≤ tm.size
 lt : ∀ x ∈ sl, x < N
theorem FrR.mono {ρ ρ' : Ren} {sl : List Nat} {N : Nat} {fr : Fr} {tm : Array Value} (h : FrR ρ sl N fr tm) (hle : ρ.le ρ') : FrR ρ' sl N fr tm :=
 ⟨fun t p e => (h.fr t p e).mono hle, h.size, h.lt⟩
theorem FrR.en {ρ : Ren} {sl : List Nat} {N : Nat} {fr : Fr} {tm : Array Value} (h : FrR ρ sl N fr tm) : EnR ρ (plainCx sl []) ⟨fr, []⟩ tm :=
 EnR.plain h.fr fun t i e => by cases e
structure LoR (ρ : Ren) (sl : List Nat) (N : Nat) (fr : Fr) (loc : List Value) (df : List (Option Nat)) (tm : Array Value) : Prop extends FrR ρ sl N fr tm where
 loc : ∀ t i, locAt t df = some i → VR ρ (nthL i loc) (tm.getD t undef)
 dlt : ∀ t i, locAt t df = some i → t < N
theorem LoR.en {ρ : Ren} {sl : List Nat} {N : Nat} {fr : Fr} {loc : List Value} {df : List (Option Nat)} {tm : Array Value} (h : LoR ρ sl N fr loc df tm) : EnR ρ (plainCx sl df) ⟨fr, loc⟩ tm := EnR.plain h.fr h.loc
theorem LoR.mono {ρ ρ' : Ren} {sl : List Nat} {N : Nat} {fr : Fr} {loc : List Value} {df : List (Option Nat)} {tm : Array Value} (h : LoR ρ sl N fr loc df tm) (hle : ρ.le ρ') : LoR ρ' sl N fr loc df tm :=
 ⟨h.toFrR.mono hle, fun t i e => (h.loc t i e).mono hle, h.dlt⟩
theorem FrR.lo {ρ : Ren} {sl : List Nat} {N : Nat} {fr : Fr} {tm : Array Value} (h : FrR ρ sl N fr tm) : LoR ρ sl N fr [] [] tm := ⟨h, (fun t i e => by cases e), (fun t i e => by cases e)⟩
theorem getD_set {tm : Array Value} {d t : Nat} {v : Value} : (tm.setIfInBounds d v).getD t undef = if d = t ∧ d < tm.size then v else tm.getD t undef := by
 by_cases h : d = t
 ·subst h
  by_cases h2 : d < tm.size
  ·simp [Array.getD, h2]
  ·simp [Array.getD, h2]
 ·simp only [Array.getD_eq_getD_getElem?, Array.getElem?_setIfInBounds, h, false_and, if_false]
theorem nthL_z (v : Value) (l : List Value) : nthL .z (v :: l) = v := rfl
theorem nthL_s (i : Ix) (v : Value) (l : List Value) : nthL (.s i) (v :: l) = nthL i l := rfl
theorem locAt_cons_none {t : Nat} {df : List (Option Nat)} {i : Ix} (e : locAt t (none :: df) = some i) : ∃ j, i = .s j ∧ locAt t df = some j := by
 simp only [locAt] at e
 cases hl : locAt t df with
 | none => rw [hl] at e; cases e
 | some j => rw [hl] at e; injection e with e; exact ⟨j, e.symm, rfl⟩
theorem locAt_cons_some {d t : Nat} {df : List (Option Nat)} {i : Ix} (e : locAt t (some d :: df) = some i) : (d = t ∧ i = .z) ∨ (d ≠ t ∧ ∃ j, i = .s j ∧ locAt t df = some j) := by
 simp only [locAt] at e
 cases hb : Nat.beq d t with
 | true => rw [hb] at e; injection e with e; exact .inl ⟨Nat.eq_of_beq_eq_true hb, e.symm⟩
 | false =>
  rw [hb] at e
  cases hl : locAt t df with
  | none => rw [hl] at e; cases e
  | some j => rw [hl] at e; injection e with e; exact .inr ⟨beq_false.1 hb, j, e.symm, rfl⟩
theorem LoR.put {ρ : Ren} {sl : List Nat} {N : Nat} {fr : Fr} {loc : List Value} {df : List (Option Nat)} {a : Act} (h : LoR ρ sl N fr loc df a.tmps) {o : Oper} {v v' : Value} (hv : VR ρ v v') :
 LoR ρ sl N (Gev.put (match o.dst with | none => none | some t => slot sl t) v fr) (v :: loc) (dstOf N o :: df) (a.put o.dst v').tmps := by
 cases hd : o.dst with
 | none =>
  have hdo : dstOf N o = none := by unfold dstOf; rw [hd]
  rw [hdo]
  refine ⟨⟨h.fr, h.size, h.lt⟩, fun t i e => ?_, fun t i e => ?_⟩
  ·obtain ⟨j, rfl, hl⟩ := locAt_cons_none e
   rw [nthL_s]; exact h.loc t j hl
  ·obtain ⟨j, rfl, hl⟩ := locAt_cons_none e
   exact h.dlt t j hl
 | some d =>
  have htm : (a.put (some d) v').tmps = a.tmps.setIfInBounds d v' := rfl
  have hsz : (a.put (some d) v').tmps.size = a.tmps.size := by rw [htm]; simp
  simp only
  refine ⟨⟨fun t p e => ?_, by rw [hsz]; exact h.size, h.lt⟩, fun t i e => ?_, fun t i e => ?_⟩
  ·rw [htm, getD_set]
   by_cases hdt : d = t
   ·subst hdt
    have hlt : d < a.tmps.size := Nat.lt_of_lt_of_le (h.lt d (slot_mem e)) h.size
    rw [if_pos ⟨rfl, hlt⟩, e]
    simp only [Gev.put, Tr.getp_setp, if_true, vOr]
    exact hv
   ·rw [if_neg (fun q => hdt q.1)]
    cases hs : slot sl d with
    | none => exact h.fr t p e
    | some q =>
     simp only [Gev.put]
     rw [Tr.getp_setp, if_neg (fun e2 => hdt (slot_inj hs e e2))]
     exact h.fr t p e
  ·rw [htm, getD_set]
   by_cases hN : d < N
   ·have hdo : dstOf N o = some d := by unfold dstOf; rw [hd]; simp only [blt_eq, decide_eq_true hN]
    rw [hdo] at e
    rcases locAt_cons_some e with ⟨e1, rfl⟩ | ⟨e1, j, rfl, hl⟩
    ·rw [if_pos ⟨e1, Nat.lt_of_lt_of_le hN h.size⟩, nthL_z]; exact hv
    ·rw [if_neg (fun q => e1 q.1), nthL_s]; exact h.loc t j hl
   ·have hdo : dstOf N o = none := by unfold dstOf; rw [hd]; simp only [blt_eq, decide_eq_false hN]
    rw [hdo] at e
    obtain ⟨j, rfl, hl⟩ := locAt_cons_none e
    have := h.dlt t j hl
    rw [if_neg (fun q => hN (by rw [q.1]; exact this)), nthL_s]; exact h.loc t j hl
  ·by_cases hN : d < N
   ·have hdo : dstOf N o = some d := by unfold dstOf; rw [hd]; simp only [blt_eq, decide_eq_true hN]
    rw [hdo] at e
    rcases locAt_cons_some e with ⟨e1, rfl⟩ | ⟨e1, j, rfl, hl⟩
    ·rw [← e1]; exact hN
    ·exact h.dlt t j hl
   ·have hdo : dstOf N o = none := by unfold dstOf; rw [hd]; simp only [blt_eq, decide_eq_false hN]
    rw [hdo] at e
    obtain ⟨j, rfl, hl⟩ := locAt_cons_none e
    exact h.dlt t j hl
theorem goes_spec {ρ : Ren} {sl : List Nat} {N : Nat} {fr : Fr} {loc : List Value} {df : List (Option Nat)} {a : Act} (h : LoR ρ sl N fr loc df a.tmps) {ops : Array Oper} {o : Oper} {b : Bool}
 (e : goes ⟨fr, loc⟩ (match o.guard with | none => none | some (j, want) => match (ops[j]?).bind (·.dst) with | some t => some (gt (plainCx sl df) t, want) | none => some (.c dunno, want)) = some b) :
 Region.wanted o (yielded ops a.tmps) = b := by
 unfold Region.wanted
 cases hg : o.guard with
 | none =>
  rw [hg] at e
  simp only [goes, Option.some.injEq] at e
  subst e; rfl
 | some q =>
  obtain ⟨j, want⟩ := q
  rw [hg] at e
  simp only at e ⊢
  cases hj : (ops[j]?).bind (·.dst) with
  | none => rw [hj] at e; simp [goes, ev, yes, dunno] at e
  | some t =>
   rw [hj] at e
   simp only [goes] at e
   have hv := gt_VR h.en t
   have hy : yielded ops a.tmps j = match a.tmps[t]? with | some (.bool b) => some b | _ => none := by
    unfold yielded; rw [hj]; rfl
   rw [hy]
   generalize hev : ev ⟨fr, loc⟩ (gt (plainCx sl df) t) = v at hv e
   cases v with
   | bool b0 =>
    simp only [yes, Option.some.injEq] at e
    have hq := hv.bool_inv
    have : a.tmps[t]? = some (.bool b0) := by
     rw [Array.getD_eq_getD_getElem?] at hq
     cases ht : a.tmps[t]? with
     | none => rw [ht] at hq; cases hq
     | some x => rw [ht] at hq; simp only [Option.getD_some] at hq; rw [hq]
    rw [this, ← e, eqB_eq]
    cases b0 <;> cases want <;> rfl
   | tuple vs =>
    obtain ⟨ys, hq, hl⟩ := hv.tuple_inv
    simp only [yes] at e
    have hne : ∀ b0, a.tmps[t]? ≠ some (.bool b0) := fun b0 hh => by
     rw [Array.getD_eq_getD_getElem?, hh] at hq; cases hq
    cases hvs : vs.toList with
    | cons x xs => rw [hvs] at e; cases e
    | nil =>
     rw [hvs] at e
     injection e with e
     subst e
     cases ht : a.tmps[t]? with
     | none => simp
     | some x => cases x with
      | bool b0 => exact absurd ht (hne b0)
      | _ => simp
   | _ => simp [yes] at e
end Go.Gev
namespace Go.Gev
open Go.RowKit
def exOf : Ex → Exit
 | .nor => .normal
 | .ret => .ret
 | .exit id => .exit id
def CP (B : Nat) (ρ : Ren) (h : Hs) (w : World) (sl : List Nat) (N : Nat) (df : List Deferred) (e : Ex) (fr' : Fr) (h' : Hs) : Exit → Act → World → Prop := fun x a' w' =>
 x = exOf e ∧ a'.defers = df ∧ ∃ ρ', FrR ρ' sl N fr' a'.tmps ∧ St B ρ h w ρ' h' w'
theorem CP.trans {B : Nat} {ρ ρ1 : Ren} {h h1 h' : Hs} {w w1 : World} {sl : List Nat} {N : Nat} {df : List Deferred} {e : Ex} {fr' : Fr} {x : Exit} {a' : Act} {w' : World} (R : HR B ρ h w) (s : St B ρ h w ρ1 h1 w1)
 (c : CP B ρ1 h1 w1 sl N df e fr' h' x a' w') : CP B ρ h w sl N df e fr' h' x a' w' := by
 obtain ⟨h1, h2, ρ', h3, h4⟩ := c
 exact ⟨h1, h2, ρ', h3, St.trans R s h4⟩
structure Good (P : Program) (R : Rn) : Prop where
 code : ∀ (c : Code) (N : Nat) (sl : List Nat) (fr fr' : Fr) (h h' : Hs) (e : Ex) (B : Nat) (ρ : Ren) (a : Act) (w : World), R (.code (gcode P N sl c)) fr h = some (.fin e fr' h') → FrR ρ sl N fr a.tmps → HR B ρ h w →
  c.wp P (CP B ρ h w sl N a.defers e fr' h') a w
 loop : ∀ (c : Code) (N : Nat) (sl : List Nat) (fr fr' : Fr) (h h' : Hs) (e : Ex), R (.code (.loop (gcode P N sl c))) fr h = some (.fin e fr' h') → ∃ n, ∀ (B : Nat) (ρ : Ren) (a : Act) (w : World) (Q : Exit → Act → World → Prop), FrR ρ sl N fr a.tmps → HR B ρ h w →
  (∀ x a' w', CP B ρ h w sl N a.defers e fr' h' x a' w' → Q x a' w') → Code.rounds P c Q n a w
 call : ∀ (f : FuncId) (args : List Value) (args' : Array Value) (v : Value) (h h' : Hs) (B : Nat) (ρ : Ren) (w : World), R (.call f args) .e h = some (.val v h') → VL ρ args args'.toList → HR B ρ h w →
  Calls P f args' w (fun e w' => ∃ v' ρ', e = .returned v' ∧ VR ρ' v v' ∧ St B ρ h w ρ' h' w')
def Named (P : Program) : Prop := ∀ (f : FuncId) (fn : Func), P.funcs[f]? = some fn → fn.body.isSome = true → (fn.name == "runtime.NumGoroutine") = false
def HC (P : Program) (R : Rn) : Prop := ∀ (ρ : Ren) (f : FuncId) (args args' : List Value) (v : Value) (h h' : Hs), VL ρ args args' → R (.call f args) .e h = some (.val v h') → ∃ g, FF P f = some g
section
variable {P : Program} {R : Rn}
theorem callFunc_run (hN : Named P) {f : FuncId} {g : GFn} (hg : FF P f = some g) (args : Array Value) (w : World) : (callFunc f args).run P w = .ok (.enter f args) w := by
 unfold FF at hg
 cases hd : P.funcs.toList.drop f with
 | nil => rw [hd] at hg; cases hg
 | cons fn rest =>
  rw [hd] at hg
  have hf : P.funcs[f]? = some fn := by
   have : (P.funcs.toList.drop f)[0]? = some fn := by rw [hd]; rfl
   simpa using this
  have hb : fn.body.isSome = true := by
   cases hb : fn.body with
   | none => simp only [gfn, hb] at hg; cases hg
   | some b => rfl
  have hnm := hN f fn hf hb
  have hb2 : fn.body.isNone = false := by cases hbb : fn.body with | none => rw [hbb] at hb; cases hb | some b => rfl
  simp only [callFunc, Sem.run_bind, run_program, Result.andThen_ok, hf, hnm, hb2, Bool.false_eq_true, if_false]
  rfl
theorem gopS_call {cx : Cx} {o : Oper} {f : FuncId} {args : List GX} (h : gopS P cx o = some (.call f args)) : ∃ c, o.op = .call c ∧ c.callee = .value (.func f) ∧ gxs cx c.args.toList = some args := by
 unfold gopS at h
 split at h
 case h_23 c ho =>
  split at h
  ·rename_i f0 hc
   simp only [Option.bind_eq_bind, Option.bind_eq_some_iff, Option.some.injEq, GOp.call.injEq] at h
   obtain ⟨xs, hx, rfl, rfl⟩ := h
   exact ⟨c, ho, hc, hx⟩
  all_goals (repeat' (split at h))
  all_goals simp [Option.bind_eq_some_iff] at h
 all_goals (repeat' (split at h))
 all_goals simp [Option.bind_eq_some_iff] at h
theorem gopS_callv {cx : Cx} {o : Oper} {f : GX} {args : List GX} (h : gopS P cx o = some (.callv f args)) : ∃ c x, o.op = .call c ∧ c.callee = .value x ∧ gx cx x = some f ∧ gxs cx c.args.toList = some args := by
 unfold gopS at h
 split at h
 case h_23 c ho =>
  split at h
  ·simp [Option.bind_eq_some_iff] at h
  ·rename_i x hn hc
   simp only [Option.bind_eq_bind, Option.bind_eq_some_iff, Option.some.injEq, GOp.callv.injEq] at h
   obtain ⟨y, hy, xs, hx, rfl, rfl⟩ := h
   exact ⟨c, x, ho, hc, hy, hx⟩
  all_goals (repeat' (split at h))
  all_goals simp [Option.bind_eq_some_iff] at h
 all_goals (repeat' (split at h))
 all_goals simp [Option.bind_eq_some_iff] at h
theorem op_wp (hN : Named P) (G : Good P R) (hcall : HC P R) {cx : Cx} {o : Oper} {en : En} {h : Hs} {B : Nat} {ρ : Ren} {a : Act} {w : World} {K : Value → Hs → Option Out} {out : Out}
 {next : Act → World → Prop} {Q : Exit → Act → World → Prop} (E : EnR ρ cx en a.tmps) (Rl : HR B ρ h w) (he : doOp R en h K (gop P cx o) = some out)
 (hk : ∀ v h' v' w' ρ', K v h' = some out → VR ρ' v v' → St B ρ h w ρ' h' w' → next (a.put o.dst v') w') : o.wp P a w next Q := by
 -- a call of a function of the program
 have callCase : ∀ (f : FuncId) (args : List Value) (args' : Array Value) (c : Call), o.op = .call c → isVal K (R (.call f args) .e h) = some out → VL ρ args args'.toList →
  (execOp a.eval o).run P w = (callFunc f args').run P w → o.wp P a w next Q := fun f args args' c ho hv hl hx => by
  cases hr : R (.call f args) .e h with
  | none => rw [hr] at hv; cases hv
  | some x => cases x with
   | fin e fr h2 => rw [hr] at hv; cases hv
   | val v h2 =>
    rw [hr] at hv
    obtain ⟨g, hg⟩ := hcall _ _ _ _ _ _ _ hl hr
    have hc := G.call f args args' v h h2 B ρ w hr hl Rl
    unfold Oper.wp
    rw [hx, callFunc_run hN hg]
    simp only [Oper.upon]
    refine hc.mono fun e w' he2 => ?_
    obtain ⟨v', ρ', rfl, h1, h3⟩ := he2
    exact hk v h2 v' w' ρ' hv h1 h3
 unfold gop at he
 cases hX : gopX P cx o with
 | some g =>
  rw [hX] at he
  simp only [doOp] at he
  cases hg : g en h with
  | none => rw [hg] at he; cases he
  | some p =>
   rw [hg] at he
   obtain ⟨v', w', ρ', hd, hv, hst⟩ := gopX_sound hX B ρ en h w a p.1 p.2 E Rl hg
   have := hk p.1 p.2 v' w' ρ' he hv hst
   unfold Oper.wp
   rcases hd with hd | ⟨hd, rfl⟩
   ·rw [hd]; exact this
   ·rw [hd]; exact this
 | none =>
 rw [hX] at he
 simp only at he
 cases hs : gopS P cx o with
 | none =>
  rw [hs] at he
  simp [doOp, oBad, after] at he
 | some go =>
  rw [hs] at he
  cases go with
  | fn g =>
   simp only [doOp] at he
   cases hg : g en h with
   | none => rw [hg] at he; cases he
   | some p =>
    rw [hg] at he
    obtain ⟨v', w', ρ', hd, hv, hst⟩ := gopS_sound hs B ρ en h w a p.1 p.2 E Rl hg
    have := hk p.1 p.2 v' w' ρ' he hv hst
    unfold Oper.wp
    rcases hd with hd | ⟨hd, rfl⟩
    ·rw [hd]; exact this
    ·rw [hd]; exact this
  | call f args =>
   simp only [doOp] at he
   obtain ⟨c, ho, hc, hx⟩ := gopS_call hs
   refine callCase f _ (c.args.map a.eval) c ho he (by simpa using gxs_VL E hx) ?_
   simp [execOp, ho, resolve, hc, Act.eval, Deferred.ofValue, invoke]
  | callv f args =>
   simp only [doOp] at he
   obtain ⟨c, x, ho, hc, hf, hx⟩ := gopS_callv hs
   have hv := gx_VR E hf
   generalize hq : a.eval x = fv at hv
   generalize hev : ev en f = fa at hv he
   cases fa with
   | func fn first captured =>
    cases fn with
    | func g =>
     cases hv with
     | func _ _ f' _ c' hn h1 h2 h3 h4 =>
      refine callCase g _ (f' ++ c.args.map a.eval ++ c') c ho he ?_ ?_
      ·have e1 := VL.arr h1 h2
       have e2 := VL.arr h3 h4
       have e3 := gxs_VL E hx
       have := (e1.append e3).append e2
       simpa using this
      ·simp [execOp, ho, resolve, hc, hq, Deferred.ofValue, invoke]
    | _ => simp [callV, isVal] at he
   | _ => simp [callV, isVal] at he
theorem runOps_cons (R : Rn) (o : GOper) (rest : List GOper) (fr : Fr) (loc : List Value) (h : Hs) :
 runOps R (o :: rest) fr loc h = opGo R ⟨fr, loc⟩ h o (fun v h' => runOps R rest (put o.dst v fr) (v :: loc) h') (goes ⟨fr, loc⟩ o.guard) := rfl
theorem put_defers (a : Act) (d : Option Tmp) (v : Value) : (a.put d v).defers = a.defers := by cases d <;> rfl
end
end Go.Gev

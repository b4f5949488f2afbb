/- A region that draws its order: whichever order is drawn, the evaluator's run says what the model does. -/
import Derived.Test.YtndlcnfnoiabbaaGevDraw1
import Derived.Orders
namespace Go.Gev
open Go.RowKit
def Ren.upto (ρ : Ren) (n : Nat) : Ren := fun id => if id < n then ρ id else none
theorem Ren.upto_mono {ρ ρ' : Ren} {n m : Nat} (h : ρ.le ρ') (hnm : n ≤ m) : (ρ.upto n).le (ρ'.upto m) := fun id X e => by
 unfold Ren.upto at e ⊢; split at e
 ·rename_i hi; rw [if_pos (by omega)]; exact h _ _ e
 ·cases e
theorem Ren.upto_some {ρ : Ren} {n id : Nat} {X : Host} (h : ρ.upto n id = some X) : id < n ∧ ρ id = some X := by
 unfold Ren.upto at h; split at h
 ·rename_i hi; exact ⟨hi, h⟩
 ·cases h
theorem Ren.upto_lt {ρ : Ren} {n id : Nat} (h : id < n) : ρ.upto n id = ρ id := by unfold Ren.upto; rw [if_pos h]
theorem Ren.upto_ge {ρ : Ren} {n id : Nat} (h : n ≤ id) : ρ.upto n id = none := by unfold Ren.upto; rw [if_neg (by omega)]
structure Dr (R : Rn) (P : Program) (N : Nat) (sl : List Nat) (ops : Array Oper) (fr : Fr) (V : Nat → Value) (H : Nat → Hs) (E : Nat → List Nat) (bm : Nat → Nat) (K : Nat → DK) (D : Nat → Option Nat) (X : Nat → Cx) (lw : Option LW) (hz : Hs) : Prop where
 edges : ∀ i o, ops[i]? = some o → E i = edgesOf o.after.toList
 elt : ∀ i, i < ops.size → ∀ e ∈ E i, e < i
 bit : ∀ i x, i < ops.size → (bm i).testBit x = true → ∃ e ∈ E i, x = e ∨ (bm e).testBit x = true
 dst : ∀ i o, ops[i]? = some o → D i = dstOf N o
 dsts : ∀ (i j : Nat) (o o' : Oper) (t : Nat), ops[i]? = some o → ops[j]? = some o' → o.dst = some t → o'.dst = some t → i = j
 bar1 : ∀ i j, K i = .bar → i < ops.size → j < i → K j ≠ .blind → (bm i).testBit j = true
 bar2 : ∀ i j, K i = .bar → i < j → j < ops.size → K j ≠ .blind → K j ≠ .make → (bm j).testBit i = true
 look : ∀ i t, i < ops.size → (∃ j, j < i ∧ D j = some t ∧ (bm i).testBit j = true ∧ ∃ ix, (X i).look t = .l ix ∧ ∀ U : Nat → Value, nthL ix (backL U i) = U j) ∨ (X i).look t = .c dunno ∨
  (∃ p, slot sl t = some p ∧ (X i).look t = .t p ∧ ∀ j, j < ops.size → D j = some t → (bm j).testBit i = true)
 recs : ∀ i o, ops[i]? = some o → DRec R fr hz ⟨gop P (X i) o, (goper P (X i) sl ops o).guard, K i, lmIf (bm i) i (K i), lw, isLow lw o.op⟩ (backL V i) (backL (rng H) i) (H i) (V i) (H (i + 1))
 lowB : ∀ i o, ops[i]? = some o → isLow lw o.op = true → K i = .blind
 cut0 : cutO fr lw ≤ (H 0).lo ∧ cutO fr lw ≤ (H 0).nx
section
variable {R : Rn} {P : Program} {N : Nat} {sl : List Nat} {ops : Array Oper} {fr : Fr} {V : Nat → Value} {H : Nat → Hs} {E : Nat → List Nat} {bm : Nat → Nat} {K : Nat → DK} {D : Nat → Option Nat} {X : Nat → Cx} {lw : Option LW} {hz : Hs}
theorem Dr.opAt (_ : Dr R P N sl ops fr V H E bm K D X lw hz) {i : Nat} (hi : i < ops.size) : ∃ o, ops[i]? = some o := ⟨ops[i], by simp [hi]⟩
theorem Dr.nx1 (d : Dr R P N sl ops fr V H E bm K D X lw hz) {i : Nat} (hi : i < ops.size) : (H i).nx ≤ (H (i + 1)).nx := by
 obtain ⟨o, ho⟩ := d.opAt hi
 rcases d.recs i o ho with ⟨_, _, e⟩ | ⟨_, h1, _, hf0, e⟩
 ·rw [e]; exact Nat.le_refl _
 ·have hf := (andB_true hf0).1
  simp only at hf e
  cases hk : K i with
  | blind => rw [e, hk]; exact Nat.le_refl _
  | light =>
   rw [hk] at hf e
   rw [e]
   exact Nat.le_of_ble_eq_true (andB_true hf).1
  | make =>
   rw [hk] at hf e
   rw [e]
   exact Nat.le_of_ble_eq_true (andB_true hf).1
  | bar =>
   rw [hk] at hf e
   rw [e]
   exact Nat.le_of_ble_eq_true hf
theorem Dr.nx (d : Dr R P N sl ops fr V H E bm K D X lw hz) {i j : Nat} (hij : i ≤ j) (hj : j ≤ ops.size) : (H i).nx ≤ (H j).nx := by
 induction j with
 | zero => have : i = 0 := by omega
           subst this; exact Nat.le_refl _
 | succ j ih =>
  by_cases e : i = j + 1
  ·subst e; exact Nat.le_refl _
  ·exact Nat.le_trans (ih (by omega) (by omega)) (d.nx1 (by omega))
theorem Dr.cut (d : Dr R P N sl ops fr V H E bm K D X lw hz) : ∀ {i : Nat}, i ≤ ops.size → cutO fr lw ≤ (H i).lo ∧ cutO fr lw ≤ (H i).nx := by
 intro i
 induction i with
 | zero => intro _; exact d.cut0
 | succ i ih =>
  intro hi
  obtain ⟨c1, c2⟩ := ih (by omega)
  refine ⟨?_, Nat.le_trans c2 (d.nx1 (by omega))⟩
  obtain ⟨o, ho⟩ := d.opAt (i := i) (by omega)
  rcases d.recs i o ho with ⟨_, _, e⟩ | ⟨_, h1, _, hf0, e⟩
  ·rw [e]; exact c1
  ·have hf := Nat.le_of_ble_eq_true (andB_true hf0).2
   simp only at hf e
   cases hk : K i with
   | blind => rw [e, hk]; exact c1
   | light => rw [e, hk]; exact c1
   | make => rw [e, hk]; exact c1
   | bar => rw [e, hk]; exact hf
theorem Dr.blind_nx (d : Dr R P N sl ops fr V H E bm K D X lw hz) {i : Nat} (hi : i < ops.size) (hk : K i = .blind) : H (i + 1) = H i := by
 obtain ⟨o, ho⟩ := d.opAt hi
 rcases d.recs i o ho with ⟨_, _, e⟩ | ⟨_, h1, _, hf0, e⟩
 ·exact e
 ·rw [e]; simp only [hk]; rfl
theorem Dr.step (d : Dr R P N sl ops fr V H E bm K D X lw hz) {i : Nat} (hi : i < ops.size) (hk : K i ≠ .bar) : (H (i + 1)).lo = (H i).lo ∧ ∀ id, (id < (H i).nx ∨ (H (i + 1)).nx ≤ id) → (H (i + 1)).hp.get id = (H i).hp.get id := by
 obtain ⟨o, ho⟩ := d.opAt hi
 rcases d.recs i o ho with ⟨_, _, e⟩ | ⟨_, h1, _, hf0, e⟩
 ·rw [e]; exact ⟨rfl, fun _ _ => rfl⟩
 ·have hf := (andB_true hf0).1
  simp only at hf e
  cases hk2 : K i with
  | blind => rw [e, hk2]; exact ⟨rfl, fun _ _ => rfl⟩
  | bar => exact absurd hk2 hk
  | light =>
   rw [hk2] at hf e
   have hnx : (H i).nx ≤ h1.nx := Nat.le_of_ble_eq_true (andB_true hf).1
   rw [e]
   refine ⟨rfl, fun id hid => ?_⟩
   simp only [dNext, Nat.sub_eq] at hid ⊢
   rw [backN_get, if_neg (by omega)]
  | make =>
   rw [hk2] at hf e
   have hnx : (H i).nx ≤ h1.nx := Nat.le_of_ble_eq_true (andB_true hf).1
   rw [e]
   refine ⟨rfl, fun id hid => ?_⟩
   simp only [dNext, Nat.sub_eq] at hid ⊢
   rw [backN_get, if_neg (by omega)]
theorem Dr.origin (d : Dr R P N sl ops fr V H E bm K D X lw hz) {p : Nat} {id : Nat} {b : Blk} : ∀ {i : Nat}, p ≤ i → i ≤ ops.size → (∀ k, p ≤ k → k < i → K k ≠ .bar) → (H i).hp.get id = some b →
 (H p).hp.get id = some b ∨ ∃ j, p ≤ j ∧ j < i ∧ (H j).nx ≤ id ∧ id < (H (j + 1)).nx ∧ (H (j + 1)).hp.get id = some b := by
 intro i
 induction i with
 | zero => intro h1 _ _ hb; have : p = 0 := by omega
           subst this; exact .inl hb
 | succ i ih =>
  intro h1 h2 hk hb
  by_cases e : p = i + 1
  ·subst e; exact .inl hb
  ·by_cases hr : (H i).nx ≤ id ∧ id < (H (i + 1)).nx
   ·exact .inr ⟨i, by omega, by omega, hr.1, hr.2, hb⟩
   ·rw [(d.step (by omega) (hk i (by omega) (by omega))).2 id (by omega)] at hb
    rcases ih (by omega) (by omega) (fun k a c => hk k a (by omega)) hb with q | ⟨j, q1, q2, q3⟩
    ·exact .inl q
    ·exact .inr ⟨j, q1, by omega, q3⟩
theorem Dr.keep (d : Dr R P N sl ops fr V H E bm K D X lw hz) {p : Nat} {id : Nat} : ∀ {i : Nat}, p ≤ i → i ≤ ops.size → (∀ k, p ≤ k → k < i → K k ≠ .bar) → id < (H p).nx → (H i).hp.get id = (H p).hp.get id := by
 intro i
 induction i with
 | zero => intro h1 _ _ _; have : p = 0 := by omega
           subst this; rfl
 | succ i ih =>
  intro h1 h2 hk hid
  by_cases e : p = i + 1
  ·subst e; rfl
  ·rw [(d.step (by omega) (hk i (by omega) (by omega))).2 id (.inl (Nat.lt_of_lt_of_le hid (d.nx (by omega) (by omega)))), ih (by omega) (by omega) (fun k a c => hk k a (by omega)) hid]
theorem Dr.lo (d : Dr R P N sl ops fr V H E bm K D X lw hz) {p : Nat} : ∀ {i : Nat}, p ≤ i → i ≤ ops.size → (∀ k, p ≤ k → k < i → K k ≠ .bar) → (H i).lo = (H p).lo := by
 intro i
 induction i with
 | zero => intro h1 _ _; have : p = 0 := by omega
           subst this; rfl
 | succ i ih =>
  intro h1 h2 hk
  by_cases e : p = i + 1
  ·subst e; rfl
  ·rw [(d.step (by omega) (hk i (by omega) (by omega))).1, ih (by omega) (by omega) (fun k a c => hk k a (by omega))]
structure Inv (ops : Array Oper) (V : Nat → Value) (H : Nat → Hs) (bm : Nat → Nat) (K : Nat → DK) (D : Nat → Option Nat) (N : Nat) (B : Nat) (ρ0 : Ren) (h0 : Hs) (w0 : World) (a0 : Act) (listed : Array Bool) (a : Act) (w : World) (p : Nat) (ρb : Ren) (wb : World) (ρ : Ren) : Prop where
 sz : listed.size = ops.size
 closed : ∀ i x, listed.getD i false = true → (bm i).testBit x = true → listed.getD x false = true
 ple : p ≤ ops.size
 pnb : ∀ j, j < p → K j ≠ .blind → listed.getD j false = true
 nobar : ∀ j, p ≤ j → listed.getD j false = true → K j ≠ .bar
 st : St B ρ0 h0 w0 ρb (H p) wb
 pre : ∀ id, id < (H p).nx → ρ id = ρb id
 dom : ∀ id X, (H p).nx ≤ id → ρ id = some X → w0.heap.size ≤ X.blk ∧ ∃ j, p ≤ j ∧ j < ops.size ∧ listed.getD j false = true ∧ (H j).nx ≤ id ∧ id < (H (j + 1)).nx
 heap : ∀ k, k < wb.heap.size → w.heap[k]? = wb.heap[k]?
 below : Below B wb w
 size : wb.heap.size ≤ w.heap.size
 br : ∀ j, p ≤ j → listed.getD j false = true → ∀ id b, (H j).nx ≤ id → id < (H (j + 1)).nx → (H (j + 1)).hp.get id = some b → BR B (ρ.upto (H (j + 1)).nx) w id b ∧ isRw b = true
 inj : ∀ j j', p ≤ j → p ≤ j' → listed.getD j false = true → listed.getD j' false = true → ∀ id id' b b' X X', (H j).nx ≤ id → id < (H (j + 1)).nx → (H j').nx ≤ id' → id' < (H (j' + 1)).nx →
  (H (j + 1)).hp.get id = some b → (H (j' + 1)).hp.get id' = some b' → id ≠ id' → ρ id = some X → ρ id' = some X' → X.blk ≠ X'.blk
 apart : ∀ j, p ≤ j → listed.getD j false = true → ∀ id b X, (H j).nx ≤ id → id < (H (j + 1)).nx → (H (j + 1)).hp.get id = some b → ρ id = some X → ∀ id0 b0 X0, (H p).hp.get id0 = some b0 → ρb id0 = some X0 → X0.blk ≠ X.blk
 vals : ∀ j t, listed.getD j false = true → D j = some t → VR (ρ.upto (H (j + 1)).nx) (V j) (a.tmps.getD t undef)
 rest : ∀ t, t < N → (∀ j, listed.getD j false = true → D j ≠ some t) → a.tmps.getD t undef = a0.tmps.getD t undef
 tsz : a.tmps.size = a0.tmps.size
 dfr : a.defers = a0.defers
variable {B : Nat} {ρ0 : Ren} {h0 : Hs} {w0 : World} {a0 : Act} {listed : Array Bool} {a : Act} {w : World} {p : Nat} {ρb : Ren} {wb : World} {ρ : Ren}
theorem HR.host_of {B : Nat} {ρ : Ren} {h : Hs} {w : World} (Rl : HR B ρ h w) {id : Nat} {b : Blk} (hb : h.hp.get id = some b) {X : Host} (hx : ρ id = some X) : X.blk < w.heap.size := by
 obtain ⟨X', e, hl⟩ := (Rl.has id b hb).host_lt
 rw [hx] at e; injection e with e; subst e; exact hl
theorem Inv.leb (I : Inv ops V H bm K D N B ρ0 h0 w0 a0 listed a w p ρb wb ρ) : ρb.le ρ := fun id X e => by
 rcases Nat.lt_or_ge id (H p).nx with h | h
 ·rw [I.pre id h]; exact e
 ·rw [I.st.hr.dom id h] at e; cases e
theorem Inv.le0 (I : Inv ops V H bm K D N B ρ0 h0 w0 a0 listed a w p ρb wb ρ) : ρ0.le ρ := Ren.le_trans I.st.le I.leb
theorem Inv.listed_lt (I : Inv ops V H bm K D N B ρ0 h0 w0 a0 listed a w p ρb wb ρ) {j : Nat} (h : listed.getD j false = true) : j < ops.size := by
 rcases Nat.lt_or_ge j ops.size with h1 | h1
 ·exact h1
 ·rw [Array.getD_eq_getD_getElem?, Array.getElem?_eq_none (by rw [I.sz]; exact h1)] at h; cases h
theorem Inv.part (d : Dr R P N sl ops fr V H E bm K D X lw hz) (I : Inv ops V H bm K D N B ρ0 h0 w0 a0 listed a w p ρb wb ρ) {i n : Nat} (hpi : p ≤ i) (hi : i ≤ ops.size) (hn : (H i).nx ≤ n) (hk : ∀ k, p ≤ k → k < i → K k ≠ .bar) (hp : Tr Blk) (lo : Nat)
 (hs : ∀ id b, hp.get id = some b → (H i).hp.get id = some b ∧ ∀ j, j < i → (H j).nx ≤ id → id < (H (j + 1)).nx → listed.getD j false = true) :
 (∀ id, n ≤ id → ρ.upto (H i).nx id = none) ∧ HR B (ρ.upto (H i).nx) ⟨hp, n, lo⟩ w := by
 have hpn : (H p).nx ≤ (H i).nx := d.nx hpi hi
 have hdom : ∀ id, n ≤ id → ρ.upto (H i).nx id = none := fun id hid => Ren.upto_ge (by omega)
 have hold : ∀ id b, (H p).hp.get id = some b → BR B (ρ.upto (H i).nx) w id b := fun id b hb => by
  refine (I.st.hr.has id b hb).mono (fun id' X e => ?_) (fun X hX => I.heap _ (I.st.hr.host_of hb hX))
  have hid : id' < (H p).nx := by
   rcases Nat.lt_or_ge id' (H p).nx with h | h
   ·exact h
   ·rw [I.st.hr.dom id' h] at e; cases e
  rw [Ren.upto_lt (Nat.lt_of_lt_of_le hid hpn), I.pre id' hid]; exact e
 refine ⟨hdom, Nat.le_trans I.st.hr.base I.size, hdom, fun id b hb => ?_, fun id id' b b' X X' hb hb' hne hr hX hX' => ?_⟩
 ·obtain ⟨q1, q2⟩ := hs id b hb
  rcases d.origin hpi hi hk q1 with q | ⟨j, j1, j2, j3, j4, j5⟩
  ·exact hold id b q
  ·exact ((I.br j j1 (q2 j j2 j3 j4) id b j3 j4 j5).1).mono (Ren.upto_mono (Ren.le_refl _) (d.nx (by omega) hi)) (fun _ _ => rfl)
 ·obtain ⟨_, eX⟩ := Ren.upto_some hX
  obtain ⟨_, eX'⟩ := Ren.upto_some hX'
  obtain ⟨q1, q2⟩ := hs id b hb
  obtain ⟨r1, r2⟩ := hs id' b' hb'
  rcases d.origin hpi hi hk q1 with q | ⟨j, j1, j2, j3, j4, j5⟩
  ·have hlt := I.st.hr.lt q
   rw [I.pre id hlt] at eX
   rcases d.origin hpi hi hk r1 with r | ⟨k, k1, k2, k3, k4, k5⟩
   ·rw [I.pre id' (I.st.hr.lt r)] at eX'
    exact I.st.hr.inj id id' b b' X X' q r hne hr eX eX'
   ·exact I.apart k k1 (r2 k k2 k3 k4) id' b' X' k3 k4 k5 eX' id b X q eX
  ·rcases d.origin hpi hi hk r1 with r | ⟨k, k1, k2, k3, k4, k5⟩
   ·rw [I.pre id' (I.st.hr.lt r)] at eX'
    exact fun e => I.apart j j1 (q2 j j2 j3 j4) id b X j3 j4 j5 eX id' b' X' r eX' e.symm
   ·exact I.inj j k j1 k1 (q2 j j2 j3 j4) (r2 k k2 k3 k4) id id' b b' X X' j3 j4 k3 k4 j5 k5 hne eX eX'
theorem Inv.conv (d : Dr R P N sl ops fr V H E bm K D X lw hz) (I : Inv ops V H bm K D N B ρ0 h0 w0 a0 listed a w p ρb wb ρ) (R0 : HR B ρ0 h0 w0) {i : Nat} (hpi : p ≤ i) (hi : i ≤ ops.size) (hk : ∀ k, p ≤ k → k < i → K k ≠ .bar)
 (h1 : ∀ j, j < i → K j ≠ .blind → listed.getD j false = true) : St B ρ0 h0 w0 (ρ.upto (H i).nx) (H i) w := by
 have hnb : ∀ j, j < i → (H j).nx ≤ (H (j + 1)).nx → ∀ id, (H j).nx ≤ id → id < (H (j + 1)).nx → listed.getD j false = true := fun j hj _ id a1 a2 => by
  refine h1 j hj fun hb => ?_
  have := d.blind_nx (by omega) hb; rw [this] at a2; omega
 have hR : HR B (ρ.upto (H i).nx) (H i) w := (I.part d hpi hi (Nat.le_refl _) hk (H i).hp (H i).lo (fun id b hb => ⟨hb, fun j hj a1 a2 => hnb j hj (d.nx1 (by omega)) id a1 a2⟩)).2
 have hpn : (H p).nx ≤ (H i).nx := d.nx hpi hi
 have h0p : h0.nx ≤ (H p).nx := I.st.nx
 have hlo : (H i).lo = (H p).lo := d.lo hpi hi hk
 have hid0 : ∀ {id X}, ρ0 id = some X → id < h0.nx := fun {id X} e => by
  rcases Nat.lt_or_ge id h0.nx with g | g
  ·exact g
  ·rw [R0.dom id g] at e; cases e
 refine ⟨hR, Nat.le_trans h0p hpn, fun id X e => ?_, fun id hid => ?_, I.st.below.trans I.below, Nat.le_trans I.st.size I.size, by rw [hlo]; exact I.st.lo, fun id b hb hl => ?_, fun id b hb hid => ?_, fun id b hb hid => ?_, fun k hkk hno => ?_, fun id X hid e => ?_⟩
 ·rw [Ren.upto_lt (by have := hid0 e; omega)]; exact I.le0 _ _ e
 ·rw [Ren.upto_lt (by omega), I.pre id (by omega)]; exact I.st.old id hid
 ·rw [hlo] at hl
  have h2 := I.st.keep id b hb hl
  rw [d.keep hpi hi hk (I.st.hr.lt h2)]; exact h2
 ·rw [d.keep hpi hi hk (by omega)] at hb
  rw [hlo]
  exact I.st.gone id b hb hid
 ·rcases d.origin hpi hi hk hb with q | ⟨j, j1, j2, j3, j4, j5⟩
  ·exact I.st.newrw id b q hid
  ·exact (I.br j j1 (hnb j j2 (d.nx1 (by omega)) id j3 j4) id b j3 j4 j5).2
 ·rw [I.heap k (Nat.lt_of_lt_of_le hkk I.st.size)]
  exact I.st.frame k hkk fun id b X hb hr hX hl => hno id b X hb hr hX (by rw [hlo]; exact hl)
 ·obtain ⟨_, e⟩ := Ren.upto_some e
  rcases Nat.lt_or_ge id (H p).nx with g | g
  ·rw [I.pre id g] at e
   rw [hlo]
   exact I.st.fresh id X hid e
  ·exact .inl (I.dom id X g e).1
theorem fzOnly_some {b0 : Option Blk} {b : Blk} (h : fzOnly b0 = some b) : b0 = some b ∧ isRw b = false := by
 cases b0 with
 | none => cases h
 | some b0 => cases b0 with
  | mp es k => cases h
  | it _ _ _ _ => cases h
  | lp _ => cases h
  | row c n e u rw fl => cases rw with
   | true => cases h
   | false => injection h with h; subst h; exact ⟨rfl, rfl⟩
theorem lowW_get {fr : Fr} {lw : Option LW} {h0 h : Hs} (hlt : ∀ id b, h0.hp.get id = some b → id < h0.nx) {id : Nat} {b : Blk} (hb : (lowW fr h0 h lw).hp.get id = some b) : h0.hp.get id = some b ∧ (id < cutO fr lw ∨ isRw b = false) := by
 have lo : ∀ c, (lowM c h0 h).hp.get id = some b → h0.hp.get id = some b ∧ id < c := fun c hb => by
  obtain ⟨q1, q2⟩ := hideN_get _ _ _ _ _ hb
  refine ⟨q1, ?_⟩
  have := hlt _ _ q1
  simp only [Nat.sub_eq] at q2
  omega
 cases lw with
 | none => obtain ⟨q, q2⟩ := lo 0 hb; omega
 | some L =>
  obtain ⟨fz, p, ts⟩ := L
  cases fz with
  | false => obtain ⟨q, q2⟩ := lo _ hb; exact ⟨q, .inl q2⟩
  | true =>
   have hb : (Tr.set .e (fzId fr ⟨true, p, ts⟩) (fzOnly (h0.hp.get (fzId fr ⟨true, p, ts⟩)))).get id = some b := hb
   rw [Tr.get_set] at hb
   split at hb
   ·rename_i e; obtain ⟨q1, q2⟩ := fzOnly_some hb; rw [e] at q1; exact ⟨q1, .inr q2⟩
   ·rw [Tr.get_e] at hb; cases hb
theorem lowW_nx {fr : Fr} {lw : Option LW} {h0 h : Hs} : (lowW fr h0 h lw).nx = h.nx := by
 cases lw with
 | none => rfl
 | some L => obtain ⟨fz, p, ts⟩ := L; cases fz <;> rfl
theorem lowW_lo {fr : Fr} {lw : Option LW} {h0 h : Hs} : (lowW fr h0 h lw).lo = h.nx := by
 cases lw with
 | none => rfl
 | some L => obtain ⟨fz, p, ts⟩ := L; cases fz <;> rfl
theorem Inv.low (d : Dr R P N sl ops fr V H E bm K D X lw hz) (R0 : HR B ρ0 h0 w0) (hH0 : (H 0).nx = h0.nx) (I : Inv ops V H bm K D N B ρ0 h0 w0 a0 listed a w p ρb wb ρ) {i : Nat} (hi : i ≤ ops.size) : HR B (ρ.upto (H i).nx) (lowW fr h0 (H i) lw) w := by
 have hc := d.cut I.ple
 have h0i : h0.nx ≤ (H i).nx := by rw [← hH0]; exact d.nx (Nat.zero_le _) hi
 have hsee : ∀ id b, (lowW fr h0 (H i) lw).hp.get id = some b → h0.hp.get id = some b ∧ (id < cutO fr lw ∨ isRw b = false) := fun id b hb => lowW_get (fun _ _ h => R0.lt h) hb
 have hle : ρ0.le (ρ.upto (H i).nx) := fun id X e => by
  have hid : id < h0.nx := by
   rcases Nat.lt_or_ge id h0.nx with g | g
   ·exact g
   ·rw [R0.dom id g] at e; cases e
  rw [Ren.upto_lt (by omega)]
  exact I.le0 _ _ e
 have hhost : ∀ id b X, h0.hp.get id = some b → ρ.upto (H i).nx id = some X → ρ0 id = some X := fun id b X hb hX => by
  obtain ⟨L, e, _⟩ := (R0.has id b hb).host_lt
  rw [hle _ _ e] at hX
  rw [e]; exact hX
 refine ⟨Nat.le_trans I.st.hr.base I.size, fun id hid => Ren.upto_ge (by rw [lowW_nx] at hid; exact hid), fun id b hb => ?_, fun id id' b b' X X' hb hb' hne hr hX hX' => ?_⟩
 ·obtain ⟨q1, q2⟩ := hsee id b hb
  refine (R0.has id b q1).mono hle (fun X hX => ?_)
  have hlt := R0.host_of q1 hX
  rw [I.heap _ (Nat.lt_of_lt_of_le hlt I.st.size)]
  refine I.st.frame _ hlt (fun id' b' X' hb' hrw hX' hlo => ?_)
  exact R0.inj id' id b' b X' X hb' q1 (fun e => by
   subst e
   rcases q2 with q2 | q2
   ·omega
   ·rw [q1] at hb'; injection hb' with hb'; subst hb'; rw [q2] at hrw; cases hrw) hrw hX' hX
 ·obtain ⟨q1, _⟩ := hsee id b hb
  obtain ⟨r1, _⟩ := hsee id' b' hb'
  exact R0.inj id id' b b' X X' q1 r1 hne hr (hhost id b X q1 hX) (hhost id' b' X' r1 hX')
theorem Inv.en (d : Dr R P N sl ops fr V H E bm K D X lw hz) (I : Inv ops V H bm K D N B ρ0 h0 w0 a0 listed a w p ρb wb ρ) (R0 : HR B ρ0 h0 w0) (hH0 : (H 0).nx = h0.nx) (F : FrR ρ0 sl N fr a0.tmps) {i : Nat} (hi : i < ops.size) (hno : listed.getD i false = false)
 (hsee : ∀ x, (bm i).testBit x = true → listed.getD x false = true) : EnR (ρ.upto (H i).nx) (X i) ⟨fr, backL V i⟩ a.tmps := by
 refine ⟨fun t => ?_⟩
 rcases d.look i t hi with ⟨j, j1, j2, j3, ix, e1, e2⟩ | e | ⟨q, e1, e2, e3⟩
 ·rw [e1]
  show VR _ (nthL ix (backL V i)) _
  rw [e2]
  exact (I.vals j t (hsee j j3) j2).mono (Ren.upto_mono (Ren.le_refl _) (d.nx (by omega) (by omega)))
 ·rw [e]; exact .dunno _
 ·rw [e2]
  show VR _ (vOr (fr.getp q)) _
  have htN : t < N := F.lt t (slot_mem e1)
  have hnone : ∀ j, listed.getD j false = true → D j ≠ some t := fun j hj hd => by
   rw [I.closed j i hj (e3 j (I.listed_lt hj) hd)] at hno; cases hno
  rw [I.rest t htN hnone]
  refine (F.fr t q e1).mono fun id X e => ?_
  have hid : id < h0.nx := by
   rcases Nat.lt_or_ge id h0.nx with h | h
   ·exact h
   ·rw [R0.dom id h] at e; cases e
  rw [Ren.upto_lt (Nat.lt_of_lt_of_le hid (by rw [← hH0]; exact d.nx (Nat.zero_le _) (by omega)))]
  exact I.le0 id X e
theorem getD_listed {listed : Array Bool} {i j : Nat} (hi : i < listed.size) : (listed.setIfInBounds i true).getD j false = true ↔ j = i ∨ listed.getD j false = true := by
 rw [Array.getD_eq_getD_getElem?, Array.getElem?_setIfInBounds]
 by_cases h : i = j
 ·subst h; simp [hi]
 ·rw [if_neg h, ← Array.getD_eq_getD_getElem?]
  constructor
  ·exact .inr
  ·rintro (e | e)
   ·exact absurd e.symm h
   ·exact e
theorem dstOf_some {N : Nat} {o : Oper} {t : Nat} (h : dstOf N o = some t) : o.dst = some t ∧ t < N := by
 unfold dstOf at h
 cases hx : o.dst with
 | none => rw [hx] at h; cases h
 | some y =>
  rw [hx] at h
  simp only at h
  cases hb : Nat.blt y N with
  | false => rw [hb] at h; cases h
  | true => rw [hb] at h; injection h with h; subst h; rw [blt_eq] at hb; exact ⟨rfl, by simpa using hb⟩
theorem dstOf_of {N : Nat} {o : Oper} {t : Nat} (h : o.dst = some t) (hN : t < N) : dstOf N o = some t := by
 unfold dstOf; rw [h]; simp only [blt_eq, decide_eq_true hN]
theorem Inv.valsPut (d : Dr R P N sl ops fr V H E bm K D X lw hz) (I : Inv ops V H bm K D N B ρ0 h0 w0 a0 listed a w p ρb wb ρ) (F : N ≤ a0.tmps.size) {i : Nat} {o : Oper} (ho : ops[i]? = some o) {ρ2 : Ren} (hle : ρ.le ρ2) {v' : Value}
 (hv : VR (ρ2.upto (H (i + 1)).nx) (V i) v') :
 (∀ j t, (j = i ∨ listed.getD j false = true) → D j = some t → VR (ρ2.upto (H (j + 1)).nx) (V j) ((a.put o.dst v').tmps.getD t undef)) ∧
 (∀ t, t < N → (∀ j, (j = i ∨ listed.getD j false = true) → D j ≠ some t) → (a.put o.dst v').tmps.getD t undef = a0.tmps.getD t undef) ∧ (a.put o.dst v').tmps.size = a0.tmps.size := by
 have hput : ∀ t, (a.put o.dst v').tmps.getD t undef = if o.dst = some t ∧ t < a.tmps.size then v' else a.tmps.getD t undef := fun t => by
  cases hd : o.dst with
  | none => simp [Act.put]
  | some y =>
   have : (a.put (some y) v').tmps = a.tmps.setIfInBounds y v' := rfl
   rw [this, getD_set]
   by_cases e : y = t
   ·subst e; simp
   ·simp [e]
 refine ⟨fun j t hj hd => ?_, fun t ht hn => ?_, ?_⟩
 ·by_cases e : j = i
  ·subst e
   rw [d.dst j o ho] at hd
   obtain ⟨h1, h2⟩ := dstOf_some hd
   rw [hput, if_pos ⟨h1, by rw [I.tsz]; omega⟩]
   exact hv
  ·have hl := hj.resolve_left e
   obtain ⟨o', ho'⟩ := d.opAt (I.listed_lt hl)
   have hd' := hd
   rw [d.dst j o' ho'] at hd'
   obtain ⟨h1, h2⟩ := dstOf_some hd'
   rw [hput, if_neg (fun q => e (d.dsts j i o' o t ho' ho h1 q.1))]
   exact (I.vals j t hl hd).mono (Ren.upto_mono hle (Nat.le_refl _))
 ·rw [hput, if_neg (fun q => hn i (.inl rfl) (by rw [d.dst i o ho]; exact dstOf_of q.1 ht))]
  exact I.rest t ht (fun j hj => hn j (.inr hj))
 ·rw [← I.tsz]
  cases o.dst with
  | none => rfl
  | some y => simp [Act.put]
theorem Inv.ext (d : Dr R P N sl ops fr V H E bm K D X lw hz) (I : Inv ops V H bm K D N B ρ0 h0 w0 a0 listed a w p ρb wb ρ) (F : N ≤ a0.tmps.size) {i : Nat} {o : Oper} (ho : ops[i]? = some o) (hno : listed.getD i false = false)
 (hsee : ∀ x, (bm i).testBit x = true → listed.getD x false = true) (hbar : K i ≠ .bar) (hpi : K i = .blind ∨ p ≤ i) {ρ2 : Ren} {w' : World} {v' : Value} (hle : ρ.le ρ2) (hout : ∀ id, ¬ ((H i).nx ≤ id ∧ id < (H (i + 1)).nx) → ρ2 id = ρ id)
 (hnew : ∀ id X, (H i).nx ≤ id → id < (H (i + 1)).nx → ρ2 id = some X → w.heap.size ≤ X.blk) (hv : VR (ρ2.upto (H (i + 1)).nx) (V i) v') (hh : ∀ k, k < w.heap.size → w'.heap[k]? = w.heap[k]?) (hbl : Below B w w') (hsz : w.heap.size ≤ w'.heap.size)
 (hbr : ∀ id b, (H i).nx ≤ id → id < (H (i + 1)).nx → (H (i + 1)).hp.get id = some b → BR B (ρ2.upto (H (i + 1)).nx) w' id b ∧ isRw b = true)
 (hinj : ∀ id id' b b' X X', (H i).nx ≤ id → id < (H (i + 1)).nx → (H i).nx ≤ id' → id' < (H (i + 1)).nx → (H (i + 1)).hp.get id = some b → (H (i + 1)).hp.get id' = some b' → id ≠ id' → ρ2 id = some X → ρ2 id' = some X' → X.blk ≠ X'.blk) :
 Inv ops V H bm K D N B ρ0 h0 w0 a0 (listed.setIfInBounds i true) (a.put o.dst v') w' p ρb wb ρ2 := by
 have hi : i < ops.size := (Array.getElem?_eq_some_iff.1 ho).1
 have hL : ∀ j, (listed.setIfInBounds i true).getD j false = true ↔ j = i ∨ listed.getD j false = true := fun j => getD_listed (by rw [I.sz]; exact hi)
 obtain ⟨v1, v2, v3⟩ := I.valsPut d F ho hle hv
 have hsame : ∀ id, id < (H p).nx → ρ2 id = ρ id := fun id hid => hout id fun ⟨q1, q2⟩ => by
  rcases hpi with hb | hp
  ·rw [d.blind_nx hi hb] at q2; omega
  ·have := d.nx hp (by omega); omega
 have hprev : ∀ j, listed.getD j false = true → ∀ id, (H j).nx ≤ id → id < (H (j + 1)).nx → ρ2 id = ρ id := fun j hj id a1 a2 => hout id fun ⟨q1, q2⟩ => by
  have hji : j ≠ i := fun e => by rw [e, hno] at hj; cases hj
  have hjl := I.listed_lt hj
  rcases Nat.lt_or_ge j i with g | g
  ·have := d.nx (i := j + 1) (j := i) (by omega) (by omega); omega
  ·have := d.nx (i := i + 1) (j := j) (by omega) (by omega); omega
 have hlt : ∀ j, p ≤ j → listed.getD j false = true → ∀ id b X, (H j).nx ≤ id → id < (H (j + 1)).nx → (H (j + 1)).hp.get id = some b → ρ id = some X → X.blk < w.heap.size := fun j hp hj id b X a1 a2 hb hX => by
  obtain ⟨X', e, hl⟩ := (I.br j hp hj id b a1 a2 hb).1.host_lt
  rw [Ren.upto_lt a2, hX] at e
  injection e with e; subst e; exact hl
 refine ⟨by rw [Array.size_setIfInBounds]; exact I.sz, fun j x hj hx => ?_, I.ple, fun j hj hk => (hL j).2 (.inr (I.pnb j hj hk)), fun j hj hl => ?_, I.st, fun id hid => (hsame id hid).trans (I.pre id hid), fun id X hid hX => ?_,
  fun k hk => (hh k (Nat.lt_of_lt_of_le hk I.size)).trans (I.heap k hk), I.below.trans hbl, Nat.le_trans I.size hsz, fun j hp hj id b a1 a2 hb => ?_, fun j j' hp hp' hj hj' id id' b b' X X' a1 a2 c1 c2 hb hb' hne hX hX' => ?_,
  fun j hp hj id b X a1 a2 hb hX id0 b0 X0 hb0 hX0 => ?_,
  fun j t hj => v1 j t ((hL j).1 hj), fun t ht hn => v2 t ht (fun j hj => hn j ((hL j).2 hj)), v3, by rw [Gev.put_defers]; exact I.dfr⟩
 ·rcases (hL j).1 hj with rfl | hj
  ·exact (hL x).2 (.inr (hsee x hx))
  ·exact (hL x).2 (.inr (I.closed j x hj hx))
 ·rcases (hL j).1 hl with rfl | hl
  ·exact hbar
  ·exact I.nobar j hj hl
 ·by_cases hr : (H i).nx ≤ id ∧ id < (H (i + 1)).nx
  ·refine ⟨Nat.le_trans (Nat.le_trans I.st.size I.size) (hnew id X hr.1 hr.2 hX), i, ?_, hi, (hL i).2 (.inl rfl), hr.1, hr.2⟩
   rcases hpi with hb | hp
   ·rw [d.blind_nx hi hb] at hr; omega
   ·exact hp
  ·rw [hout id hr] at hX
   obtain ⟨q0, j, q1, q2, q3, q4⟩ := I.dom id X hid hX
   exact ⟨q0, j, q1, q2, (hL j).2 (.inr q3), q4⟩
 ·rcases (hL j).1 hj with rfl | hj
  ·exact hbr id b a1 a2 hb
  ·obtain ⟨q1, q2⟩ := I.br j hp hj id b a1 a2 hb
   refine ⟨q1.mono (Ren.upto_mono hle (Nat.le_refl _)) fun X hX => hh _ ?_, q2⟩
   exact hlt j hp hj id b X a1 a2 hb (Ren.upto_some hX).2
 ·rcases (hL j).1 hj with e | hj
  ·rcases (hL j').1 hj' with e' | hk'
   ·subst e; subst e'
    exact hinj id id' b b' X X' a1 a2 c1 c2 hb hb' hne hX hX'
   ·have h1 := hnew id X (by rw [← e]; exact a1) (by rw [← e]; exact a2) hX
    rw [hprev j' hk' id' c1 c2] at hX'
    have h2 := hlt j' hp' hk' id' b' X' c1 c2 hb' hX'
    omega
  ·rw [hprev j hj id a1 a2] at hX
   have h1 := hlt j hp hj id b X a1 a2 hb hX
   rcases (hL j').1 hj' with e' | hj'
   ·subst e'
    have h2 := hnew id' X' c1 c2 hX'
    omega
   ·rw [hprev j' hj' id' c1 c2] at hX'
    exact I.inj j j' hp hp' hj hj' id id' b b' X X' a1 a2 c1 c2 hb hb' hne hX hX'
 ·rcases (hL j).1 hj with e | hj
  ·subst e
   have h1 := hnew id X a1 a2 hX
   have h2 := I.st.hr.host_of hb0 hX0
   have h3 := I.size
   omega
  ·rw [hprev j hj id a1 a2] at hX
   exact I.apart j hp hj id b X a1 a2 hb hX id0 b0 X0 hb0 hX0
theorem Inv.light (d : Dr R P N sl ops fr V H E bm K D X lw hz) (I : Inv ops V H bm K D N B ρ0 h0 w0 a0 listed a w p ρb wb ρ) (F : N ≤ a0.tmps.size) {i : Nat} {o : Oper} (ho : ops[i]? = some o) (hno : listed.getD i false = false)
 (hsee : ∀ x, (bm i).testBit x = true → listed.getD x false = true) (hbar : K i ≠ .bar) (hpi : K i = .blind ∨ p ≤ i) {hid h1 : Hs} {ρ' : Ren} {w' : World} {v' : Value} (hnx : hid.nx = (H i).nx) (R1 : HR B (ρ.upto (H i).nx) hid w)
 (S : St B (ρ.upto (H i).nx) hid w ρ' h1 w') (hlo : (H i).nx ≤ h1.lo) (hn : h1.nx = (H (i + 1)).nx) (hget : ∀ id, (H i).nx ≤ id → id < (H (i + 1)).nx → (H (i + 1)).hp.get id = h1.hp.get id) (hv : VR ρ' (V i) v') :
 ∃ ρ2, Inv ops V H bm K D N B ρ0 h0 w0 a0 (listed.setIfInBounds i true) (a.put o.dst v') w' p ρb wb ρ2 := by
 have hi : i < ops.size := (Array.getElem?_eq_some_iff.1 ho).1
 have hle1 := d.nx1 hi
 -- numbers of the new range are new
 have hfree : ∀ id, (H i).nx ≤ id → id < (H (i + 1)).nx → ρ id = none := fun id a1 a2 => by
  cases e : ρ id with
  | none => rfl
  | some X =>
   have hpx : (H p).nx ≤ id := by
    rcases hpi with hb | hp
    ·rw [d.blind_nx hi hb] at a2; omega
    ·have := d.nx hp (by omega); omega
   obtain ⟨_, j, j1, j2, j3, j4, j5⟩ := I.dom id X hpx e
   have hji : j ≠ i := fun e => by rw [e, hno] at j3; cases j3
   rcases Nat.lt_or_ge j i with g | g
   ·have := d.nx (i := j + 1) (j := i) (by omega) (by omega); omega
   ·have := d.nx (i := i + 1) (j := j) (by omega) (by omega); omega
 let ρ2 : Ren := fun id => if (H i).nx ≤ id ∧ id < (H (i + 1)).nx then ρ' id else ρ id
 have hin : ∀ id, (H i).nx ≤ id → id < (H (i + 1)).nx → ρ2 id = ρ' id := fun id a1 a2 => if_pos ⟨a1, a2⟩
 have hout : ∀ id, ¬ ((H i).nx ≤ id ∧ id < (H (i + 1)).nx) → ρ2 id = ρ id := fun id h => if_neg h
 have hle : ρ.le ρ2 := fun id X e => by
  by_cases hr : (H i).nx ≤ id ∧ id < (H (i + 1)).nx
  ·rw [hfree id hr.1 hr.2] at e; cases e
  ·rw [hout id hr]; exact e
 have hle' : ρ'.le (ρ2.upto (H (i + 1)).nx) := fun id X e => by
  have hlt : id < (H (i + 1)).nx := by
   rcases Nat.lt_or_ge id (H (i + 1)).nx with h | h
   ·exact h
   ·rw [S.hr.dom id (by rw [hn]; exact h)] at e; cases e
  rw [Ren.upto_lt hlt]
  rcases Nat.lt_or_ge id (H i).nx with h | h
  ·rw [hout id (by omega)]
   rw [S.old id (by rw [hnx]; exact h), Ren.upto_lt h] at e
   exact e
  ·rw [hin id h hlt]; exact e
 have hnone : ∀ {id b}, hid.hp.get id = some b → h1.lo ≤ id → False := fun {id b} hb hl => by
  have h2 := R1.lt hb
  rw [hnx] at h2; omega
 refine ⟨ρ2, I.ext d F ho hno hsee hbar hpi hle hout (fun id X a1 a2 hX => ?_) (hv.mono hle') (fun k hk => S.frame k hk fun id b X hb _ _ hl => absurd (hnone hb hl) not_false) S.below S.size (fun id b a1 a2 hb => ?_)
  (fun id id' b b' X X' a1 a2 c1 c2 hb hb' hne hX hX' => ?_)⟩
 ·rw [hin id a1 a2] at hX
  rcases S.fresh id X (by rw [hnx]; exact a1) hX with q | ⟨id0, b, X0, hb, _, _, hl, _⟩
  ·exact q
  ·exact absurd (hnone hb hl) not_false
 ·rw [hget id a1 a2] at hb
  exact ⟨(S.hr.has id b hb).mono hle' (fun _ _ => rfl), S.newrw id b hb (by rw [hnx]; exact a1)⟩
 ·rw [hget id a1 a2] at hb
  rw [hget id' c1 c2] at hb'
  rw [hin id a1 a2] at hX
  rw [hin id' c1 c2] at hX'
  exact S.hr.inj id id' b b' X X' hb hb' hne (S.newrw id b hb (by rw [hnx]; exact a1)) hX hX'
theorem Inv.far (d : Dr R P N sl ops fr V H E bm K D X lw hz) (I : Inv ops V H bm K D N B ρ0 h0 w0 a0 listed a w p ρb wb ρ) {i : Nat} (hpi : p ≤ i) (hi : i ≤ ops.size) (hk : ∀ k, p ≤ k → k < i → K k ≠ .bar) (h1 : ∀ j, j < i → K j ≠ .blind → listed.getD j false = true)
 {j : Nat} (hij : i ≤ j) (hj : listed.getD j false = true) {id : Nat} {b : Blk} {X : Host} (a1 : (H j).nx ≤ id) (a2 : id < (H (j + 1)).nx) (hb : (H (j + 1)).hp.get id = some b) (hX : ρ id = some X)
 {id0 : Nat} {b0 : Blk} {X0 : Host} (hb0 : (H i).hp.get id0 = some b0) (hX0 : ρ.upto (H i).nx id0 = some X0) : X0.blk ≠ X.blk := by
 obtain ⟨hlt0, hX0⟩ := Ren.upto_some hX0
 rcases d.origin hpi hi hk hb0 with q | ⟨k, k1, k2, k3, k4, k5⟩
 ·rw [I.pre id0 (I.st.hr.lt q)] at hX0
  exact I.apart j (Nat.le_trans hpi hij) hj id b X a1 a2 hb hX id0 b0 X0 q hX0
 ·have hkl : listed.getD k false = true := h1 k k2 fun hbl => by
   have := d.blind_nx (by omega) hbl; rw [this] at k4; omega
  have hne : id0 ≠ id := fun e => by
   have := d.nx hij (by have := I.listed_lt hj; omega)
   omega
  exact I.inj k j k1 (Nat.le_trans hpi hij) hkl hj id0 id b0 b X0 X k3 k4 a1 a2 k5 hb hne hX0 hX
theorem Inv.bar (d : Dr R P N sl ops fr V H E bm K D X lw hz) (R0 : HR B ρ0 h0 w0) (I : Inv ops V H bm K D N B ρ0 h0 w0 a0 listed a w p ρb wb ρ) (F : N ≤ a0.tmps.size) {i : Nat} {o : Oper} (ho : ops[i]? = some o) (hno : listed.getD i false = false)
 (hsee : ∀ x, (bm i).testBit x = true → listed.getD x false = true) (hpi : p ≤ i) (hkb : ∀ k, p ≤ k → k < i → K k ≠ .bar) (h1 : ∀ j, j < i → K j ≠ .blind → listed.getD j false = true) (h2 : ∀ j, i < j → listed.getD j false = true → K j ≠ .bar)
 (S0 : St B ρ0 h0 w0 (ρ.upto (H i).nx) (H i) w) {ρ' : Ren} {w' : World} {v' : Value} (S : St B (ρ.upto (H i).nx) (H i) w ρ' (H (i + 1)) w') (hv : VR ρ' (V i) v') :
 ∃ ρ2, Inv ops V H bm K D N B ρ0 h0 w0 a0 (listed.setIfInBounds i true) (a.put o.dst v') w' (i + 1) ρ' w' ρ2 := by
 have hi : i < ops.size := (Array.getElem?_eq_some_iff.1 ho).1
 have hn1 := d.nx1 hi
 have hL : ∀ j, (listed.setIfInBounds i true).getD j false = true ↔ j = i ∨ listed.getD j false = true := fun j => getD_listed (by rw [I.sz]; exact hi)
 -- numbers of the new range are new
 have hfree : ∀ id, (H i).nx ≤ id → id < (H (i + 1)).nx → ρ id = none := fun id a1 a2 => by
  cases e : ρ id with
  | none => rfl
  | some X =>
   obtain ⟨_, j, j1, j2, j3, j4, j5⟩ := I.dom id X (Nat.le_trans (d.nx hpi (by omega)) a1) e
   have hji : j ≠ i := fun e => by rw [e, hno] at j3; cases j3
   rcases Nat.lt_or_ge j i with g | g
   ·have := d.nx (i := j + 1) (j := i) (by omega) (by omega); omega
   ·have := d.nx (i := i + 1) (j := j) (by omega) (by omega); omega
 let ρ2 : Ren := fun id => if id < (H (i + 1)).nx then ρ' id else ρ id
 have hin : ∀ id, id < (H (i + 1)).nx → ρ2 id = ρ' id := fun id h => if_pos h
 have hout : ∀ id, (H (i + 1)).nx ≤ id → ρ2 id = ρ id := fun id h => if_neg (by omega)
 have hold : ∀ id, id < (H i).nx → ρ' id = ρ id := fun id h => by rw [S.old id h, Ren.upto_lt h]
 have hle : ρ.le ρ2 := fun id X e => by
  rcases Nat.lt_or_ge id (H (i + 1)).nx with g | g
  ·rw [hin id g]
   rcases Nat.lt_or_ge id (H i).nx with g2 | g2
   ·rw [hold id g2]; exact e
   ·rw [hfree id g2 g] at e; cases e
  ·rw [hout id g]; exact e
 have hle' : ρ'.le (ρ2.upto (H (i + 1)).nx) := fun id X e => by
  rcases Nat.lt_or_ge id (H (i + 1)).nx with g | g
  ·rw [Ren.upto_lt g, hin id g]; exact e
  ·rw [S.hr.dom id g] at e; cases e
 obtain ⟨v1, v2, v3⟩ := I.valsPut d F ho hle (hv.mono hle')
 have hbeh : ∀ j, i + 1 ≤ j → (listed.setIfInBounds i true).getD j false = true → listed.getD j false = true := fun j hj hl => by
  rcases (hL j).1 hl with rfl | hl
  ·omega
  ·exact hl
 have hhi : ∀ j, i + 1 ≤ j → listed.getD j false = true → ∀ id, (H j).nx ≤ id → (H (i + 1)).nx ≤ id := fun j hj hl id a1 => by
  have := d.nx hj (by have := I.listed_lt hl; omega); omega
 have hlt : ∀ j, i + 1 ≤ j → listed.getD j false = true → ∀ id b X, (H j).nx ≤ id → id < (H (j + 1)).nx → (H (j + 1)).hp.get id = some b → ρ id = some X → X.blk < w.heap.size := fun j hp hj id b X a1 a2 hb hX => by
  obtain ⟨X', e, hl⟩ := (I.br j (by omega) hj id b a1 a2 hb).1.host_lt
  rw [Ren.upto_lt a2, hX] at e
  injection e with e; subst e; exact hl
 refine ⟨ρ2, by rw [Array.size_setIfInBounds]; exact I.sz, fun j x hj hx => ?_, hi, fun j hj hk => ?_, fun j hj hl => h2 j (by omega) (hbeh j hj hl), St.trans R0 S0 S, fun id hid => hin id hid, fun id X hid hX => ?_,
  fun _ _ => rfl, Below.refl _ _, Nat.le_refl _, fun j hp hj id b a1 a2 hb => ?_, fun j j' hp hp' hj hj' id id' b b' X X' a1 a2 c1 c2 hb hb' hne hX hX' => ?_, fun j hp hj id b X a1 a2 hb hX id0 b0 X0 hb0 hX0 => ?_,
  fun j t hj => v1 j t ((hL j).1 hj), fun t ht hn => v2 t ht (fun j hj => hn j ((hL j).2 hj)), v3, by rw [Gev.put_defers]; exact I.dfr⟩
 ·rcases (hL j).1 hj with rfl | hj
  ·exact (hL x).2 (.inr (hsee x hx))
  ·exact (hL x).2 (.inr (I.closed j x hj hx))
 ·by_cases e : j = i
  ·exact (hL j).2 (.inl e)
  ·exact (hL j).2 (.inr (h1 j (by omega) hk))
 ·rw [hout id hid] at hX
  obtain ⟨q0, j, j1, j2, j3, j4, j5⟩ := I.dom id X (Nat.le_trans (d.nx hpi (by omega)) (by omega)) hX
  refine ⟨q0, j, ?_, j2, (hL j).2 (.inr j3), j4, j5⟩
  rcases Nat.lt_or_ge j (i + 1) with g | g
  ·have := d.nx (i := j + 1) (j := i + 1) (by omega) (by omega); omega
  ·exact g
 ·have hl := hbeh j hp hj
  obtain ⟨q1, q2⟩ := I.br j (by omega) hl id b a1 a2 hb
  refine ⟨q1.mono (Ren.upto_mono hle (Nat.le_refl _)) fun X hX => ?_, q2⟩
  have hX := (Ren.upto_some hX).2
  exact S.frame _ (hlt j hp hl id b X a1 a2 hb hX) fun id0 b0 X0 hb0 _ hX0 _ => I.far d hpi (by omega) hkb h1 (by omega) hl a1 a2 hb hX hb0 hX0
 ·have hl := hbeh j hp hj
  have hl' := hbeh j' hp' hj'
  rw [hout id (hhi j hp hl id a1)] at hX
  rw [hout id' (hhi j' hp' hl' id' c1)] at hX'
  exact I.inj j j' (by omega) (by omega) hl hl' id id' b b' X X' a1 a2 c1 c2 hb hb' hne hX hX'
 ·have hl := hbeh j hp hj
  rw [hout id (hhi j hp hl id a1)] at hX
  have far := fun {id0 : Nat} {b0 : Blk} {X0 : Host} (hb0 : (H i).hp.get id0 = some b0) (hX0 : ρ.upto (H i).nx id0 = some X0) => I.far d hpi (by omega) hkb h1 (by omega) hl a1 a2 hb hX hb0 hX0
  rcases Nat.lt_or_ge id0 (H i).nx with g | g
  ·obtain ⟨b1, e1, _, _⟩ := S.gone id0 b0 hb0 g
   rw [S.old id0 g] at hX0
   exact far e1 hX0
  ·rcases S.fresh id0 X0 g hX0 with q | ⟨id1, b1, X1, q1, _, q3, _, q5⟩
   ·have := hlt j hp hl id b X a1 a2 hb hX
    omega
   ·rw [← q5]
    exact far q1 q3
theorem goes_en {ρ : Ren} {cx : Cx} {en : En} {a : Act} (h : EnR ρ cx en a.tmps) {ops : Array Oper} {o : Oper} {b : Bool}
 (e : goes en (goper P cx sl ops o).guard = some b) : Region.wanted o (yielded ops a.tmps) = b := by
 unfold Region.wanted
 simp only [goper] at e
 cases hg : o.guard with
 | none =>
  rw [hg] at e
  simp only [goes, Option.some.injEq] at e
  subst e; rfl
 | some q =>
  obtain ⟨j, want⟩ := q
  rw [hg] at e
  simp only at e ⊢
  cases hj : (ops[j]?).bind (·.dst) with
  | none => rw [hj] at e; simp [goes, ev, yes, dunno] at e
  | some t =>
   rw [hj] at e
   simp only [goes] at e
   have hv := gt_VR h t
   have hy : yielded ops a.tmps j = match a.tmps[t]? with | some (.bool b) => some b | _ => none := by
    unfold yielded; rw [hj]; rfl
   rw [hy]
   generalize hev : ev en (gt cx t) = v at hv e
   cases v with
   | bool b0 =>
    simp only [yes, Option.some.injEq] at e
    have hq := hv.bool_inv
    have : a.tmps[t]? = some (.bool b0) := by
     rw [Array.getD_eq_getD_getElem?] at hq
     cases ht : a.tmps[t]? with
     | none => rw [ht] at hq; cases hq
     | some x => rw [ht] at hq; simp only [Option.getD_some] at hq; rw [hq]
    rw [this, ← e, eqB_eq]
    cases b0 <;> cases want <;> rfl
   | tuple vs =>
    obtain ⟨ys, hq, hl⟩ := hv.tuple_inv
    simp only [yes] at e
    have hne : ∀ b0, a.tmps[t]? ≠ some (.bool b0) := fun b0 hh => by
     rw [Array.getD_eq_getD_getElem?, hh] at hq; cases hq
    cases hvs : vs.toList with
    | cons x xs => rw [hvs] at e; cases e
    | nil =>
     rw [hvs] at e
     injection e with e
     subst e
     cases ht : a.tmps[t]? with
     | none => simp
     | some x => cases x with
      | bool b0 => exact absurd ht (hne b0)
      | _ => simp
   | _ => simp [yes] at e
theorem ready_mem {listed : Array Bool} (d : Dr R P N sl ops fr V H E bm K D X lw hz) {i : Nat} (hi : i ∈ Region.ready .any ops listed) (hs : listed.size = ops.size) :
 i < ops.size ∧ listed.getD i false = false ∧ ∀ e ∈ E i, listed.getD e false = true := by
 unfold Region.ready at hi
 rw [List.mem_filter, List.mem_range, Bool.and_eq_true] at hi
 obtain ⟨h1, h2, h3⟩ := hi
 refine ⟨h1, ?_, ?_⟩
 ·rw [Array.getD_eq_getD_getElem?, Array.getElem?_eq_getElem (by omega)] at h2 ⊢
  simpa using h2
 ·obtain ⟨o, ho⟩ := d.opAt h1
  rw [d.edges i o ho]
  rw [ho] at h3
  simp only [Option.map_some, Option.getD_some, Array.all_eq_true_iff_forall_mem] at h3
  exact edges_ready fun e he => h3 e (by simpa using he)
theorem mem_ready {listed : Array Bool} (d : Dr R P N sl ops fr V H E bm K D X lw hz) {i : Nat} (h1 : i < ops.size) (hs : listed.size = ops.size) (h2 : listed.getD i false = false) (h3 : ∀ e ∈ E i, listed.getD e false = true) : i ∈ Region.ready .any ops listed := by
 unfold Region.ready
 rw [List.mem_filter, List.mem_range, Bool.and_eq_true]
 refine ⟨h1, ?_, ?_⟩
 ·rw [Array.getD_eq_getD_getElem?, Array.getElem?_eq_getElem (by omega)] at h2 ⊢
  simpa using h2
 ·obtain ⟨o, ho⟩ := d.opAt h1
  rw [d.edges i o ho] at h3
  rw [ho]
  simp only [Option.map_some, Option.getD_some, Array.all_eq_true_iff_forall_mem]
  intro e he
  exact ready_edges h3 e (by simpa using he)
theorem ready_nil {listed : Array Bool} (d : Dr R P N sl ops fr V H E bm K D X lw hz) (hs : listed.size = ops.size) (hn : Region.ready .any ops listed = []) : ∀ i, i < ops.size → listed.getD i false = true := by
 intro i
 induction i using Nat.strongRecOn with
 | _ i ih =>
  intro hi
  cases e : listed.getD i false with
  | true => rfl
  | false =>
   have := mem_ready d hi hs e (fun x hx => ih x (d.elt i hi x hx) (Nat.lt_trans (d.elt i hi x hx) hi))
   rw [hn] at this; simp at this
theorem count_set {listed : Array Bool} {i fuel : Nat} (hi : i < listed.size) (h : listed.getD i false = false) (hc : listed.toList.count false ≤ fuel + 1) : (listed.setIfInBounds i true).toList.count false ≤ fuel := by
 have hi' : i < listed.toList.length := by simpa using hi
 have hg : listed.toList[i] = false := by
  rw [Array.getD_eq_getD_getElem?, Array.getElem?_eq_getElem hi] at h
  simpa using h
 rw [Array.toList_setIfInBounds, List.count_set hi', hg]
 show listed.toList.count false - 1 + 0 ≤ fuel
 omega
theorem count_zero {listed : Array Bool} {i : Nat} (hi : i < listed.size) (hc : listed.toList.count false = 0) : listed.getD i false = true := by
 rw [List.count_eq_zero] at hc
 rw [Array.getD_eq_getD_getElem?, Array.getElem?_eq_getElem hi]
 simp only [Option.getD_some]
 cases e : listed[i] with
 | true => rfl
 | false => exact absurd (by rw [← e]; simp) hc
theorem any_wp (hN : Named P) (G : Good P R) (hcall : HC P R) (d : Dr R P N sl ops fr V H E bm K D X lw hz) (R0 : HR B ρ0 h0 w0) (hH0 : (H 0).nx = h0.nx) (hz0 : hz = h0) (F : FrR ρ0 sl N fr a0.tmps)
 {Q : Exit → Act → World → Prop} (hfin : ∀ listed a w p ρb wb ρ, Inv ops V H bm K D N B ρ0 h0 w0 a0 listed a w p ρb wb ρ → (∀ i, i < ops.size → listed.getD i false = true) → Q .normal a w) :
 ∀ (fuel : Nat) (listed : Array Bool) (a : Act) (w : World) (p : Nat) (ρb : Ren) (wb : World) (ρ : Ren), Inv ops V H bm K D N B ρ0 h0 w0 a0 listed a w p ρb wb ρ → listed.toList.count false ≤ fuel → wpAny P .any ops Q fuel listed a w := by
 intro fuel
 induction fuel with
 | zero =>
  intro listed a w p ρb wb ρ I hc
  have hall : ∀ i, i < ops.size → listed.getD i false = true := fun i hi => count_zero (by rw [I.sz]; exact hi) (by omega)
  refine ⟨List.eq_nil_iff_forall_not_mem.2 fun i hi => ?_, hfin _ _ _ _ _ _ _ I hall⟩
  obtain ⟨h1, h2, _⟩ := ready_mem d hi I.sz
  rw [hall i h1] at h2; cases h2
 | succ fuel ih =>
  intro listed a w p ρb wb ρ I hc
  refine ⟨fun hn => hfin _ _ _ _ _ _ _ I (ready_nil d I.sz hn), fun i hi => ?_⟩
  obtain ⟨hi, hno, hE⟩ := ready_mem d hi I.sz
  have hsee : ∀ x, (bm i).testBit x = true → listed.getD x false = true := fun x hx => by
   obtain ⟨e, he, q | q⟩ := d.bit i x hi hx
   ·subst q; exact hE x he
   ·exact I.closed e x (hE e he) q
  obtain ⟨o, ho⟩ := d.opAt hi
  have hc' := count_set (by rw [I.sz]; exact hi) hno hc
  have EN := I.en d R0 hH0 F hi hno hsee
  have hpi : K i ≠ .blind → p ≤ i := fun hb => by
   rcases Nat.lt_or_ge i p with g | g
   ·rw [I.pnb i g hb] at hno; cases hno
   ·exact g
  have hnobar : K i ≠ .blind → K i ≠ .make → ∀ k, p ≤ k → k < i → K k ≠ .bar := fun hb hm k hk hki hbar => I.nobar k hk (hsee k (d.bar2 k i hbar hki hi hb hm)) hbar
  have hbarL : K i = .bar → p ≤ i ∧ (∀ k, p ≤ k → k < i → K k ≠ .bar) ∧ (∀ j, j < i → K j ≠ .blind → listed.getD j false = true) ∧ (∀ j, i < j → listed.getD j false = true → K j ≠ .bar) ∧ St B ρ0 h0 w0 (ρ.upto (H i).nx) (H i) w := fun hb => by
   have hnb : K i ≠ .blind := by rw [hb]; exact fun e => by cases e
   have hnm : K i ≠ .make := by rw [hb]; exact fun e => by cases e
   have h1 : ∀ j, j < i → K j ≠ .blind → listed.getD j false = true := fun j hj hk => hsee j (d.bar1 i j hb hi hj hk)
   have h2 : ∀ j, i < j → listed.getD j false = true → K j ≠ .bar := fun j hj hl hk => by
    have := I.closed j i hl (d.bar2 i j hb hj (I.listed_lt hl) (by rw [hk]; exact fun e => by cases e) (by rw [hk]; exact fun e => by cases e))
    rw [hno] at this; cases this
   exact ⟨hpi hnb, hnobar hnb hnm, h1, h2, I.conv d R0 (hpi hnb) (by omega) (hnobar hnb hnm) h1⟩
  unfold wpOp
  rw [ho]
  simp only
  rcases d.recs i o ho with ⟨hg, hV, hH⟩ | ⟨hg, h1, hop, hfit0, hH⟩
  ·rw [goes_en (P := P) (sl := sl) EN hg]
   simp only [Bool.false_eq_true, if_false]
   have hV' : ∀ ρ, VR ρ (V i) undef := fun ρ => by rw [hV]; exact VR.undef_inv
   by_cases hb : K i = .bar
   ·obtain ⟨q1, q2, q3, q4, q5⟩ := hbarL hb
    obtain ⟨ρ2, I2⟩ := I.bar d R0 F.size ho hno hsee q1 q2 q3 q4 q5 (by rw [hH]; exact St.refl q5.hr) (hV' _)
    exact ih _ _ _ _ _ _ _ I2 hc'
   ·have hpi' : K i = .blind ∨ p ≤ i := by
     by_cases hbl : K i = .blind
     ·exact .inl hbl
     ·exact .inr (hpi hbl)
    exact ih _ _ _ _ _ _ _ (I.ext d F.size ho hno hsee hb hpi' (Ren.le_refl ρ) (fun _ _ => rfl) (fun id X a1 a2 => by rw [hH] at a2; omega) (hV' _) (fun _ _ => rfl) (Below.refl _ _) (Nat.le_refl _) (fun id b a1 a2 => by rw [hH] at a2; omega)
     (fun id id' b b' X X' a1 a2 => by rw [hH] at a2; omega)) hc'
  ·rw [goes_en (P := P) (sl := sl) EN hg]
   simp only [if_true]
   left
   have hfit := (andB_true hfit0).1
   simp only at hop hfit hH
   cases hlow : isLow lw o.op with
   | true =>
    have hk := d.lowB i o ho hlow
    rw [show dHidW fr hz ⟨gop P (X i) o, (goper P (X i) sl ops o).guard, K i, lmIf (bm i) i (K i), lw, isLow lw o.op⟩ (backL (rng H) i) (H i) = lowW fr h0 (H i) lw from by unfold dHidW; simp only [hlow]; rw [hz0]] at hop
    rw [hk] at hfit hH
    have R1 := I.low d R0 hH0 (Nat.le_of_lt hi)
    obtain ⟨f1, f2⟩ := andB_true hfit
    refine op_wp hN G hcall EN R1 hop (fun v h2 v' w' ρ' hK hv S => ?_)
    injection hK with hK
    injection hK with e1 e2
    subst e1; subst e2
    have e3 : H (i + 1) = H i := d.blind_nx hi hk
    obtain ⟨ρ2, I2⟩ := I.light d F.size ho hno hsee (by rw [hk]; exact fun e => by cases e) (.inl hk) (hid := lowW fr h0 (H i) lw) lowW_nx R1 S (Nat.le_of_ble_eq_true f2) (by rw [e3]; exact Nat.eq_of_beq_eq_true f1) (fun id a1 a2 => by rw [e3] at a2; omega) hv
    exact ih _ _ _ _ _ _ _ I2 hc'
   | false =>
   rw [show dHidW fr hz ⟨gop P (X i) o, (goper P (X i) sl ops o).guard, K i, lmIf (bm i) i (K i), lw, isLow lw o.op⟩ (backL (rng H) i) (H i) = dHid (K i) (lmIf (bm i) i (K i)) (backL (rng H) i) (H i) from by unfold dHidW; simp only [hlow]] at hop
   cases hk : K i with
   | blind =>
    rw [hk] at hop hfit hH
    have R1 : HR B (ρ.upto (H i).nx) ⟨.e, (H i).nx, (H i).nx⟩ w := ⟨Nat.le_trans I.st.hr.base I.size, fun id hid => Ren.upto_ge hid, (fun id b hb => by rw [Tr.get_e] at hb; cases hb), (fun id id' b b' X X' hb => by rw [Tr.get_e] at hb; cases hb)⟩
    obtain ⟨f1, f2⟩ := andB_true hfit
    refine op_wp hN G hcall EN R1 hop (fun v h2 v' w' ρ' hK hv S => ?_)
    injection hK with hK
    injection hK with e1 e2
    subst e1; subst e2
    have e3 : H (i + 1) = H i := d.blind_nx hi hk
    obtain ⟨ρ2, I2⟩ := I.light d F.size ho hno hsee (by rw [hk]; exact fun e => by cases e) (.inl hk) (hid := ⟨.e, (H i).nx, (H i).nx⟩) rfl R1 S (Nat.le_of_ble_eq_true f2) (by rw [e3]; exact Nat.eq_of_beq_eq_true f1) (fun id a1 a2 => by rw [e3] at a2; omega) hv
    exact ih _ _ _ _ _ _ _ I2 hc'
   | light =>
    have hnb : K i ≠ .blind := by rw [hk]; exact fun e => by cases e
    have hnm : K i ≠ .make := by rw [hk]; exact fun e => by cases e
    rw [hk] at hop hfit hH
    have R1 := (I.part d (hpi hnb) (by omega) (Nat.le_refl _) (hnobar hnb hnm) (hideH (lmOf (bm i) i) (backL (rng H) i) (H i).hp) (H i).nx (fun id b hb => by
     rw [lmOf_back] at hb
     obtain ⟨q1, q2⟩ := hideH_back hb
     exact ⟨q1, fun j hj a1 a2 => hsee j (q2 j hj a1 a2)⟩)).2
    obtain ⟨f1, f2⟩ := andB_true hfit
    have f1 : (H i).nx ≤ h1.nx := Nat.le_of_ble_eq_true f1
    refine op_wp hN G hcall EN R1 hop (fun v h2 v' w' ρ' hK hv S => ?_)
    injection hK with hK
    injection hK with e1 e2
    subst e1; subst e2
    have e3 : (H (i + 1)).nx = h2.nx := by rw [hH]; rfl
    obtain ⟨ρ2, I2⟩ := I.light d F.size ho hno hsee (by rw [hk]; exact fun e => by cases e) (.inr (hpi hnb)) (hid := ⟨hideH (lmOf (bm i) i) (backL (rng H) i) (H i).hp, (H i).nx, (H i).nx⟩) rfl R1 S (Nat.le_of_ble_eq_true f2) e3.symm (fun id a1 a2 => by
     rw [hH]
     simp only [dNext, Nat.sub_eq]
     rw [backN_get, if_pos (by rw [e3] at a2; omega)]) hv
    exact ih _ _ _ _ _ _ _ I2 hc'
   | bar =>
    obtain ⟨q1, q2, q3, q4, q5⟩ := hbarL hk
    rw [hk] at hop hfit hH
    refine op_wp hN G hcall EN q5.hr hop (fun v h2 v' w' ρ' hK hv S => ?_)
    injection hK with hK
    injection hK with e1 e2
    subst e1; subst e2
    obtain ⟨ρ2, I2⟩ := I.bar d R0 F.size ho hno hsee q1 q2 q3 q4 q5 (by rw [hH]; exact S) hv
    exact ih _ _ _ _ _ _ _ I2 hc'
   | make =>
    have hnb : K i ≠ .blind := by rw [hk]; exact fun e => by cases e
    rw [hk] at hop hfit hH
    have R1 : HR B (ρ.upto (H i).nx) ⟨.e, (H i).nx, (H i).nx⟩ w := ⟨Nat.le_trans I.st.hr.base I.size, fun id hid => Ren.upto_ge hid, (fun id b hb => by rw [Tr.get_e] at hb; cases hb), (fun id id' b b' X X' hb => by rw [Tr.get_e] at hb; cases hb)⟩
    obtain ⟨f1, f2⟩ := andB_true hfit
    have f1 : (H i).nx ≤ h1.nx := Nat.le_of_ble_eq_true f1
    refine op_wp hN G hcall EN R1 hop (fun v h2 v' w' ρ' hK hv S => ?_)
    injection hK with hK
    injection hK with e1 e2
    subst e1; subst e2
    have e3 : (H (i + 1)).nx = h2.nx := by rw [hH]; rfl
    obtain ⟨ρ2, I2⟩ := I.light d F.size ho hno hsee (by rw [hk]; exact fun e => by cases e) (.inr (hpi hnb)) (hid := ⟨.e, (H i).nx, (H i).nx⟩) rfl R1 S (Nat.le_of_ble_eq_true f2) e3.symm (fun id a1 a2 => by
     rw [hH]
     simp only [dNext, Nat.sub_eq]
     rw [backN_get, if_pos (by rw [e3] at a2; omega)]) hv
    exact ih _ _ _ _ _ _ _ I2 hc'
end
theorem apartN_spec {t : Nat} : ∀ {os : List Oper}, apartN (dstsOf os) = true → ∀ (i j : Nat) (o o' : Oper), os[i]? = some o → os[j]? = some o' → o.dst = some t → o'.dst = some t → i = j := by
 have mem : ∀ {os : List Oper} {j : Nat} {o : Oper}, os[j]? = some o → o.dst = some t → t ∈ dstsOf os := by
  intro os
  induction os with
  | nil => intro j o h; simp at h
  | cons x os ih =>
   intro j o h1 h2
   cases j with
   | zero =>
    simp only [List.getElem?_cons_zero, Option.some.injEq] at h1
    subst h1
    rw [dstsOf, h2]; exact List.mem_cons_self
   | succ j =>
    have := ih (by simpa using h1) h2
    rw [dstsOf]
    cases x.dst with
    | none => exact this
    | some y => exact List.mem_cons_of_mem _ this
 have memN_of : ∀ {l : List Nat}, t ∈ l → memN t l = true := by
  intro l
  induction l with
  | nil => intro h; simp at h
  | cons x l ih =>
   intro h
   rw [memN]
   cases hb : Nat.beq x t with
   | true => rfl
   | false =>
    rcases List.mem_cons.1 h with rfl | h
    ·rw [Nat.beq_refl] at hb; cases hb
    ·exact ih h
 intro os
 induction os with
 | nil => intro _ i j o o' h; simp at h
 | cons x os ih =>
  intro h i j o o' h1 h2 h3 h4
  have hrest : apartN (dstsOf os) = true := by
   rw [dstsOf] at h
   cases hx : x.dst with
   | none => rw [hx] at h; exact h
   | some y =>
    rw [hx] at h
    simp only [apartN] at h
    cases hm : memN y (dstsOf os) with
    | true => rw [hm] at h; cases h
    | false => rw [hm] at h; exact h
  have hno : x.dst = some t → ¬ t ∈ dstsOf os := fun hx hm => by
   rw [dstsOf, hx] at h
   simp only [apartN, memN_of hm] at h
   cases h
  cases i with
  | zero =>
   simp only [List.getElem?_cons_zero, Option.some.injEq] at h1
   subst h1
   cases j with
   | zero => rfl
   | succ j => exact absurd (mem (by simpa using h2) h4) (hno h3)
  | succ i =>
   cases j with
   | zero =>
    simp only [List.getElem?_cons_zero, Option.some.injEq] at h2
    subst h2
    exact absurd (mem (by simpa using h1) h3) (hno h4)
   | succ j => rw [ih hrest i j o o' (by simpa using h1) (by simpa using h2) h3 h4]
theorem St.draw {B : Nat} {ρ : Ren} {h : Hs} {w : World} (R : HR B ρ h w) : St B ρ h w ρ h { w with drawn := w.drawn + 1 } :=
 ⟨R.of_heap rfl, Nat.le_refl _, Ren.le_refl _, fun _ _ => rfl, ⟨rfl, rfl, rfl, Nat.le_refl _, fun _ _ => rfl⟩, Nat.le_refl _, Nat.le_refl _, fun _ _ h _ => h, fun _ b h _ => ⟨b, h, rfl, fun _ => rfl⟩, fun id b hb hid => by have := R.lt hb; omega, fun _ _ _ => rfl,
  fun id H hid e => by rw [R.dom id hid] at e; cases e⟩
theorem frz1_some {b0 : Option Blk} {b : Blk} (h : frz1 b0 = some b) : isRw b = false ∧ ∃ c n e u rw fl, b0 = some (.row c n e u rw fl) ∧ b = .row c n e u false fl := by
 cases b0 with
 | none => cases h
 | some b0 => cases b0 with
  | mp es k => cases h
  | it _ _ _ _ => cases h
  | lp _ => cases h
  | row c n e u rw fl => injection h with h; subst h; exact ⟨rfl, c, n, e, u, rw, fl, rfl, rfl⟩
theorem frz_get {t : Tr Blk} {i id : Nat} {b : Blk} (h : (t.set i (frz1 (t.get i))).get id = some b) : (id = i ∧ isRw b = false) ∨ (id ≠ i ∧ t.get id = some b) := by
 rw [Tr.get_set] at h
 split at h
 ·rename_i e; exact .inl ⟨e.symm, (frz1_some h).1⟩
 ·rename_i e; exact .inr ⟨fun q => e q.symm, h⟩
theorem frz_back {t : Tr Blk} {i id : Nat} {b : Blk} (h : t.get id = some b) (hne : id ≠ i) : (t.set i (frz1 (t.get i))).get id = some b := by
 rw [Tr.get_set, if_neg fun e => hne e.symm]; exact h
theorem HR.frz {B : Nat} {ρ : Ren} {h : Hs} {w : World} (i lo : Nat) (R : HR B ρ h w) : HR B ρ ⟨h.hp.set i (frz1 (h.hp.get i)), h.nx, lo⟩ w := by
 refine ⟨R.base, R.dom, fun id b hb => ?_, fun id id' b b' X X' hb hb' hne hr hX hX' => ?_⟩
 ·replace hb : (h.hp.set i (frz1 (h.hp.get i))).get id = some b := hb
  rw [Tr.get_set] at hb
  split at hb
  ·rename_i e
   subst e
   obtain ⟨_, c, n, e, u, rw, fl, q1, rfl⟩ := frz1_some hb
   obtain ⟨X, arr, fz, a1, a2, a3, a4, a5, _, a7⟩ := R.has _ _ q1
   exact ⟨X, arr, fz, a1, a2, a3, a4, a5, (fun e => by cases e), a7⟩
  ·exact R.has _ _ hb
 ·rcases frz_get hb with ⟨_, q⟩ | ⟨_, q⟩
  ·rw [q] at hr; cases hr
  ·have hg : ∃ b1, h.hp.get id' = some b1 := by
    replace hb' : (h.hp.set i (frz1 (h.hp.get i))).get id' = some b' := hb'
    rw [Tr.get_set] at hb'
    split at hb'
    ·rename_i e; subst e
     obtain ⟨_, c, n, e, u, rw, fl, q1, _⟩ := frz1_some hb'
     exact ⟨_, q1⟩
    ·exact ⟨_, hb'⟩
   obtain ⟨b1, q1⟩ := hg
   exact R.inj id id' b b1 X X' q q1 hne hr hX hX'
theorem St.unfrz {B : Nat} {ρ ρ' : Ren} {h h' : Hs} {w w' : World} {i : Nat} (R : HR B ρ h w) (S : St B ρ ⟨h.hp.set i (frz1 (h.hp.get i)), h.nx, h.nx⟩ w ρ' h' w') : St B ρ h w ρ' ⟨h'.hp.set i (h.hp.get i), h'.nx, minN h.lo h'.lo⟩ w' := by
 have hl : minN h.lo h'.lo ≤ h'.lo := minN_le_right _ _
 -- its host
 have hhost : ∀ b X, h.hp.get i = some b → ρ i = some X → w'.heap[X.blk]? = w.heap[X.blk]? := fun b X hb hX =>
  S.frame _ (R.host_of hb hX) fun id' b' X' hb' hr hX' _ => by
   rcases frz_get hb' with ⟨_, q⟩ | ⟨q0, q⟩
   ·rw [q] at hr; cases hr
   ·exact R.inj id' i b' b X' X q hb q0 hr hX' hX
 -- apart from all others
 have hapart : ∀ b X, h.hp.get i = some b → ρ i = some X → ∀ id b' X', id ≠ i → h'.hp.get id = some b' → (isRw b = true ∨ isRw b' = true) → ρ' id = some X' → X'.blk ≠ X.blk := fun b X hb hX id b' X' hne hb' hr hX' => by
  rcases Nat.lt_or_ge id h.nx with g | g
  ·obtain ⟨b0, q1, q2, _⟩ := S.gone id b' hb' g
   rcases frz_get q1 with ⟨q, _⟩ | ⟨_, q⟩
   ·exact absurd q hne
   ·have hX' : ρ id = some X' := by rw [← S.old id g]; exact hX'
    rcases hr with hr | hr
    ·exact fun e => R.inj i id b b0 X X' hb q (fun e => hne e.symm) hr hX hX' e.symm
    ·exact R.inj id i b0 b X' X q hb hne (by rw [q2]; exact hr) hX' hX
  ·rcases S.fresh id X' g hX' with q | ⟨id0, b1, X0, q1, q2, q3, _, q5⟩
   ·have := R.host_of hb hX; omega
   ·rcases frz_get q1 with ⟨_, q⟩ | ⟨q0, q⟩
    ·rw [q] at q2; cases q2
    ·rw [← q5]; exact R.inj id0 i b1 b X0 X q hb q0 q2 q3 hX
 have hold : ∀ {b}, h.hp.get i = some b → ρ' i = ρ i := fun hb => S.old i (R.lt hb)
 refine ⟨⟨S.hr.base, S.hr.dom, fun id b hb => ?_, fun id id' b b' X X' hb hb' hne hr hX hX' => ?_⟩, S.nx, S.le, S.old, S.below, S.size, minN_le_left _ _, fun id b hb hlo => ?_, fun id b hb hid => ?_, fun id b hb hid => ?_, fun k hk hno => ?_, fun id X hid e => ?_⟩
 ·replace hb : (h'.hp.set i (h.hp.get i)).get id = some b := hb
  rw [Tr.get_set] at hb
  split at hb
  ·rename_i e; subst e
   exact (R.has _ _ hb).mono S.le fun X hX => hhost b X hb hX
  ·exact S.hr.has _ _ hb
 ·replace hb : (h'.hp.set i (h.hp.get i)).get id = some b := hb
  replace hb' : (h'.hp.set i (h.hp.get i)).get id' = some b' := hb'
  rw [Tr.get_set] at hb hb'
  split at hb
  ·rename_i e; subst e
   rw [if_neg hne] at hb'
   rw [hold hb] at hX
   exact fun e => hapart b X hb hX id' b' X' (fun e => hne e.symm) hb' (.inl hr) hX' e.symm
  ·split at hb'
   ·rename_i e0 e; subst e
    rw [hold hb'] at hX'
    exact hapart b' X' hb' hX' id b X hne hb (.inr hr) hX
   ·exact S.hr.inj id id' b b' X X' hb hb' hne hr hX hX'
 ·show (h'.hp.set i (h.hp.get i)).get id = some b
  rw [Tr.get_set]
  split
  ·rename_i e; subst e; exact hb
  ·rename_i e; exact S.keep id b (frz_back hb fun q => e q.symm) (Nat.lt_of_lt_of_le hlo hl)
 ·replace hb : (h'.hp.set i (h.hp.get i)).get id = some b := hb
  rw [Tr.get_set] at hb
  split at hb
  ·rename_i e; subst e; exact ⟨b, hb, rfl, fun _ => rfl⟩
  ·rename_i e
   obtain ⟨b0, q1, q2, q3⟩ := S.gone id b hb hid
   rcases frz_get q1 with ⟨q, _⟩ | ⟨_, q⟩
   ·exact absurd q.symm e
   ·exact ⟨b0, q, q2, fun hlo => q3 (Nat.lt_of_lt_of_le hlo hl)⟩
 ·replace hb : (h'.hp.set i (h.hp.get i)).get id = some b := hb
  rw [Tr.get_set] at hb
  split at hb
  ·rename_i e; subst e; have := R.lt hb; omega
  ·exact S.newrw id b hb hid
 ·exact S.frame k hk fun id b X hb hr hX hlo => by
   rcases frz_get hb with ⟨_, q⟩ | ⟨_, q⟩
   ·rw [q] at hr; cases hr
   ·exact hno id b X q hr hX (Nat.le_trans hl hlo)
 ·rcases S.fresh id X hid e with q | ⟨id0, b, X0, q1, q2, q3, q4, q5⟩
  ·exact .inl q
  ·rcases frz_get q1 with ⟨_, q⟩ | ⟨_, q⟩
   ·rw [q] at q2; cases q2
   ·exact .inr ⟨id0, b, X0, q, q2, q3, Nat.le_trans hl q4, q5⟩
theorem HR.start {B : Nat} {ρ : Ren} {h : Hs} {w : World} (fr : Fr) (lw : Option LW) (R : HR B ρ h w) : HR B ρ (dStart fr h lw) w := by
 cases lw with
 | none => exact R
 | some L =>
  obtain ⟨fz, p, ts⟩ := L
  cases fz with
  | false => exact ⟨R.base, R.dom, R.has, R.inj⟩
  | true => exact R.frz _ _
theorem dStart_nx (fr : Fr) (h : Hs) (lw : Option LW) : (dStart fr h lw).nx = h.nx := by
 cases lw with
 | none => rfl
 | some L => obtain ⟨fz, p, ts⟩ := L; cases fz <;> rfl
theorem dStart_cut {fr : Fr} {h : Hs} {lw : Option LW} (hc : cutO fr lw ≤ h.nx) : cutO fr lw ≤ (dStart fr h lw).lo ∧ cutO fr lw ≤ (dStart fr h lw).nx := by
 rw [dStart_nx]
 cases lw with
 | none => exact ⟨Nat.zero_le _, Nat.zero_le _⟩
 | some L => obtain ⟨fz, p, ts⟩ := L; cases fz <;> exact ⟨hc, hc⟩
theorem St.relo {B : Nat} {ρ ρ' : Ren} {h h' : Hs} {w w' : World} {fr : Fr} (lw : Option LW) (R : HR B ρ h w) (S : St B ρ (dStart fr h lw) w ρ' h' w') : St B ρ h w ρ' (dEnd fr h h' lw) w' := by
 cases lw with
 | none => exact S
 | some L =>
  obtain ⟨fz, p, ts⟩ := L
  cases fz with
  | true => exact St.unfrz R S
  | false =>
  have hl : minN h.lo h'.lo ≤ h'.lo := minN_le_right _ _
  exact ⟨⟨S.hr.base, S.hr.dom, S.hr.has, S.hr.inj⟩, S.nx, S.le, S.old, S.below, S.size, minN_le_left _ _, fun id b hb hlo => S.keep id b hb (Nat.lt_of_lt_of_le hlo hl),
   fun id b hb hid => by obtain ⟨b0, q1, q2, q3⟩ := S.gone id b hb hid; exact ⟨b0, q1, q2, fun hlo => q3 (Nat.lt_of_lt_of_le hlo hl)⟩,
   S.newrw, fun k hk hno => S.frame k hk fun id b X hb hr hX hlo => hno id b X hb hr hX (Nat.le_trans hl hlo),
   fun id X hid e => by
    rcases S.fresh id X hid e with q | ⟨id0, b, X0, q1, q2, q3, q4, q5⟩
    ·exact .inl q
    ·exact .inr ⟨id0, b, X0, q1, q2, q3, Nat.le_trans hl q4, q5⟩⟩
theorem dreg_any {P : Program} {R : Rn} (hN : Named P) (G : Good P R) (hcall : HC P R) {ops : Array Oper} {N : Nat} {sl : List Nat} {fr fr' : Fr} {h h' : Hs} {e : Ex}
 {B : Nat} {ρ : Ren} {a : Act} {w : World} (hr : stepC R fr h (dregC P N sl ops) = some (.fin e fr' h')) (L : FrR ρ sl N fr a.tmps) (Rl : HR B ρ h w) : wpAny P .any ops (CP B ρ h w sl N a.defers e fr' h') ops.size (Array.replicate ops.size false) a { w with drawn := w.drawn + 1 } := by
 have bad : ∀ o : GOper, o = ⟨.fn oBad, none, none⟩ → stepC R fr h (.reg [o]) ≠ some (.fin e fr' h') := fun o ho hh => by
  subst ho; simp [stepC, runOps_cons, opGo, goes, doOp, oBad, after] at hh
 unfold dregC at hr
 cases hbf : befs ops.toList 0 [] with
 | none => rw [hbf] at hr; exact absurd hr (bad _ rfl)
 | some ms =>
  rw [hbf] at hr
  simp only [dregOf, dregW] at hr
  cases hap : apartN (dstsOf ops.toList) with
  | false => rw [hap] at hr; exact absurd hr (bad _ rfl)
  | true =>
   rw [hap] at hr
   generalize hlw : lwOf P sl ops ms = lw at hr
   simp only [stepC, runDreg] at hr
   cases hcut : Nat.ble (cutO fr lw) h.nx with
   | false => rw [hcut] at hr; cases hr
   | true =>
   rw [hcut] at hr
   simp only at hr
   obtain ⟨V, H, hH0, hrec, hk⟩ := runD_rec _ _ _ _ hr
   obtain ⟨s1, _, s3⟩ := befs_spec ops.toList [] ms hbf
   simp only [List.length_nil, Nat.zero_add] at s1 s3
   have hms : ∀ i, i < ops.size → ms[i]? = some (ms.getD i 0) := fun i hi => by
    rw [List.getD_eq_getElem?_getD, List.getElem?_eq_getElem (by rw [s1]; simpa using hi)]; rfl
   have hol : ∀ {i : Nat} {o : Oper}, ops[i]? = some o → ops.toList[i]? = some o := fun h => by simpa using h
   have hlt : ∀ {i : Nat} {o : Oper}, ops[i]? = some o → i < ops.size := fun h => (Array.getElem?_eq_some_iff.1 h).1
   have hbl : (blinds lw ops.toList).length = ms.length := by rw [blinds_len, s1]
   have hrl := inters_len (ones := onesOf ms) hbl.symm
   generalize hrs : inters (onesOf ms) (blinds lw ops.toList) ms = rs at hrec hk hr hrl
   generalize hdl : dopers P lw sl ops (dstNs N ops.toList) ms ops.toList ms rs 0 0 = dl at hrec hk hr
   let K : Nat → DK := fun i => match dl[i]? with | some d => d.kind | none => .blind
   let Xc : Nat → Cx := fun i => ⟨drawLook sl (dstNs N ops.toList) ms i (ms.getD i 0)⟩
   have hd : ∀ (i : Nat) (o : Oper), ops[i]? = some o → ∃ nb r, rs[i]? = some r ∧ K i = kindOf (bld lw o.op) (mkOp o.op) nb r (ms.getD i 0) i ∧ dl[i]? = some ⟨gop P (Xc i) o, (goper P (Xc i) sl ops o).guard, K i, lmIf (ms.getD i 0) i (K i), lw, isLow lw o.op⟩ ∧
    ∀ (j : Nat) (o' : Oper), j < i → ops[j]? = some o' → bld lw o'.op = false → nb.testBit j = true := fun i o ho => by
    have hir : i < rs.length := by rw [hrl, hbl, s1]; simpa using hlt ho
    obtain ⟨nb, q1, _, q3⟩ := dopers_get (P := P) (sl := sl) (ops := ops) (ds := dstNs N ops.toList) (all := ms) ops.toList ms rs 0 0 i o (ms.getD i 0) rs[i] (hol ho) (hms i (hlt ho)) (List.getElem?_eq_getElem hir)
    simp only [Nat.zero_add] at q1 q3
    rw [hdl] at q1
    have hKi : K i = kindOf (bld lw o.op) (mkOp o.op) nb rs[i] (ms.getD i 0) i := by show (match dl[i]? with | some d => d.kind | none => _) = _; rw [q1]
    exact ⟨nb, rs[i], List.getElem?_eq_getElem hir, hKi, by rw [q1, hKi], fun j o' hj hjo => q3 j o' hj (hol hjo)⟩
   have hat : ∀ i, i < ops.size → ops[i]? = some ops[i]! := fun i hi => by simp [hi]
   have hnbl : ∀ j, j < ops.size → K j ≠ .blind → bld lw ops[j]!.op = false := fun j hj hk => by
    obtain ⟨nb, r, _, q, _⟩ := hd j _ (hat j hj)
    cases hb : bld lw ops[j]!.op with
    | false => rfl
    | true => rw [hb] at q; exact absurd (q.trans (kindOf_blind.2 rfl)) hk
   have hD : ∀ j t, (ops.toList[j]?).bind (dstOf N) = some t ↔ (dstNs N ops.toList)[j]? = some (some t) := fun j t => by
    rw [dstNs_get]
    cases ops.toList[j]? with
    | none => simp
    | some o => simp
   have d : Dr R P N sl ops fr V H (fun i => match ops[i]? with | some o => edgesOf o.after.toList | none => []) (fun i => ms.getD i 0) K (fun i => (ops.toList[i]?).bind (dstOf N)) Xc lw (dStart fr h lw) := by
    refine ⟨fun i o ho => by simp only [ho], fun i hi e he => ?_, fun i x hi hx => ?_, fun i o ho => by simp only [hol ho]; rfl, fun i j o o' t h1 h2 h3 h4 => apartN_spec hap i j o o' (hol h1) (hol h2) h3 h4, fun i j hk hi hj hkj => ?_, fun i j hk hij hj hkj hkm => ?_,
     fun i t hi => ?_, fun i o ho => ?_, fun i o ho hlow => ?_, ?_⟩
    ·simp only [hat i hi] at he
     exact (s3 i _ (hol (hat i hi))).1 e he
    ·simp only [hat i hi]
     exact (s3 i _ (hol (hat i hi))).2 x hx
    ·obtain ⟨nb, r, _, q, _, q3⟩ := hd i _ (hat i hi)
     rw [q] at hk
     exact (kindOf_bar hk).2.1 j (q3 j _ hj (hat j (by omega)) (hnbl j (by omega) hkj))
    ·obtain ⟨nb, r, qr, q, _, q3⟩ := hd i _ (hat i (by omega))
     rw [q] at hk
     refine inters_spec (by rw [hrs]; exact qr) j _ hij ?_ (hms j hj) (kindOf_bar hk).2.2
     rw [blinds_get, hol (hat j hj)]
     have hb := hnbl j hj hkj
     obtain ⟨_, _, _, qj, _⟩ := hd j _ (hat j hj)
     rw [qj] at hkm
     simp only [Option.map_some, off, hb, kindOf_make hkm hb]
    ·have hsl : ∀ c : Bool, (∀ j, j < ops.size → (ops.toList[j]?).bind (dstOf N) = some t → c = true → (ms.getD j 0).testBit i = true) → ∀ x, x = ifX c (slotX sl t) → x = .c dunno ∨ ∃ p, slot sl t = some p ∧ x = .t p ∧ ∀ j, j < ops.size → (ops.toList[j]?).bind (dstOf N) = some t → (ms.getD j 0).testBit i = true := fun c hc x hx => by
      cases c with
      | false => exact .inl hx
      | true =>
       simp only [ifX, slotX] at hx
       cases hs : slot sl t with
       | none => rw [hs] at hx; exact .inl hx
       | some p => rw [hs] at hx; exact .inr ⟨p, rfl, hx, fun j hj hjd => hc j hj hjd rfl⟩
     show (_ ∨ drawLook sl (dstNs N ops.toList) ms i (ms.getD i 0) t = _ ∨ _)
     simp only [show (Xc i).look t = drawLook sl (dstNs N ops.toList) ms i (ms.getD i 0) t from rfl]
     unfold drawLook
     cases hp : posOf t (dstNs N ops.toList) 0 with
     | none =>
      right
      exact hsl true (fun j _ hjd _ => absurd ((hD j t).1 hjd) (posOf_none hp j)) _ rfl
     | some j =>
      obtain ⟨k, e1, e2⟩ := posOf_some hp
      have e1 : j = k := by omega
      subst e1
      have hjd := (hD j t).2 e2
      simp only [drawLook2]
      have huniq : ∀ j', j' < ops.size → (ops.toList[j']?).bind (dstOf N) = some t → j' = j := fun j' hj' h' => by
       obtain ⟨o1, a1, a2⟩ := Option.bind_eq_some_iff.1 h'
       obtain ⟨o2, b1, b2⟩ := Option.bind_eq_some_iff.1 hjd
       exact apartN_spec hap j' j o1 o2 a1 b1 (dstOf_some a2).1 (dstOf_some b2).1
      cases hb : Nat.blt j i with
      | true =>
       rw [blt_eq] at hb
       have hji : j < i := by simpa using hb
       cases ht : Nat.testBit (ms.getD i 0) j with
       | true => exact .inl ⟨j, hji, hjd, ht, _, rfl, fun U => nthL_ixOf hji⟩
       | false => exact .inr (.inl rfl)
      | false =>
       right
       refine hsl (Nat.testBit (nthN ms j) i) (fun j' hj' h' hc => ?_) _ rfl
       rw [huniq j' hj' h', ← nthN_eq]; exact hc
    ·obtain ⟨nb, r, _, _, q, _⟩ := hd i o ho
     have := hrec i _ q
     simp only [List.append_nil] at this
     exact this
    ·obtain ⟨nb, r, _, q, _, _⟩ := hd i o ho
     rw [q, kindOf_blind]
     unfold bld; rw [hlow]
    ·rw [hH0]
     have hc := Nat.le_of_ble_eq_true hcut
     exact dStart_cut hc
   rw [← hdl, dopers_len _ _ _ _ _ s1 (by rw [hrl, hbl, s1])] at hk
   simp only [List.append_nil, Array.length_toList, Option.some.injEq, Out.fin.injEq] at hk
   obtain ⟨rfl, rfl, rfl⟩ := hk
   have Rz : HR B ρ (dStart fr h lw) w := Rl.start fr lw
   have s0 := St.draw Rz
   have hno : ∀ j, (Array.replicate ops.size false).getD j false = true → False := fun j hj => by
    rw [Array.getD_eq_getD_getElem?, Array.getElem?_replicate] at hj
    split at hj <;> simp at hj
   refine (any_wp hN G hcall d s0.hr (by rw [hH0]) rfl L (fun listed a' w' p ρb wb ρ' I hall => ?_) ops.size _ a _ 0 ρ { w with drawn := w.drawn + 1 } ρ ?_ ?_)
   ·have hS := I.conv d s0.hr I.ple (Nat.le_refl _) (fun k hk hkn => I.nobar k hk (hall k hkn)) (fun j hj _ => hall j hj)
    refine ⟨rfl, I.dfr, ρ'.upto (H ops.size).nx, ⟨fun t q hq => ?_, by rw [I.tsz]; exact L.size, L.lt⟩, St.relo lw Rl (St.trans Rz s0 hS)⟩
    rw [backL_rev]
    rcases putAll_slot hq ops.toList ((List.range ops.size).map V) fr (by simp) with ⟨j, o, v, q1, q2, q3, q4⟩ | ⟨q1, q2⟩
    ·rw [q4]
     have hj : j < ops.size := by have := (List.getElem?_eq_some_iff.1 q1).1; simpa using this
     have hv : v = V j := by
      rw [List.getElem?_map, List.getElem?_range hj] at q3
      simpa using q3.symm
     rw [hv]
     refine (I.vals j t (hall j hj) ?_).mono (Ren.upto_mono (Ren.le_refl _) (d.nx (by omega) (Nat.le_refl _)))
     simp only [q1, Option.bind_some]
     exact dstOf_of q2 (L.lt t (slot_mem hq))
    ·rw [q2, I.rest t (L.lt t (slot_mem hq)) fun j hj hd => ?_]
     ·exact (L.fr t q hq).mono hS.le
     ·obtain ⟨o, h1, h2⟩ := Option.bind_eq_some_iff.1 hd
      exact q1 o (List.mem_of_getElem? h1) (dstOf_some h2).1
   ·refine ⟨by simp, fun i x hi => absurd (hno i hi) not_false, Nat.zero_le _, fun j hj => by omega, fun j _ hl => absurd (hno j hl) not_false, ?_, fun _ _ => rfl, fun id X hid hX => ?_, fun _ _ => rfl, Below.refl _ _, Nat.le_refl _,
     fun j _ hl => absurd (hno j hl) not_false, fun j j' _ _ hl => absurd (hno j hl) not_false, fun j _ hl => absurd (hno j hl) not_false, fun j t hl => absurd (hno j hl) not_false, fun _ _ _ => rfl, rfl, rfl⟩
    ·rw [hH0]; exact St.refl s0.hr
    ·rw [hH0] at hid; rw [Rz.dom id hid] at hX; cases hX
   ·simp
end Go.Gev
